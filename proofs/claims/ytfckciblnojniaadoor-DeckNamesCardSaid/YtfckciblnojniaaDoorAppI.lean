/- The append of integers onto a row of a call's own. No condition. -/
import Derived.Test.YtfckciblnojniaaDoorMem
namespace Go.Proofs.YtfckciblnojniaaDoor.Mem
open Go.ChangeShapes Go.WideShapes Go.ChangeAt Go.RowKit Go.Proofs.YtfckciblnojniaaDoor.Kit
def IV (l : List Int) : List Value := l.map (Value.int .i64)
theorem iv_get (l : List Int) (j : Nat) (h : j < l.length) : (IV l).getD j undef = .int .i64 (l.getD j 0) := by
  simp [IV, List.getD_eq_getElem?_getD, List.getElem?_eq_getElem h]
theorem iv_one (l : List Int) : ∀ u ∈ IV l, u.oneCell' = true := by
  intro u hu
  obtain ⟨n, _, rfl⟩ := List.mem_map.1 hu
  rfl
theorem iv_append (l m : List Int) : IV l ++ IV m = IV (l ++ m) := by simp [IV]
/-- The slice (A, n) reads as the integers l, below block B. -/
def Ints (w : World) (B : Nat) (A : Option Addr) (n : Nat) (l : List Int) : Prop := l.length = n ∧ Row w B A n (fun j => .int .i64 (l.getD j 0))
theorem ints_row {w : World} {B n : Nat} {A : Option Addr} {l : List Int} (h : Ints w B A n l) : Row w B A (n * 1) (fun j => (IV l).getD j undef) := by
  rw [Nat.mul_one]
  exact row_of h.2 fun j hj => (iv_get l j (by rw [h.1]; exact hj)).symm
theorem ints_of_own {w : World} {base n c : Nat} {A : Option Addr} {e : TypeId} {l : List Int} (h : w.ownsRow base e 1 (.slice A n c) n (IV l)) : Ints w w.heap.size A n l := by
  have hl : l.length = n := by have := h.1; simpa [IV] using this
  refine ⟨hl, ?_⟩
  have := row_of_own h
  rw [Nat.mul_one] at this
  exact row_of this fun j hj => iv_get l j (by rw [hl]; exact hj)
theorem ints_below {w w' : World} {B B1 n : Nat} {A : Option Addr} {l : List Int} (h : Ints w B A n l) (hb : Below B1 w w') (hB : B ≤ B1) : Ints w' B A n l := ⟨h.1, row_below h.2 hb hB⟩
theorem ints_alloc {w : World} {B n : Nat} {A : Option Addr} {l : List Int} (h : Ints w B A n l) (hB : B ≤ w.heap.size) (o : Obj) : Ints (w.alloc o) B A n l := ⟨h.1, row_alloc h.2 hB o⟩
theorem ints_one (w : World) (x : Int) (t : TypeId) : Ints (w.alloc (.cells #[.int .i64 x] t)) (w.heap.size + 1) (some ⟨w.heap.size, 0, none⟩) 1 [x] :=
  ⟨rfl, row_of (row_new w [.int .i64 x] t) fun j hj => by obtain rfl : j = 0 := by { simp at hj; omega }; rfl⟩
theorem info_i64 : (Tryd.prog.info? 3).map (fun i => (i.zero, i.size, i.bytes)) = some (some (.int .i64 0), 1, 8) := by kernel_rfl
theorem app_i64 {w : World} {ops : Array Oper} {rest : List Oper} {o : Oper} {a : Act} {Q : Exit → Act → World → Prop} (hgd : o.guard = none) (s x : Operand)
    (ho : o.op = .call { callee := .builtin .append, args := #[s, x], argTypes := #[45, 45] })
    (base : Nat) (A : Option Addr) (n c : Nat) (l : List Int) (hs : a.eval s = .slice A n c) (hown : w.ownsRow base 3 1 (.slice A n c) n (IV l))
    (B : Nat) (A2 : Option Addr) (m c2 : Nat) (l2 : List Int) (hx : a.eval x = .slice A2 m c2) (hb : Ints w B A2 m l2) (hsz : n + m ≤ 17592186044416) (hbase : base ≤ w.heap.size)
    (h : ∀ A' c' w', w'.ownsRow base 3 1 (.slice A' (n + m) c') (n + m) (IV (l ++ l2)) → w.grownBy w' (Value.ownBlock (.slice A n c)) → Below base w w' → n + m ≤ c' → c' ≤ maxLen → wpList Tryd.prog ops Q rest (a.put o.dst (.slice A' (n + m) c')) w') :
    wpList Tryd.prog ops Q (o :: rest) a w := by
  obtain ⟨i, hi, h1, h2, h3⟩ := info_parts info_i64
  refine wpList_plain hgd fun K hK => ?_
  refine wp_append_row w s x 45 ho base 3 i (.int .i64 0) 1 8 Tryd.underlying45 hi h1 h2 h3 rfl (by decide) _ n (IV l) hs hown B A2 m c2 (IV l2) hx (by simp [IV, hb.1]) (ints_row hb) (iv_one l2) (by unfold maxLen; omega) (by omega) hbase ?_
  intro A' c' w' k1 k2 k3 k4 k5
  rw [iv_append] at k1
  exact hK _ _ (h A' c' w' k1 k2 k3 k4 k5)
theorem own_below {w w' : World} {base n size : Nat} {e : TypeId} {v : Value} {xs : List Value} (h : w.ownsRow base e size v n xs) (hb : Below w.heap.size w w') : w'.ownsRow base e size v n xs :=
  h.kept (row := none) ⟨hb.os, hb.tape, hb.output, hb.size, fun i hi _ => hb.block i hi⟩ (Classical.em _)
end Go.Proofs.YtfckciblnojniaaDoor.Mem
