/- Bytes over this seat's types: the append of bytes, and whether bytes are the same. No condition. -/
import Derived.Test.YtmnkgmadogkjbaaMem
namespace Go.Proofs.Ytmnkgmadogkjbaa.Mem
open Go.ChangeShapes Go.WideShapes Go.ChangeAt Go.RowKit Go.Proofs.Ytmnkgmadogkjbaa.Kit
theorem info_u8 : (Try.prog.info? 5).map (fun i => (i.zero, i.size, i.bytes)) = some (some (.int .u8 0), 1, 1) := by kernel_rfl

theorem app_u8 {w : World} {ops : Array Oper} {rest : List Oper} {o : Oper} {a : Act} {Q : Exit → Act → World → Prop} (hgd : o.guard = none) (s x : Operand)
    (ho : o.op = .call { callee := .builtin .append, args := #[s, x], argTypes := #[25, 25] })
    (base : Nat) (A : Option Addr) (n c : Nat) (l : List Int) (hs : a.eval s = .slice A n c) (hown : w.ownsRow base 5 1 (.slice A n c) n (BV l))
    (B : Nat) (A2 : Option Addr) (m c2 : Nat) (l2 : List Int) (hx : a.eval x = .slice A2 m c2) (hb : Bytes w B A2 m l2) (hsz : n + m ≤ 140737488355328) (hbase : base ≤ w.heap.size)
    (h : ∀ A' c' w', w'.ownsRow base 5 1 (.slice A' (n + m) c') (n + m) (BV (l ++ l2)) → w.grownBy w' (Value.ownBlock (.slice A n c)) → Below base w w' → n + m ≤ c' → c' ≤ maxLen → wpList Try.prog ops Q rest (a.put o.dst (.slice A' (n + m) c')) w') :
    wpList Try.prog ops Q (o :: rest) a w := by
  obtain ⟨i, hi, h1, h2, h3⟩ := info_parts info_u8
  refine wpList_plain hgd fun K hK => ?_
  refine wp_append_row w s x 25 ho base 5 i (.int .u8 0) 1 1 Try.underlying25 hi h1 h2 h3 rfl (by decide) _ n (BV l) hs hown B A2 m c2 (BV l2) hx (by simp [BV, hb.1]) (bytes_row hb) (bv_one l2) (by unfold maxLen; omega) (by omega) hbase ?_
  intro A' c' w' k1 k2 k3 k4 k5
  rw [bv_append] at k1
  exact hK _ _ (h A' c' w' k1 k2 k3 k4 k5)

/-- .. onto an empty row. -/
theorem app_u8_0 {w : World} {ops : Array Oper} {rest : List Oper} {o : Oper} {a : Act} {Q : Exit → Act → World → Prop} (hgd : o.guard = none) (s x : Operand)
    (ho : o.op = .call { callee := .builtin .append, args := #[s, x], argTypes := #[25, 25] })
    (base : Nat) (A : Option Addr) (c : Nat) (hs : a.eval s = .slice A 0 c) (hown : w.ownsRow base 5 1 (.slice A 0 c) 0 (BV []))
    (B : Nat) (A2 : Option Addr) (m c2 : Nat) (l2 : List Int) (hx : a.eval x = .slice A2 m c2) (hb : Bytes w B A2 m l2) (hsz : m ≤ 140737488355328) (hbase : base ≤ w.heap.size)
    (h : ∀ A' c' w', w'.ownsRow base 5 1 (.slice A' m c') m (BV l2) → w.grownBy w' (Value.ownBlock (.slice A 0 c)) → Below base w w' → m ≤ c' → c' ≤ maxLen → wpList Try.prog ops Q rest (a.put o.dst (.slice A' m c')) w') :
    wpList Try.prog ops Q (o :: rest) a w := by
  refine app_u8 hgd s x ho base A 0 c [] hs hown B A2 m c2 l2 hx hb (by omega) hbase ?_
  intro A' c' w' k1 k2 k3 k4 k5
  rw [Nat.zero_add, List.nil_append] at k1
  rw [Nat.zero_add] at k4
  have := h A' c' w' k1 k2 k3 k4 k5
  rw [Nat.zero_add]
  exact this

/-- Are bytes the same? -/
def sameB (l m : List Int) : Bool := (strOfNums l).toList == (strOfNums m).toList
theorem sameB_self (l : List Int) : sameB l l = true := by simp [sameB]
theorem same_any {w : World} {B B' n n' c c' : Nat} {A A' : Option Addr} {l l' : List Int} (h : Bytes w B A n l) (h' : Bytes w B' A' n' l') :
    Calls Try.prog 10 #[.slice A n c, .slice A' n' c'] w fun e w' => e = .returned (.bool (sameB l l')) ∧ w = w' := by
  have k1 := run_string_of (P := Try.prog) h 25 9 5 Try.underlying25 Try.underlying5 Try.underlying9 c
  have k2 := run_string_of (P := Try.prog) h' 25 9 5 Try.underlying25 Try.underlying5 Try.underlying9 c'
  clear h h'
  go_enter Try.func10, Try.ntmps10
  go_wp2
  go_ret
  exact ⟨rfl, rfl⟩
end Go.Proofs.Ytmnkgmadogkjbaa.Mem
