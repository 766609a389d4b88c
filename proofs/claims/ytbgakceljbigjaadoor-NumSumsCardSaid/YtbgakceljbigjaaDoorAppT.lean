/- Two rows of integers of a call's own, in different blocks: an append onto one keeps the other. No condition. -/
import Derived.Test.YtbgakceljbigjaaDoorAppI
import Derived.Maps.AppendAt
namespace Go.Proofs.YtbgakceljbigjaaDoor.Mem
open Go.ChangeShapes Go.WideShapes Go.ChangeAt Go.RowKit Go.Proofs.YtbgakceljbigjaaDoor.Kit
set_option linter.unusedVariables false
theorem own_form2 {w : World} {base n size : Nat} {e : TypeId} {v : Value} {xs : List Value} (h : w.ownsRow base e size v n xs) : ∃ A c, v = .slice A n c ∧ n ≤ c ∧ c ≤ maxLen := by
  rcases h.2 with ⟨rfl, rfl⟩ | ⟨g, cap, cur, rfl, _, _, h1, h2, _⟩
  · exact ⟨none, 0, rfl, Nat.le_refl _, Nat.zero_le _⟩
  · exact ⟨_, cap, rfl, h1, h2⟩
/-- Two rows of a call's own. -/
structure Two (w : World) (base : Nat) (A1 : Option Addr) (n1 c1 : Nat) (l1 : List Int) (A2 : Option Addr) (n2 c2 : Nat) (l2 : List Int) : Prop where
  own1 : w.ownsRow base 3 1 (.slice A1 n1 c1) n1 (IV l1)
  own2 : w.ownsRow base 3 1 (.slice A2 n2 c2) n2 (IV l2)
  apart : ∀ b, Value.ownBlock (.slice A1 n1 c1) = some b → Value.ownBlock (.slice A2 n2 c2) ≠ some b
theorem Two.swap {w : World} {base : Nat} {A1 A2 : Option Addr} {n1 c1 n2 c2 : Nat} {l1 l2 : List Int} (h : Two w base A1 n1 c1 l1 A2 n2 c2 l2) : Two w base A2 n2 c2 l2 A1 n1 c1 l1 :=
  ⟨h.own2, h.own1, fun b h2 h1 => h.apart b h1 h2⟩
theorem Two.alloc {w : World} {base : Nat} {A1 A2 : Option Addr} {n1 c1 n2 c2 : Nat} {l1 l2 : List Int} (h : Two w base A1 n1 c1 l1 A2 n2 c2 l2) (o : Obj) : Two (w.alloc o) base A1 n1 c1 l1 A2 n2 c2 l2 :=
  ⟨h.own1.alloc o, h.own2.alloc o, h.apart⟩
theorem Two.empty (w : World) (base : Nat) : Two w base none 0 0 [] none 0 0 [] := ⟨World.ownsRow_nil _ _ _ _, World.ownsRow_nil _ _ _ _, fun _ h => by cases h⟩
theorem app_two {w : World} {ops : Array Oper} {rest : List Oper} {o : Oper} {a : Act} {Q : Exit → Act → World → Prop} (hgd : o.guard = none) (s x : Operand)
    (ho : o.op = .call { callee := .builtin .append, args := #[s, x], argTypes := #[30, 30] })
    (base : Nat) (A1 : Option Addr) (n1 c1 : Nat) (l1 : List Int) (A2 : Option Addr) (n2 c2 : Nat) (l2 : List Int) (hs : a.eval s = .slice A1 n1 c1) (hown : Two w base A1 n1 c1 l1 A2 n2 c2 l2)
    (y : Int) (hx : a.eval x = .slice (some ⟨w.heap.size, 0, none⟩) 1 1) (hsz : n1 + 1 ≤ 17592186044416) (hbase : base ≤ w.heap.size)
    (h : ∀ A' c' w', Two w' base A' (n1 + 1) c' (l1 ++ [y]) A2 n2 c2 l2 → Below base w w' → n1 + 1 ≤ c' → c' ≤ maxLen → wpList Tryd.prog ops Q rest (a.put o.dst (.slice A' (n1 + 1) c')) w') :
    wpList Tryd.prog ops Q (o :: rest) a (w.alloc (.cells #[.int .i64 y] 3)) := by
  obtain ⟨i, hi, h1, h2, h3⟩ := info_parts info_i64
  have hown2 := hown.alloc (.cells #[.int .i64 y] 3)
  have hcells : ∀ j u, (IV [y])[j]? = some u → (w.alloc (.cells #[.int .i64 y] 3)).cell? ((⟨w.heap.size, 0, none⟩ : Addr).add j) = some u := by
    intro j u hu
    match j, hu with
    | 0, hu =>
      have e : u = .int .i64 y := by simpa [IV] using hu.symm
      rw [e]
      show (w.alloc (.cells #[.int .i64 y] 3)).cell? ⟨w.heap.size, 0, none⟩ = _
      rw [World.cell?_alloc_new]
      rfl
  obtain ⟨v', w', hrun, k2, k3, k4, k5⟩ := Go.run_append_own_at (P := Tryd.prog) (w.alloc (.cells #[.int .i64 y] 3)) base 30 o.type 3 i (.int .i64 0) 1 8 Tryd.underlying30 hi h1 h2 h3 rfl (by decide) _ n1 (IV l1) hown2.own1 ⟨w.heap.size, 0, none⟩ 1 1 (IV [y]) rfl hcells (iv_one [y]) (by unfold maxLen; omega) (by omega) (by simp; omega)
  obtain ⟨A', c', rfl, k6, k7⟩ := own_form2 k2
  rw [iv_append] at k2
  refine wpList_plain hgd fun K hK => ?_
  unfold Oper.wp execOp
  simp only [ho, resolve, invoke, builtin, Sem.run_bind, Sem.run_pure, Result.andThen_ok, List.map_toArray, List.map_cons, List.map_nil, hs, hx, hrun]
  have hb2 : ∀ b, Value.ownBlock (.slice A2 n2 c2) = some b → b < w.heap.size := fun b hb => (hown.own2.lt b hb).2
  have hb1 : ∀ b, Value.ownBlock (.slice A1 n1 c1) = some b → base ≤ b := fun b hb => (hown.own1.lt b hb).1
  have hne : Value.ownBlock (.slice A2 n2 c2) = none ∨ Value.ownBlock (.slice A2 n2 c2) ≠ Value.ownBlock (.slice A1 n1 c1) := by
    cases e : Value.ownBlock (.slice A2 n2 c2) with
    | none => exact .inl rfl
    | some b => exact .inr fun h2 => hown.apart b h2.symm e
  refine hK _ _ (h A' c' w' ⟨k2, hown2.own2.kept k3 hne, ?_⟩ ?_ k6 k7)
  · intro b hb h2
    rcases k5 with e | e
    · rw [e] at hb
      exact hown.apart b hb h2
    · rw [e] at hb
      have h3 := hb2 b h2
      have h4 := Option.some.inj hb
      simp at h4
      omega
  · exact ⟨k3.os, k3.tape, k3.output, Nat.le_trans (by simp) k3.size, fun b hb => by
      rw [k3.block b (by simp; omega) (fun e => by have := hb1 b e.symm; omega), heap_alloc_old w _ (by omega)]⟩
end Go.Proofs.YtbgakceljbigjaaDoor.Mem
