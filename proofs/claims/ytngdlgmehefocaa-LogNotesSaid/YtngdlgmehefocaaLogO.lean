/- Logs that are handed in. No condition. -/
import Derived.Test.YtngdlgmehefocaaLogN
namespace Go.Proofs.Ytngdlgmehefocaa.Log
open Go.ChangeShapes Go.WideShapes Go.ChangeAt Go.RowKit Go.Proofs.Ytngdlgmehefocaa.Kit Go.Proofs.Ytngdlgmehefocaa.Mem Go.Deep
set_option linter.unusedVariables false
section
variable {H : Type} {enc : TypeId × Value → H} {w : World}
theorem len3 {cs : List Value} (h : cs.length = 3) : ∃ a b c, cs = [a, b, c] := by
  match cs, h with
  | [a, b, c], _ => exact ⟨a, b, c, rfl⟩
theorem rdS_chg {cs : List Value} (h : RdS enc Try.prog w 32 cs) : ∃ x : Chg, cs = encC x ∧ True := by
  obtain ⟨hl, hf⟩ := rdS_struct Try.underlying32 h
  obtain ⟨a, b, c, rfl⟩ := len3 (hl.trans (by kernel_rfl))
  obtain ⟨n0, e0, _⟩ := rdS_i64 (cs := [a]) Try.underlying3 (hf 0 _ rfl)
  obtain ⟨n1, e1, _⟩ := rdS_i64 (cs := [b]) Try.underlying3 (hf 1 _ rfl)
  obtain ⟨n2, e2, _⟩ := rdS_i64 (cs := [c]) Try.underlying3 (hf 2 _ rfl)
  simp only [List.cons.injEq, and_true] at e0 e1 e2
  subst e0 e1 e2
  exact ⟨(n0, n1, n2), rfl, trivial⟩
theorem rdS_log {cs : List Value} (h : RdS enc Try.prog w 24 cs) : ∃ (room last : Int) (A : Option Addr) (n c : Nat) (l : List Chg), cs = [.int .i64 room, .int .i64 last, .slice A n c] ∧ n ≤ c ∧ c ≤ maxLen ∧ n ≤ 140737488351232 ∧ LRow w w.heap.size A n l ∧ (-9223372036854775808 ≤ room ∧ room ≤ 9223372036854775807) ∧ (-9223372036854775808 ≤ last ∧ last ≤ 9223372036854775807) := by
  obtain ⟨hl, hf⟩ := rdS_struct Try.underlying24 h
  obtain ⟨a, b, c, rfl⟩ := len3 (hl.trans (by kernel_rfl))
  obtain ⟨n0, e0, h0⟩ := rdS_i64 (cs := [a]) Try.underlying3 (hf 0 _ rfl)
  obtain ⟨n1, e1, h1⟩ := rdS_i64 (cs := [b]) Try.underlying3 (hf 1 _ rfl)
  obtain ⟨A, n, cc, xs, e2, h2, h3, h4, h5, _⟩ := rdS_srow (cs := [c]) (enc := encC) (good := fun _ => True) (bytes := 24) Try.underlying22 (by kernel_rfl) (by kernel_rfl) (by decide) encC_len (fun cs hcs => rdS_chg hcs) (hf 2 _ rfl)
  simp only [List.cons.injEq, and_true] at e0 e1 e2
  subst e0 e1 e2
  exact ⟨n0, n1, A, n, cc, xs, rfl, h2, h3, by omega, h5, h0, h1⟩
end
end Go.Proofs.Ytngdlgmehefocaa.Log
