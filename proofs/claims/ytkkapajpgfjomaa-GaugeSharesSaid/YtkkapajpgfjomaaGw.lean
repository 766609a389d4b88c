/- Arguments of the laws of this chapter. No condition. -/
import Derived.Test.YtkkapajpgfjomaaGl
import Derived.Test.YtkkapajpgfjomaaOpen
import Derived.Laws.Cover2
namespace Go.Proofs.Ytkkapajpgfjomaa.Gauge
open Go.ChangeShapes Go.WideShapes Go.ChangeAt Go.RowKit Go.Proofs.Ytkkapajpgfjomaa.Kit Go.Proofs.Ytkkapajpgfjomaa.Flt Go.Proofs.Ytkkapajpgfjomaa.Real Go.Proofs.Ytkkapajpgfjomaa.Mem Go.Deep
set_option linter.unusedVariables false
theorem float_lt {b : Nat} (h : (Lit.float .f64 b).wf = true) : b < 18446744073709551616 := by
  have := of_decide_eq_true h
  exact this
theorem srow_of_floats {w : World} {B n : Nat} {A : Option Addr} {l : List Nat} (h1 : l.length = n) (h2 : Row w B A n (fun j => .float .f64 (l.getD j 0))) : SRow encF 1 w B A n l := by
  refine ⟨h1, ?_⟩
  rw [Nat.mul_one]
  refine row_of h2 fun j hj => ?_
  have := sv_get (enc := encF) encF_len 0 l j 0 (by omega) (by decide)
  rw [Nat.mul_one, Nat.add_zero] at this
  rw [this]
  rfl
theorem fit_get {l : List Nat} (h : ∀ z ∈ l, z < 18446744073709551616) (j : Nat) : l.getD j 0 < 18446744073709551616 := by
  by_cases hj : j < l.length
  · rw [List.getD_eq_getElem?_getD, List.getElem?_eq_getElem hj, Option.getD_some]
    exact h _ (List.getElem_mem hj)
  · rw [List.getD_eq_getElem?_getD, List.getElem?_eq_none (by omega), Option.getD_none]
    decide
end Go.Proofs.Ytkkapajpgfjomaa.Gauge
