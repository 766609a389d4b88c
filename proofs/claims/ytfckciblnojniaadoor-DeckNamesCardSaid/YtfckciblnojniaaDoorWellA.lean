/- Whether a place is one, of this layer and of the reference. No condition. -/
import Derived.Test.YtfckciblnojniaaDoorNumT
namespace Go.Proofs.YtfckciblnojniaaDoor.Well
open Go.ChangeShapes Go.WideShapes Go.ChangeAt Go.RowKit Go.Proofs.YtfckciblnojniaaDoor.Kit Go.Proofs.YtfckciblnojniaaDoor.Num Go.Deep
set_option linter.unusedVariables false
def rightP (r c : Int) : Bool := decide (0 ≤ r ∧ r ≤ 31 ∧ 0 ≤ c ∧ c ≤ 47)
theorem right_any (r c : Int) (w : World) : Calls Tryd.prog 50 #[.agg #[.int .i64 r, .int .i64 c]] w fun e w' => e = .returned (.bool (rightP r c)) ∧ Below w.heap.size w w' := by
  have H : Hid (rightP r c = decide (0 ≤ r ∧ r ≤ 31 ∧ 0 ≤ c ∧ c ≤ 47)) := hide rfl
  by_cases h1 : r < 0
  · have HD := hide (show decide (0 ≤ r ∧ r ≤ 31 ∧ 0 ≤ c ∧ c ≤ 47) = false from decide_eq_false (by omega))
    go_enter Tryd.func50, Tryd.ntmps50
    go_wp2
    go_ret
    exact ⟨by rw [H.out, HD.out]; rfl, (by repeat' (first | (with_reducible exact Below.refl _ _) | (with_reducible refine below_drewN ?_ _) | (with_reducible refine Below.drew ?_) | (with_reducible refine Below.alloc ?_ ?_ _) | (with_reducible refine Below.setCell ?_ ?_ _) | (with_reducible refine below_step ?_ (by assumption) ?_) | (with_reducible refine below_step ?_ (below_regrown _ _ _) ?_) | go_size))⟩
  by_cases h2 : 32 ≤ r
  · have HD := hide (show decide (0 ≤ r ∧ r ≤ 31 ∧ 0 ≤ c ∧ c ≤ 47) = false from decide_eq_false (by omega))
    go_enter Tryd.func50, Tryd.ntmps50
    go_wp2
    go_ret
    exact ⟨by rw [H.out, HD.out]; rfl, (by repeat' (first | (with_reducible exact Below.refl _ _) | (with_reducible refine below_drewN ?_ _) | (with_reducible refine Below.drew ?_) | (with_reducible refine Below.alloc ?_ ?_ _) | (with_reducible refine Below.setCell ?_ ?_ _) | (with_reducible refine below_step ?_ (by assumption) ?_) | (with_reducible refine below_step ?_ (below_regrown _ _ _) ?_) | go_size))⟩
  by_cases h3 : c < 0
  · have HD := hide (show decide (0 ≤ r ∧ r ≤ 31 ∧ 0 ≤ c ∧ c ≤ 47) = false from decide_eq_false (by omega))
    go_enter Tryd.func50, Tryd.ntmps50
    go_wp2
    go_ret
    exact ⟨by rw [H.out, HD.out]; rfl, (by repeat' (first | (with_reducible exact Below.refl _ _) | (with_reducible refine below_drewN ?_ _) | (with_reducible refine Below.drew ?_) | (with_reducible refine Below.alloc ?_ ?_ _) | (with_reducible refine Below.setCell ?_ ?_ _) | (with_reducible refine below_step ?_ (by assumption) ?_) | (with_reducible refine below_step ?_ (below_regrown _ _ _) ?_) | go_size))⟩
  by_cases h4 : 48 ≤ c
  · have HD := hide (show decide (0 ≤ r ∧ r ≤ 31 ∧ 0 ≤ c ∧ c ≤ 47) = false from decide_eq_false (by omega))
    have g4 : decide (c < 48) = false := decide_eq_false (by omega)
    go_enter Tryd.func50, Tryd.ntmps50
    go_wp2
    go_ret
    exact ⟨by rw [H.out, HD.out]; rfl, (by repeat' (first | (with_reducible exact Below.refl _ _) | (with_reducible refine below_drewN ?_ _) | (with_reducible refine Below.drew ?_) | (with_reducible refine Below.alloc ?_ ?_ _) | (with_reducible refine Below.setCell ?_ ?_ _) | (with_reducible refine below_step ?_ (by assumption) ?_) | (with_reducible refine below_step ?_ (below_regrown _ _ _) ?_) | go_size))⟩
  have HD := hide (show decide (0 ≤ r ∧ r ≤ 31 ∧ 0 ≤ c ∧ c ≤ 47) = true from decide_eq_true (by omega))
  have g4 : decide (c < 48) = true := decide_eq_true (by omega)
  go_enter Tryd.func50, Tryd.ntmps50
  go_wp2
  go_ret
  exact ⟨by rw [H.out, HD.out]; rfl, (by repeat' (first | (with_reducible exact Below.refl _ _) | (with_reducible refine below_drewN ?_ _) | (with_reducible refine Below.drew ?_) | (with_reducible refine Below.alloc ?_ ?_ _) | (with_reducible refine Below.setCell ?_ ?_ _) | (with_reducible refine below_step ?_ (by assumption) ?_) | (with_reducible refine below_step ?_ (below_regrown _ _ _) ?_) | go_size))⟩
theorem rright_any (r c : Int) (w : World) : Calls Tryd.prog 61 #[.agg #[.int .i64 r, .int .i64 c]] w fun e w' => e = .returned (.bool (rightP r c)) ∧ Below w.heap.size w w' := by
  have H : Hid (rightP r c = decide (0 ≤ r ∧ r ≤ 31 ∧ 0 ≤ c ∧ c ≤ 47)) := hide rfl
  by_cases h1 : r < 0
  · have HD := hide (show decide (0 ≤ r ∧ r ≤ 31 ∧ 0 ≤ c ∧ c ≤ 47) = false from decide_eq_false (by omega))
    go_enter Tryd.func61, Tryd.ntmps61
    go_wp2
    go_ret
    exact ⟨by rw [H.out, HD.out]; rfl, (by repeat' (first | (with_reducible exact Below.refl _ _) | (with_reducible refine below_drewN ?_ _) | (with_reducible refine Below.drew ?_) | (with_reducible refine Below.alloc ?_ ?_ _) | (with_reducible refine Below.setCell ?_ ?_ _) | (with_reducible refine below_step ?_ (by assumption) ?_) | (with_reducible refine below_step ?_ (below_regrown _ _ _) ?_) | go_size))⟩
  by_cases h2 : 31 < r
  · have HD := hide (show decide (0 ≤ r ∧ r ≤ 31 ∧ 0 ≤ c ∧ c ≤ 47) = false from decide_eq_false (by omega))
    go_enter Tryd.func61, Tryd.ntmps61
    go_wp2
    go_ret
    exact ⟨by rw [H.out, HD.out]; rfl, (by repeat' (first | (with_reducible exact Below.refl _ _) | (with_reducible refine below_drewN ?_ _) | (with_reducible refine Below.drew ?_) | (with_reducible refine Below.alloc ?_ ?_ _) | (with_reducible refine Below.setCell ?_ ?_ _) | (with_reducible refine below_step ?_ (by assumption) ?_) | (with_reducible refine below_step ?_ (below_regrown _ _ _) ?_) | go_size))⟩
  by_cases h3 : c < 0
  · have HD := hide (show decide (0 ≤ r ∧ r ≤ 31 ∧ 0 ≤ c ∧ c ≤ 47) = false from decide_eq_false (by omega))
    go_enter Tryd.func61, Tryd.ntmps61
    go_wp2
    go_ret
    exact ⟨by rw [H.out, HD.out]; rfl, (by repeat' (first | (with_reducible exact Below.refl _ _) | (with_reducible refine below_drewN ?_ _) | (with_reducible refine Below.drew ?_) | (with_reducible refine Below.alloc ?_ ?_ _) | (with_reducible refine Below.setCell ?_ ?_ _) | (with_reducible refine below_step ?_ (by assumption) ?_) | (with_reducible refine below_step ?_ (below_regrown _ _ _) ?_) | go_size))⟩
  by_cases h4 : 47 < c
  · have HD := hide (show decide (0 ≤ r ∧ r ≤ 31 ∧ 0 ≤ c ∧ c ≤ 47) = false from decide_eq_false (by omega))
    have g4 : decide (c ≤ 47) = false := decide_eq_false (by omega)
    go_enter Tryd.func61, Tryd.ntmps61
    go_wp2
    go_ret
    exact ⟨by rw [H.out, HD.out]; rfl, (by repeat' (first | (with_reducible exact Below.refl _ _) | (with_reducible refine below_drewN ?_ _) | (with_reducible refine Below.drew ?_) | (with_reducible refine Below.alloc ?_ ?_ _) | (with_reducible refine Below.setCell ?_ ?_ _) | (with_reducible refine below_step ?_ (by assumption) ?_) | (with_reducible refine below_step ?_ (below_regrown _ _ _) ?_) | go_size))⟩
  have HD := hide (show decide (0 ≤ r ∧ r ≤ 31 ∧ 0 ≤ c ∧ c ≤ 47) = true from decide_eq_true (by omega))
  have g4 : decide (c ≤ 47) = true := decide_eq_true (by omega)
  go_enter Tryd.func61, Tryd.ntmps61
  go_wp2
  go_ret
  exact ⟨by rw [H.out, HD.out]; rfl, (by repeat' (first | (with_reducible exact Below.refl _ _) | (with_reducible refine below_drewN ?_ _) | (with_reducible refine Below.drew ?_) | (with_reducible refine Below.alloc ?_ ?_ _) | (with_reducible refine Below.setCell ?_ ?_ _) | (with_reducible refine below_step ?_ (by assumption) ?_) | (with_reducible refine below_step ?_ (below_regrown _ _ _) ?_) | go_size))⟩
end Go.Proofs.YtfckciblnojniaaDoor.Well
