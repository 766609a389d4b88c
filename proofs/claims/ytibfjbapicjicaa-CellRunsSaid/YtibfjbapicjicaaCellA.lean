/- Contracts of the cell layer: what each function answers, for every input. No condition. -/
import Derived.Test.YtibfjbapicjicaaKit
import Derived.Deep.QuietTactic
import Derived.BigQuiet
import Derived.WalkLawsBesides
import Derived.WalkSpells
import Derived.Handy
namespace Go.Proofs.Ytibfjbapicjicaa.Cell
open Go.ChangeShapes Go.WideShapes Go.ChangeAt Go.RowKit Go.Proofs.Ytibfjbapicjicaa.Kit

def btw (n lo hi : Int) : Int := if n < lo then lo else if hi < n then hi else n
def rightB (c v r : Int) : Bool := decide (1 ≤ c ∧ c ≤ 1099511627776 ∧ 0 ≤ v ∧ v ≤ c ∧ 0 ≤ r ∧ r ≤ 2147483647)

theorem btw_ne (n lo hi : Int) (h : lo ≤ n ∧ n ≤ hi) : (btw n lo hi != n) = false := by
  unfold btw; rw [if_neg (by omega), if_neg (by omega)]; simp
theorem btw_eq (n lo hi : Int) (h : ¬ (lo ≤ n ∧ n ≤ hi)) : (btw n lo hi != n) = true := by
  unfold btw; simp only [bne_iff_ne, ne_eq]; split <;> (try split) <;> omega


theorem between_any (n lo hi : Int) (w : World) : Calls Try.prog 22 #[.int .i64 n, .int .i64 lo, .int .i64 hi] w fun e w' => e = .returned (.int .i64 (btw n lo hi)) ∧ w' = w := by
  go_enter Try.func22, Try.ntmps22
  go_wp2
  all_goals
    go_ret
    refine ⟨ret_int ?_, rfl⟩
    unfold btw
    repeat' split
    all_goals first | rfl | omega


set_option maxHeartbeats 1000000 in
theorem right_any (c v r : Int) (w : World) : Calls Try.prog 15 #[.agg #[.int .i64 c, .int .i64 v, .int .i64 r]] w fun e w' => e = .returned (.bool (rightB c v r)) ∧ Below w.heap.size w w' := by
  by_cases h1 : 1 ≤ c ∧ c ≤ 1099511627776
  · have e1 := btw_ne _ _ _ h1
    by_cases h2 : 0 ≤ v ∧ v ≤ c
    · have e2 := btw_ne _ _ _ h2
      by_cases h3 : 0 ≤ r ∧ r ≤ 2147483647
      · have e3 := btw_ne _ _ _ h3
        go_enter Try.func15, Try.ntmps15
        go_wp2
        go_step3
        go_wp2
        go_step3
        go_wp2
        refine wp_loop_rounds 4 ?_
        rw [rounds_succ]
        go_wp2
        go_quiet ((go_at_call 22; exact Calls.quiet_of_same (between_any _ _ _ _)))
        go_wp2
        rw [rounds_succ]
        go_wp2
        go_quiet ((go_at_call 22; exact Calls.quiet_of_same (between_any _ _ _ _)))
        go_wp2
        rw [rounds_succ]
        go_wp2
        go_quiet ((go_at_call 22; exact Calls.quiet_of_same (between_any _ _ _ _)))
        go_wp2
        rw [rounds_succ]
        go_wp2
        (try rw [Exit.noGoto_ret])
        go_ret
        exact ⟨ret_bool (by unfold rightB; simp only [Bool.true_eq, decide_eq_true_eq]; omega), by repeat' (first | exact Below.refl _ _ | (refine below_drewN ?_ _) | (refine Below.drew ?_) | (refine Below.alloc ?_ ?_ _) | (refine Below.setCell ?_ ?_ _) | go_size)⟩
      · have e3 := btw_eq _ _ _ h3
        go_enter Try.func15, Try.ntmps15
        go_wp2
        go_step3
        go_wp2
        go_step3
        go_wp2
        refine wp_loop_rounds 4 ?_
        rw [rounds_succ]
        go_wp2
        go_quiet ((go_at_call 22; exact Calls.quiet_of_same (between_any _ _ _ _)))
        go_wp2
        rw [rounds_succ]
        go_wp2
        go_quiet ((go_at_call 22; exact Calls.quiet_of_same (between_any _ _ _ _)))
        go_wp2
        rw [rounds_succ]
        go_wp2
        go_quiet ((go_at_call 22; exact Calls.quiet_of_same (between_any _ _ _ _)))
        go_wp2
        (try rw [Exit.noGoto_ret])
        go_ret
        exact ⟨ret_bool (by unfold rightB; simp only [Bool.false_eq, decide_eq_false_iff_not]; omega), by repeat' (first | exact Below.refl _ _ | (refine below_drewN ?_ _) | (refine Below.drew ?_) | (refine Below.alloc ?_ ?_ _) | (refine Below.setCell ?_ ?_ _) | go_size)⟩
    · have e2 := btw_eq _ _ _ h2
      go_enter Try.func15, Try.ntmps15
      go_wp2
      go_step3
      go_wp2
      go_step3
      go_wp2
      refine wp_loop_rounds 4 ?_
      rw [rounds_succ]
      go_wp2
      go_quiet ((go_at_call 22; exact Calls.quiet_of_same (between_any _ _ _ _)))
      go_wp2
      rw [rounds_succ]
      go_wp2
      go_quiet ((go_at_call 22; exact Calls.quiet_of_same (between_any _ _ _ _)))
      go_wp2
      (try rw [Exit.noGoto_ret])
      go_ret
      exact ⟨ret_bool (by unfold rightB; simp only [Bool.false_eq, decide_eq_false_iff_not]; omega), by repeat' (first | exact Below.refl _ _ | (refine below_drewN ?_ _) | (refine Below.drew ?_) | (refine Below.alloc ?_ ?_ _) | (refine Below.setCell ?_ ?_ _) | go_size)⟩
  · have e1 := btw_eq _ _ _ h1
    go_enter Try.func15, Try.ntmps15
    go_wp2
    go_step3
    go_wp2
    go_step3
    go_wp2
    refine wp_loop_rounds 4 ?_
    rw [rounds_succ]
    go_wp2
    go_quiet ((go_at_call 22; exact Calls.quiet_of_same (between_any _ _ _ _)))
    go_wp2
    (try rw [Exit.noGoto_ret])
    go_ret
    exact ⟨ret_bool (by unfold rightB; simp only [Bool.false_eq, decide_eq_false_iff_not]; omega), by repeat' (first | exact Below.refl _ _ | (refine below_drewN ?_ _) | (refine Below.drew ?_) | (refine Below.alloc ?_ ?_ _) | (refine Below.setCell ?_ ?_ _) | go_size)⟩
end Go.Proofs.Ytibfjbapicjicaa.Cell
