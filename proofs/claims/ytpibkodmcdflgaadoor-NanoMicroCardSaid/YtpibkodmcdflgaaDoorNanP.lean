/- The volume of a float, by the program. Condition: the library's table is in place. -/
import Derived.Test.YtpibkodmcdflgaaDoorNanO
namespace Go.Proofs.YtpibkodmcdflgaaDoor.Nano
open Go.ChangeShapes Go.WideShapes Go.ChangeAt Go.RowKit Go.Proofs.YtpibkodmcdflgaaDoor.Kit Go.Proofs.YtpibkodmcdflgaaDoor.Flt Go.Proofs.YtpibkodmcdflgaaDoor.Real Go.Deep
set_option linter.unusedVariables false
set_option linter.unusedSimpArgs false
theorem of_class (x : Nat) (c k : Int) (hx : x < 18446744073709551616) (w : World) (hc : classS x = c) (h : (c = 1 ∧ k = 20) ∨ (c = 2 ∧ k = 21)) : Calls Tryd.prog 7 #[.float .f64 x] w fun e w' => e = .returned (.tuple #[.int .i64 0, .int .i64 k]) ∧ Below w.heap.size w w' := by
  have hC := fun w => class_any x hx w
  rw [hc] at hC
  rcases h with ⟨rfl, rfl⟩ | ⟨rfl, rfl⟩
  all_goals
    go_enter Tryd.func7, Tryd.ntmps7
    go_wp2_with (first | (go_at_call 17; refine (hC _).mono ?_; rintro e w1 ⟨rfl, rfl⟩) | ((with_reducible change Code.wp _ (Code.region _ _ _) _ _ _); refine wp_region_quiet_below (by kernel_rfl) (by kernel_rfl) ?_; (repeat (first | go_big_quiet_step ((first | (go_at_call 17; exact Calls.regrown_of (below_of_same (hC _))))) | quiet_step ((first | (go_at_call 17; exact Calls.regrown_of (below_of_same (hC _))))))); refine wpQuiet_nil ?_; intro w1 hw1; have hb := below_of_regrown hw1; clear hw1; obtain ⟨hS, hE, hz, hc, hf⟩ := bcell hb; (try simp only [go_sem] at hE); subst hE))
    go_ret2
    exact ⟨rfl, Below.refl _ _⟩
theorem of_null (x : Nat) (hx : x < 18446744073709551616) (w : World) (hc : classS x = 3) (h0 : fltB x 0 = false) (h1 : fltB 4787326403894837248 x = false) : Calls Tryd.prog 7 #[.float .f64 x] w fun e w' => e = .returned (.tuple #[.int .i64 0, .int .i64 0]) ∧ Below w.heap.size w w' := by
  have hC := fun w => class_any x hx w
  have hP := fun w => parts_none x hx w (by omega)
  rw [hc] at hC
  go_enter Tryd.func7, Tryd.ntmps7
  go_wp2_with (first | (go_at_call 17; refine (hC _).mono ?_; rintro e w1 ⟨rfl, rfl⟩) | (go_at_call 18; refine (hP _).mono ?_; rintro e w1 ⟨rfl, rfl⟩) | ((with_reducible change Code.wp _ (Code.region _ _ _) _ _ _); refine wp_region_quiet_below (by kernel_rfl) (by kernel_rfl) ?_; (repeat (first | go_big_quiet_step ((first | (go_at_call 17; exact Calls.regrown_of (below_of_same (hC _))) | (go_at_call 18; exact Calls.regrown_of (below_of_same (hP _))))) | quiet_step ((first | (go_at_call 17; exact Calls.regrown_of (below_of_same (hC _))) | (go_at_call 18; exact Calls.regrown_of (below_of_same (hP _))))))); refine wpQuiet_nil ?_; intro w1 hw1; have hb := below_of_regrown hw1; clear hw1; obtain ⟨hS, hE, hz, hc, hf⟩ := bcell hb; (try simp only [go_sem] at hE); subst hE))
  go_ret2
  exact ⟨rfl, Below.refl _ _⟩
theorem of_below (x : Nat) (c : Int) (hx : x < 18446744073709551616) (w : World) (hc : classS x = c) (hc4 : c = 4 ∨ c = 5) (h0 : fltB x 0 = true) : Calls Tryd.prog 7 #[.float .f64 x] w fun e w' => e = .returned (.tuple #[.int .i64 0, .int .i64 22]) ∧ Below w.heap.size w w' := by
  have hC := fun w => class_any x hx w
  rw [hc] at hC
  rcases hc4 with rfl | rfl
  all_goals
    go_enter Tryd.func7, Tryd.ntmps7
    go_wp2_with (first | (go_at_call 17; refine (hC _).mono ?_; rintro e w1 ⟨rfl, rfl⟩) | ((with_reducible change Code.wp _ (Code.region _ _ _) _ _ _); refine wp_region_quiet_below (by kernel_rfl) (by kernel_rfl) ?_; (repeat (first | go_big_quiet_step ((first | (go_at_call 17; exact Calls.regrown_of (below_of_same (hC _))))) | quiet_step ((first | (go_at_call 17; exact Calls.regrown_of (below_of_same (hC _))))))); refine wpQuiet_nil ?_; intro w1 hw1; have hb := below_of_regrown hw1; clear hw1; obtain ⟨hS, hE, hz, hc, hf⟩ := bcell hb; (try simp only [go_sem] at hE); subst hE))
    go_ret2
    exact ⟨rfl, Below.refl _ _⟩
theorem of_over (x : Nat) (c : Int) (hx : x < 18446744073709551616) (w : World) (hc : classS x = c) (hc4 : c = 4 ∨ c = 5) (h0 : fltB x 0 = false) (h1 : fltB 4787326403894837248 x = true) : Calls Tryd.prog 7 #[.float .f64 x] w fun e w' => e = .returned (.tuple #[.int .i64 0, .int .i64 4]) ∧ Below w.heap.size w w' := by
  have hC := fun w => class_any x hx w
  rw [hc] at hC
  rcases hc4 with rfl | rfl
  all_goals
    go_enter Tryd.func7, Tryd.ntmps7
    go_wp2_with (first | (go_at_call 17; refine (hC _).mono ?_; rintro e w1 ⟨rfl, rfl⟩) | ((with_reducible change Code.wp _ (Code.region _ _ _) _ _ _); refine wp_region_quiet_below (by kernel_rfl) (by kernel_rfl) ?_; (repeat (first | go_big_quiet_step ((first | (go_at_call 17; exact Calls.regrown_of (below_of_same (hC _))))) | quiet_step ((first | (go_at_call 17; exact Calls.regrown_of (below_of_same (hC _))))))); refine wpQuiet_nil ?_; intro w1 hw1; have hb := below_of_regrown hw1; clear hw1; obtain ⟨hS, hE, hz, hc, hf⟩ := bcell hb; (try simp only [go_sem] at hE); subst hE))
    go_ret2
    exact ⟨rfl, Below.refl _ _⟩
set_option maxHeartbeats 1000000 in
theorem of_small (x o s v : Nat) (c : Int) (hx : x < 18446744073709551616) (w : World) (hc : classS x = c) (hc4 : c = 4 ∨ c = 5) (h0 : fltB x 0 = false) (h1 : fltB 4787326403894837248 x = false)
    (hP : Calls Tryd.prog 18 #[.float .f64 x] w fun e' w' => e' = .returned (.tuple #[.int .i64 o, .int .i64 (-(s : Int))]) ∧ w = w') (hs : 1 ≤ s) (hs2 : s ≤ 2000) (ho : o < 9007199254740992) (hv : rnd (o * 1000) (2 ^ s) = v) (hv2 : v < 9223372036854775808) :
    Calls Tryd.prog 7 #[.float .f64 x] w fun e w' => e = .returned (if 1099511627776 < v then .tuple #[.int .i64 0, .int .i64 4] else .tuple #[.int .i64 v, .int .i64 0]) ∧ Below w.heap.size w w' := by
  have hC := fun w => class_any x hx w
  have hN := fun w => near_any (o * 1000) s hs hs2 (by omega) w
  rw [hv] at hN
  have w1' : IntKind.i64.wrap ((o : Int) * 1000) = ((o * 1000 : Nat) : Int) := by rw [IntWalk.i64_in _ (by omega)]; omega
  rw [hc] at hC
  clear hv
  by_cases hm : 1099511627776 < v
  · rw [if_pos hm]
    rcases hc4 with rfl | rfl
    all_goals
      go_enter Tryd.func7, Tryd.ntmps7
      go_wp2_with (first | (go_at_call 17; refine (hC _).mono ?_; rintro e w1 ⟨rfl, rfl⟩) | (go_at_call 18; refine (hP).mono ?_; rintro e w1 ⟨rfl, rfl⟩) | (go_at_call 19; refine (hN _).mono ?_; rintro e w1 ⟨rfl, rfl⟩) | ((with_reducible change Code.wp _ (Code.region _ _ _) _ _ _); refine wp_region_quiet_below (by kernel_rfl) (by kernel_rfl) ?_; (repeat (first | go_big_quiet_step ((first | (go_at_call 17; exact Calls.regrown_of (below_of_same (hC _))) | (go_at_call 18; exact Calls.regrown_of (below_of_same (hP))) | (go_at_call 19; exact Calls.regrown_of (below_of_same (hN _))))) | quiet_step ((first | (go_at_call 17; exact Calls.regrown_of (below_of_same (hC _))) | (go_at_call 18; exact Calls.regrown_of (below_of_same (hP))) | (go_at_call 19; exact Calls.regrown_of (below_of_same (hN _))))))); refine wpQuiet_nil ?_; intro w1 hw1; have hb := below_of_regrown hw1; clear hw1; obtain ⟨hS, hE, hz, hc, hf⟩ := bcell hb; (try simp only [go_sem] at hE); subst hE))
      go_ret2
      exact ⟨rfl, Below.refl _ _⟩
  · rw [if_neg hm]
    rcases hc4 with rfl | rfl
    all_goals
      go_enter Tryd.func7, Tryd.ntmps7
      go_wp2_with (first | (go_at_call 17; refine (hC _).mono ?_; rintro e w1 ⟨rfl, rfl⟩) | (go_at_call 18; refine (hP).mono ?_; rintro e w1 ⟨rfl, rfl⟩) | (go_at_call 19; refine (hN _).mono ?_; rintro e w1 ⟨rfl, rfl⟩) | ((with_reducible change Code.wp _ (Code.region _ _ _) _ _ _); refine wp_region_quiet_below (by kernel_rfl) (by kernel_rfl) ?_; (repeat (first | go_big_quiet_step ((first | (go_at_call 17; exact Calls.regrown_of (below_of_same (hC _))) | (go_at_call 18; exact Calls.regrown_of (below_of_same (hP))) | (go_at_call 19; exact Calls.regrown_of (below_of_same (hN _))))) | quiet_step ((first | (go_at_call 17; exact Calls.regrown_of (below_of_same (hC _))) | (go_at_call 18; exact Calls.regrown_of (below_of_same (hP))) | (go_at_call 19; exact Calls.regrown_of (below_of_same (hN _))))))); refine wpQuiet_nil ?_; intro w1 hw1; have hb := below_of_regrown hw1; clear hw1; obtain ⟨hS, hE, hz, hc, hf⟩ := bcell hb; (try simp only [go_sem] at hE); subst hE))
      go_ret2
      exact ⟨rfl, Below.refl _ _⟩
set_option maxHeartbeats 1000000 in
theorem of_large (x o d v : Nat) (c : Int) (hx : x < 18446744073709551616) (w : World) (hc : classS x = c) (hc4 : c = 4 ∨ c = 5) (h0 : fltB x 0 = false) (h1 : fltB 4787326403894837248 x = false)
    (hP : Calls Tryd.prog 18 #[.float .f64 x] w fun e' w' => e' = .returned (.tuple #[.int .i64 o, .int .i64 d]) ∧ w = w') (hd : d ≤ 60) (ho : o < 9007199254740992) (hv : IntKind.i64.wrap ((o : Int) * 1000 * 2 ^ d) = (v : Int)) (hv2 : v < 9223372036854775808) :
    Calls Tryd.prog 7 #[.float .f64 x] w fun e w' => e = .returned (if 1099511627776 < v then .tuple #[.int .i64 0, .int .i64 4] else .tuple #[.int .i64 v, .int .i64 0]) ∧ Below w.heap.size w w' := by
  have hC := fun w => class_any x hx w
  rw [hc] at hC
  by_cases hm : 1099511627776 < v
  · rw [if_pos hm]
    rcases hc4 with rfl | rfl
    all_goals
      go_enter Tryd.func7, Tryd.ntmps7
      go_wp2_with (first | (go_at_call 17; refine (hC _).mono ?_; rintro e w1 ⟨rfl, rfl⟩) | (go_at_call 18; refine (hP).mono ?_; rintro e w1 ⟨rfl, rfl⟩) | ((with_reducible change Code.wp _ (Code.region _ _ _) _ _ _); refine wp_region_quiet_below (by kernel_rfl) (by kernel_rfl) ?_; (repeat (first | go_big_quiet_step ((first | (go_at_call 17; exact Calls.regrown_of (below_of_same (hC _))) | (go_at_call 18; exact Calls.regrown_of (below_of_same (hP))))) | quiet_step ((first | (go_at_call 17; exact Calls.regrown_of (below_of_same (hC _))) | (go_at_call 18; exact Calls.regrown_of (below_of_same (hP))))))); refine wpQuiet_nil ?_; intro w1 hw1; have hb := below_of_regrown hw1; clear hw1; obtain ⟨hS, hE, hz, hc, hf⟩ := bcell hb; (try simp only [go_sem] at hE); subst hE))
      go_ret2
      exact ⟨rfl, Below.refl _ _⟩
  · rw [if_neg hm]
    rcases hc4 with rfl | rfl
    all_goals
      go_enter Tryd.func7, Tryd.ntmps7
      go_wp2_with (first | (go_at_call 17; refine (hC _).mono ?_; rintro e w1 ⟨rfl, rfl⟩) | (go_at_call 18; refine (hP).mono ?_; rintro e w1 ⟨rfl, rfl⟩) | ((with_reducible change Code.wp _ (Code.region _ _ _) _ _ _); refine wp_region_quiet_below (by kernel_rfl) (by kernel_rfl) ?_; (repeat (first | go_big_quiet_step ((first | (go_at_call 17; exact Calls.regrown_of (below_of_same (hC _))) | (go_at_call 18; exact Calls.regrown_of (below_of_same (hP))))) | quiet_step ((first | (go_at_call 17; exact Calls.regrown_of (below_of_same (hC _))) | (go_at_call 18; exact Calls.regrown_of (below_of_same (hP))))))); refine wpQuiet_nil ?_; intro w1 hw1; have hb := below_of_regrown hw1; clear hw1; obtain ⟨hS, hE, hz, hc, hf⟩ := bcell hb; (try simp only [go_sem] at hE); subst hE))
      go_ret2
      exact ⟨rfl, Below.refl _ _⟩
theorem class_cases (x : Nat) : classS x = 1 ∨ classS x = 2 ∨ classS x = 3 ∨ classS x = 4 ∨ classS x = 5 := by
  unfold classS
  repeat' split
  all_goals simp
theorem class_not (x : Nat) (h : classS x ≠ 1) : nanB x = false := by
  unfold classS at h
  cases hn : nanB x
  · rfl
  · rw [hn] at h
    exact absurd (if_pos rfl) h
theorem class_three (x : Nat) (h : classS x = 3) : rg x = 0 := by
  unfold classS at h
  split at h
  · cases h
  · split at h
    · cases h
    · split at h
      · assumption
      · split at h <;> cases h
theorem ofV_fin {x : Nat} (h : ¬ classS x < 4) (hn : NEG x = false) : ofV x = if 1099511627776 < vV x then (0, 4) else ((vV x : Int), 0) := by
  unfold ofV
  rw [if_neg (by omega), if_neg (by omega), if_neg (by omega), hn, if_neg (by decide)]
theorem tup_if (v : Nat) (p : Int × Int) (h : p = if 1099511627776 < v then (0, 4) else ((v : Int), 0)) : (if 1099511627776 < v then Value.tuple #[.int .i64 0, .int .i64 4] else .tuple #[.int .i64 v, .int .i64 0]) = .tuple #[.int .i64 p.1, .int .i64 p.2] := by
  subst h
  split <;> rfl
theorem of_any (x : Nat) (hx : x < 18446744073709551616) (w : World) (h : TabW w) : Calls Tryd.prog 7 #[.float .f64 x] w fun e w' => e = .returned (.tuple #[.int .i64 (ofV x).1, .int .i64 (ofV x).2]) ∧ Below w.heap.size w w' := by
  by_cases hc : classS x < 4
  · rcases class_cases x with h1 | h1 | h1 | h1 | h1
    · rw [show ofV x = (0, 20) from if_pos h1]
      exact of_class x 1 20 hx w h1 (.inl ⟨rfl, rfl⟩)
    · rw [show ofV x = (0, 21) by unfold ofV; rw [if_neg (by omega), if_pos h1]]
      exact of_class x 2 21 hx w h1 (.inr ⟨rfl, rfl⟩)
    · have hn := class_not x (by omega)
      have h0 := class_three x h1
      have hk : key x = 0 := by
        unfold key sg
        rw [h0]
        split <;> rfl
      rw [show ofV x = (0, 0) by unfold ofV; rw [if_neg (by omega), if_neg (by omega), if_pos h1]]
      refine of_null x hx w h1 ?_ ?_
      · rw [flt_zero x hn, hk]
        rfl
      · unfold fltB
        rw [hk, hn]
        decide
    · omega
    · omega
  · obtain ⟨c1, c2, c3⟩ := class_full hc
    have hn : nanB x = false := class_not x (by omega)
    have hc4 : classS x = 4 ∨ classS x = 5 := c3.elim (fun h => .inl h.1) (fun h => .inr h.1)
    have hlz := lt_zero hn c2
    cases hs : NEG x
    · rw [hs] at hlz
      have hg := gt_lit hn hs
      have hg2 := gt_most c2
      obtain ⟨o1, o2⟩ := odd_lt c2
      have hv := ofV_fin hc hs
      by_cases hm : 2 ^ 1114 < oddM x * 2 ^ pE x
      · rw [decide_eq_true (hg2.2 hm)] at hg
        rw [show ofV x = (0, 4) from hv.trans (if_pos (far_over hm))]
        exact of_over x _ hx w rfl hc4 hlz hg
      · rw [decide_eq_false (fun h5 => hm (hg2.1 h5))] at hg
        have hP := fun w' => parts_any x hx w'
        have hpe : partsV x = ((oddM x : Int), -1074 + ((pE x : Nat) : Int)) := by
          unfold partsV sg
          rw [if_neg hc, hs, if_neg (by decide)]
          rfl
        rw [← tup_if (vV x) _ hv]
        have hP1 : Calls Tryd.prog 18 #[.float .f64 x] w fun e' w' => e' = .returned (.tuple #[.int .i64 (oddM x), .int .i64 (-1074 + ((pE x : Nat) : Int))]) ∧ w = w' := by
          have := hP w h
          rw [hpe] at this
          exact this
        by_cases hp : pE x < 1074
        · have hve : vV x = rnd (nV x) (2 ^ (1074 - pE x)) := if_pos hp
          have hvl := rnd_le (nV x) (2 ^ (1074 - pE x)) (pow_pos2 _)
          rw [show -1074 + ((pE x : Nat) : Int) = -((1074 - pE x : Nat) : Int) by omega] at hP1
          exact of_small x (oddM x) (1074 - pE x) (vV x) _ hx w rfl hc4 hlz hg hP1 (by omega) (by omega) o2 hve.symm (by rw [hve]; unfold nV at hvl ⊢; omega)
        · have hf := near_fit hm hp
          have hve : vV x = oddM x * 2 ^ (pE x - 1074) * 1000 := by
            unfold vV nV
            rw [if_neg hp, Nat.mul_right_comm]
          have hd : pE x - 1074 ≤ 60 := by
            apply Nat.le_of_not_lt
            intro h6
            have h7 : (2 : Nat) ^ 60 ≤ 2 ^ (pE x - 1074) := Nat.pow_le_pow_right (by decide) (by omega)
            have h8 : 2 ^ (pE x - 1074) ≤ oddM x * 2 ^ (pE x - 1074) := Nat.le_mul_of_pos_left _ o1
            have h9 : (2 : Nat) ^ 60 = 1152921504606846976 := by decide
            omega
          rw [show -1074 + ((pE x : Nat) : Int) = ((pE x - 1074 : Nat) : Int) by omega] at hP1
          refine of_large x (oddM x) (pE x - 1074) (vV x) _ hx w rfl hc4 hlz hg hP1 hd o2 ?_ (by rw [hve]; omega)
          have e : (oddM x : Int) * 1000 * 2 ^ (pE x - 1074) = (vV x : Int) := by
            rw [hve, Int.natCast_mul, Int.natCast_mul, Int.natCast_pow, Int.mul_right_comm]
            rfl
          rw [e]
          exact IntWalk.i64_in _ (by rw [hve]; omega)
    · rw [hs] at hlz
      rw [show ofV x = (0, 22) by unfold ofV; rw [if_neg (by omega), if_neg (by omega), if_neg (by omega), if_pos hs]]
      exact of_below x _ hx w rfl hc4 hlz
end Go.Proofs.YtpibkodmcdflgaaDoor.Nano
