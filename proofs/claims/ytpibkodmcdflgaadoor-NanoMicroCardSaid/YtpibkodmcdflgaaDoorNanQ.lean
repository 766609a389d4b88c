/- The volume of a float's bits, by the reference. No condition. -/
import Derived.Test.YtpibkodmcdflgaaDoorNanP
namespace Go.Proofs.YtpibkodmcdflgaaDoor.Nano
open Go.ChangeShapes Go.WideShapes Go.ChangeAt Go.RowKit Go.Proofs.YtpibkodmcdflgaaDoor.Kit Go.Proofs.YtpibkodmcdflgaaDoor.Flt Go.Proofs.YtpibkodmcdflgaaDoor.Real Go.Deep
set_option linter.unusedVariables false
set_option linter.unusedSimpArgs false
theorem rof_class (x : Nat) (c k : Int) (hx : x < 18446744073709551616) (w : World) (hc : classS x = c) (h : (c = 1 ∧ k = 20) ∨ (c = 2 ∧ k = 21) ∨ (c = 3 ∧ k = 0)) : Calls Tryd.prog 8 #[.int .u64 x] w fun e w' => e = .returned (.tuple #[.int .i64 0, .int .i64 k]) ∧ Below w.heap.size w w' := by
  have hC := fun w => rclass_any x hx w
  rw [hc] at hC
  rcases h with ⟨rfl, rfl⟩ | ⟨rfl, rfl⟩ | ⟨rfl, rfl⟩
  all_goals
    go_enter Tryd.func8, Tryd.ntmps8
    go_wp2_with (first | (go_at_call 13; refine (hC _).mono ?_; rintro e w1 ⟨rfl, rfl⟩) | ((with_reducible change Code.wp _ (Code.region _ _ _) _ _ _); refine wp_region_quiet_below (by kernel_rfl) (by kernel_rfl) ?_; (repeat (first | go_big_quiet_step ((first | (go_at_call 13; exact Calls.regrown_of (below_of_same (hC _))))) | quiet_step ((first | (go_at_call 13; exact Calls.regrown_of (below_of_same (hC _))))))); refine wpQuiet_nil ?_; intro w1 hw1; have hb := below_of_regrown hw1; clear hw1; obtain ⟨hS, hE, hz, hc, hf⟩ := bcell hb; (try simp only [go_sem] at hE); subst hE))
    go_ret2
    exact ⟨rfl, Below.refl _ _⟩
theorem rof_below (x o : Nat) (c e : Int) (hx : x < 18446744073709551616) (w : World) (hc : classS x = c) (hc4 : c = 4 ∨ c = 5) (ho : 0 < o) (hP : Calls Tryd.prog 20 #[.int .u64 x] w fun e' w' => e' = .returned (.tuple #[.int .i64 (-(o : Int)), .int .i64 e]) ∧ w = w') : Calls Tryd.prog 8 #[.int .u64 x] w fun e w' => e = .returned (.tuple #[.int .i64 0, .int .i64 22]) ∧ Below w.heap.size w w' := by
  have hC := fun w => rclass_any x hx w
  rw [hc] at hC
  rcases hc4 with rfl | rfl
  all_goals
    go_enter Tryd.func8, Tryd.ntmps8
    go_wp2_with (first | (go_at_call 13; refine (hC _).mono ?_; rintro e w1 ⟨rfl, rfl⟩) | (go_at_call 20; refine (hP).mono ?_; rintro e w1 ⟨rfl, rfl⟩) | ((with_reducible change Code.wp _ (Code.region _ _ _) _ _ _); refine wp_region_quiet_below (by kernel_rfl) (by kernel_rfl) ?_; (repeat (first | go_big_quiet_step ((first | (go_at_call 13; exact Calls.regrown_of (below_of_same (hC _))) | (go_at_call 20; exact Calls.regrown_of (below_of_same (hP))))) | quiet_step ((first | (go_at_call 13; exact Calls.regrown_of (below_of_same (hC _))) | (go_at_call 20; exact Calls.regrown_of (below_of_same (hP))))))); refine wpQuiet_nil ?_; intro w1 hw1; have hb := below_of_regrown hw1; clear hw1; obtain ⟨hS, hE, hz, hc, hf⟩ := bcell hb; (try simp only [go_sem] at hE); subst hE))
    go_ret2
    exact ⟨rfl, Below.refl _ _⟩
theorem rof_far (x o : Nat) (c e : Int) (hx : x < 18446744073709551616) (w : World) (hc : classS x = c) (hc4 : c = 4 ∨ c = 5) (he : e < -64) (hP : Calls Tryd.prog 20 #[.int .u64 x] w fun e' w' => e' = .returned (.tuple #[.int .i64 (o : Int), .int .i64 e]) ∧ w = w') : Calls Tryd.prog 8 #[.int .u64 x] w fun e w' => e = .returned (.tuple #[.int .i64 0, .int .i64 0]) ∧ Below w.heap.size w w' := by
  have hC := fun w => rclass_any x hx w
  rw [hc] at hC
  rcases hc4 with rfl | rfl
  all_goals
    go_enter Tryd.func8, Tryd.ntmps8
    go_wp2_with (first | (go_at_call 13; refine (hC _).mono ?_; rintro e w1 ⟨rfl, rfl⟩) | (go_at_call 20; refine (hP).mono ?_; rintro e w1 ⟨rfl, rfl⟩) | ((with_reducible change Code.wp _ (Code.region _ _ _) _ _ _); refine wp_region_quiet_below (by kernel_rfl) (by kernel_rfl) ?_; (repeat (first | go_big_quiet_step ((first | (go_at_call 13; exact Calls.regrown_of (below_of_same (hC _))) | (go_at_call 20; exact Calls.regrown_of (below_of_same (hP))))) | quiet_step ((first | (go_at_call 13; exact Calls.regrown_of (below_of_same (hC _))) | (go_at_call 20; exact Calls.regrown_of (below_of_same (hP))))))); refine wpQuiet_nil ?_; intro w1 hw1; have hb := below_of_regrown hw1; clear hw1; obtain ⟨hS, hE, hz, hc, hf⟩ := bcell hb; (try simp only [go_sem] at hE); subst hE))
    go_ret2
    exact ⟨rfl, Below.refl _ _⟩
set_option maxHeartbeats 1000000 in
theorem rof_small (x o s v : Nat) (c : Int) (hx : x < 18446744073709551616) (w : World) (hc : classS x = c) (hc4 : c = 4 ∨ c = 5) (hP : Calls Tryd.prog 20 #[.int .u64 x] w fun e' w' => e' = .returned (.tuple #[.int .i64 o, .int .i64 (-(s : Int))]) ∧ w = w') (hs : 1 ≤ s) (hs2 : s ≤ 64) (ho : o < 9007199254740992)
    (hR : Calls Tryd.prog 21 #[.int .u64 ((o * 1000 : Nat) : Int), .int .i64 s] w fun e w' => e = .returned (.int .u64 v) ∧ Below w.heap.size w w') (hv2 : v < 9223372036854775808) :
    Calls Tryd.prog 8 #[.int .u64 x] w fun e w' => e = .returned (if 1099511627776 < v then .tuple #[.int .i64 0, .int .i64 4] else .tuple #[.int .i64 v, .int .i64 0]) ∧ Below w.heap.size w w' := by
  have hC := fun w => rclass_any x hx w
  rw [hc] at hC
  have w1' : IntKind.u64.wrap ((o : Int) * 1000) = ((o * 1000 : Nat) : Int) := by rw [IntKind.wrap_u64]; omega
  by_cases hm : 1099511627776 < v
  · rw [if_pos hm]
    rcases hc4 with rfl | rfl
    all_goals
      go_enter Tryd.func8, Tryd.ntmps8
      go_wp2_with (first | (go_at_call 13; refine (hC _).mono ?_; rintro e w1 ⟨rfl, rfl⟩) | (go_at_call 20; refine (hP).mono ?_; rintro e w1 ⟨rfl, rfl⟩) | (go_at_call 21; refine (hR).mono ?_; rintro e w1 ⟨rfl, hb⟩; obtain ⟨hS, hE, hz, hc, hf⟩ := bcell hb; (try simp only [go_sem] at hE); subst hE) | ((with_reducible change Code.wp _ (Code.region _ _ _) _ _ _); refine wp_region_quiet_below (by kernel_rfl) (by kernel_rfl) ?_; (repeat (first | go_big_quiet_step ((first | (go_at_call 13; exact Calls.regrown_of (below_of_same (hC _))) | (go_at_call 20; exact Calls.regrown_of (below_of_same (hP))) | (go_at_call 21; exact Calls.regrown_of (hR)))) | quiet_step ((first | (go_at_call 13; exact Calls.regrown_of (below_of_same (hC _))) | (go_at_call 20; exact Calls.regrown_of (below_of_same (hP))) | (go_at_call 21; exact Calls.regrown_of (hR)))))); refine wpQuiet_nil ?_; intro w1 hw1; have hb := below_of_regrown hw1; clear hw1; obtain ⟨hS, hE, hz, hc, hf⟩ := bcell hb; (try simp only [go_sem] at hE); subst hE))
      go_loopw [6, 7] (fun a b wr => a = .int .u64 v ∧ b = .int .i64 0 ∧ Below w.heap.size w wr) (fun _ _ _ => 0)
      case atStart => exact ⟨rfl, rfl, hb⟩
      case round =>
        obtain ⟨rfl, rfl, hbw⟩ := hrel
        go_wp2
        go_ret2
        exact ⟨rfl, hbw⟩
  · rw [if_neg hm]
    rcases hc4 with rfl | rfl
    all_goals
      go_enter Tryd.func8, Tryd.ntmps8
      go_wp2_with (first | (go_at_call 13; refine (hC _).mono ?_; rintro e w1 ⟨rfl, rfl⟩) | (go_at_call 20; refine (hP).mono ?_; rintro e w1 ⟨rfl, rfl⟩) | (go_at_call 21; refine (hR).mono ?_; rintro e w1 ⟨rfl, hb⟩; obtain ⟨hS, hE, hz, hc, hf⟩ := bcell hb; (try simp only [go_sem] at hE); subst hE) | ((with_reducible change Code.wp _ (Code.region _ _ _) _ _ _); refine wp_region_quiet_below (by kernel_rfl) (by kernel_rfl) ?_; (repeat (first | go_big_quiet_step ((first | (go_at_call 13; exact Calls.regrown_of (below_of_same (hC _))) | (go_at_call 20; exact Calls.regrown_of (below_of_same (hP))) | (go_at_call 21; exact Calls.regrown_of (hR)))) | quiet_step ((first | (go_at_call 13; exact Calls.regrown_of (below_of_same (hC _))) | (go_at_call 20; exact Calls.regrown_of (below_of_same (hP))) | (go_at_call 21; exact Calls.regrown_of (hR)))))); refine wpQuiet_nil ?_; intro w1 hw1; have hb := below_of_regrown hw1; clear hw1; obtain ⟨hS, hE, hz, hc, hf⟩ := bcell hb; (try simp only [go_sem] at hE); subst hE))
      go_loopw [6, 7] (fun a b wr => a = .int .u64 v ∧ b = .int .i64 0 ∧ Below w.heap.size w wr) (fun _ _ _ => 0)
      case atStart => exact ⟨rfl, rfl, hb⟩
      case round =>
        obtain ⟨rfl, rfl, hbw⟩ := hrel
        go_wp2
        go_ret2
        exact ⟨rfl, hbw⟩
set_option maxHeartbeats 1000000 in
theorem rof_large (x o d : Nat) (c : Int) (hx : x < 18446744073709551616) (w : World) (hc : classS x = c) (hc4 : c = 4 ∨ c = 5) (hP : Calls Tryd.prog 20 #[.int .u64 x] w fun e' w' => e' = .returned (.tuple #[.int .i64 o, .int .i64 d]) ∧ w = w') (hd : d ≤ 2000) (ho : o < 9007199254740992) (ho0 : 0 < o) :
    Calls Tryd.prog 8 #[.int .u64 x] w fun e w' => e = .returned (if 1099511627776 < o * 1000 * 2 ^ d then .tuple #[.int .i64 0, .int .i64 4] else .tuple #[.int .i64 ((o * 1000 * 2 ^ d : Nat) : Int), .int .i64 0]) ∧ Below w.heap.size w w' := by
  have hC := fun w => rclass_any x hx w
  rw [hc] at hC
  have HV : ∀ i v : Nat, v = o * 1000 * 2 ^ i → i ≤ d → (1099511627776 < v → 1099511627776 < o * 1000 * 2 ^ d) ∧ (i = d → v = o * 1000 * 2 ^ d) ∧ (v * 2 = o * 1000 * 2 ^ (i + 1)) := by
    intro i v hv hi
    refine ⟨fun h => ?_, fun h => by rw [hv, h], by rw [hv, Nat.pow_succ, Nat.mul_assoc]⟩
    have h1 : (2 : Nat) ^ i ≤ 2 ^ d := Nat.pow_le_pow_right (by decide) hi
    have h2 : o * 1000 * 2 ^ i ≤ o * 1000 * 2 ^ d := Nat.mul_le_mul_left _ h1
    omega
  have HVV := hide HV
  have h00 : Hid (o * 1000 = o * 1000 * 2 ^ 0) := hide (by rw [Nat.pow_zero, Nat.mul_one])
  clear HV
  generalize o * 1000 * 2 ^ d = V at *
  have w1' : IntKind.u64.wrap ((o : Int) * 1000) = ((o * 1000 : Nat) : Int) := by rw [IntKind.wrap_u64]; omega
  by_cases hVm : 1099511627776 < V
  · rw [if_pos hVm]
    rcases hc4 with rfl | rfl
    all_goals
      go_enter Tryd.func8, Tryd.ntmps8
      go_wp2_with (first | (go_at_call 13; refine (hC _).mono ?_; rintro e w1 ⟨rfl, rfl⟩) | (go_at_call 20; refine (hP).mono ?_; rintro e w1 ⟨rfl, rfl⟩) | ((with_reducible change Code.wp _ (Code.region _ _ _) _ _ _); refine wp_region_quiet_below (by kernel_rfl) (by kernel_rfl) ?_; (repeat (first | go_big_quiet_step ((first | (go_at_call 13; exact Calls.regrown_of (below_of_same (hC _))) | (go_at_call 20; exact Calls.regrown_of (below_of_same (hP))))) | quiet_step ((first | (go_at_call 13; exact Calls.regrown_of (below_of_same (hC _))) | (go_at_call 20; exact Calls.regrown_of (below_of_same (hP))))))); refine wpQuiet_nil ?_; intro w1 hw1; have hb := below_of_regrown hw1; clear hw1; obtain ⟨hS, hE, hz, hc, hf⟩ := bcell hb; (try simp only [go_sem] at hE); subst hE))
      go_loopw [6, 7] (fun a b wr => ∃ i v : Nat, a = .int .u64 v ∧ b = .int .i64 i ∧ i ≤ d ∧ Hid (v = o * 1000 * 2 ^ i) ∧ v < 9223372036854775808 ∧ wr = w) (fun _ b _ => d - (intOf b).toNat)
      case atStart => exact ⟨0, o * 1000, by go_num, rfl, Nat.zero_le _, h00, by omega, rfl⟩
      case round =>
        obtain ⟨i, v, rfl, rfl, hi, hv, hv2, rfl⟩ := hrel
        obtain ⟨k1, k2, k3⟩ := HVV.out i v hv.out hi
        by_cases hm : 1099511627776 < v
        · clear k1 k2 k3
          go_wp2
          all_goals
            go_ret2
            exact ⟨rfl, Below.refl _ _⟩
        · by_cases hlt : i < d
          · have hk3 := hide k3
            clear k1 k2 k3
            go_wp2
            refine ⟨⟨i + 1, v * 2, by go_num, by go_num, hlt, hk3, by omega, trivial⟩, by simp [intOf]; omega⟩
          · have hV := k2 (by omega)
            omega
  · rw [if_neg hVm]
    rcases hc4 with rfl | rfl
    all_goals
      go_enter Tryd.func8, Tryd.ntmps8
      go_wp2_with (first | (go_at_call 13; refine (hC _).mono ?_; rintro e w1 ⟨rfl, rfl⟩) | (go_at_call 20; refine (hP).mono ?_; rintro e w1 ⟨rfl, rfl⟩) | ((with_reducible change Code.wp _ (Code.region _ _ _) _ _ _); refine wp_region_quiet_below (by kernel_rfl) (by kernel_rfl) ?_; (repeat (first | go_big_quiet_step ((first | (go_at_call 13; exact Calls.regrown_of (below_of_same (hC _))) | (go_at_call 20; exact Calls.regrown_of (below_of_same (hP))))) | quiet_step ((first | (go_at_call 13; exact Calls.regrown_of (below_of_same (hC _))) | (go_at_call 20; exact Calls.regrown_of (below_of_same (hP))))))); refine wpQuiet_nil ?_; intro w1 hw1; have hb := below_of_regrown hw1; clear hw1; obtain ⟨hS, hE, hz, hc, hf⟩ := bcell hb; (try simp only [go_sem] at hE); subst hE))
      go_loopw [6, 7] (fun a b wr => ∃ i v : Nat, a = .int .u64 v ∧ b = .int .i64 i ∧ i ≤ d ∧ Hid (v = o * 1000 * 2 ^ i) ∧ v < 9223372036854775808 ∧ wr = w) (fun _ b _ => d - (intOf b).toNat)
      case atStart => exact ⟨0, o * 1000, by go_num, rfl, Nat.zero_le _, h00, by omega, rfl⟩
      case round =>
        obtain ⟨i, v, rfl, rfl, hi, hv, hv2, rfl⟩ := hrel
        obtain ⟨k1, k2, k3⟩ := HVV.out i v hv.out hi
        by_cases hm : 1099511627776 < v
        · exact absurd (k1 hm) hVm
        · by_cases hlt : i < d
          · have hk3 := hide k3
            clear k1 k2 k3
            go_wp2
            refine ⟨⟨i + 1, v * 2, by go_num, by go_num, hlt, hk3, by omega, trivial⟩, by simp [intOf]; omega⟩
          · have hV := k2 (by omega)
            subst hV
            clear k1 k2 k3 hv HVV h00
            go_wp2
            go_ret2
            exact ⟨rfl, Below.refl _ _⟩
theorem rof_any (x : Nat) (hx : x < 18446744073709551616) (w : World) : Calls Tryd.prog 8 #[.int .u64 x] w fun e w' => e = .returned (.tuple #[.int .i64 (ofV x).1, .int .i64 (ofV x).2]) ∧ Below w.heap.size w w' := by
  by_cases hc : classS x < 4
  · rcases class_cases x with h1 | h1 | h1 | h1 | h1
    · rw [show ofV x = (0, 20) from if_pos h1]
      exact rof_class x 1 20 hx w h1 (.inl ⟨rfl, rfl⟩)
    · rw [show ofV x = (0, 21) by unfold ofV; rw [if_neg (by omega), if_pos h1]]
      exact rof_class x 2 21 hx w h1 (.inr (.inl ⟨rfl, rfl⟩))
    · rw [show ofV x = (0, 0) by unfold ofV; rw [if_neg (by omega), if_neg (by omega), if_pos h1]]
      exact rof_class x 3 0 hx w h1 (.inr (.inr ⟨rfl, rfl⟩))
    · omega
    · omega
  · obtain ⟨c1, c2, c3⟩ := class_full hc
    have hc4 : classS x = 4 ∨ classS x = 5 := c3.elim (fun h => .inl h.1) (fun h => .inr h.1)
    obtain ⟨o1, o2⟩ := odd_lt c2
    have hP := rparts_any x hx w
    have hpe : partsV x = (sg (NEG x) (oddM x), -1074 + ((pE x : Nat) : Int)) := if_neg hc
    rw [hpe] at hP
    unfold sg at hP
    cases hs : NEG x
    · rw [hs, if_neg (by decide)] at hP
      have hv := ofV_fin hc hs
      rw [← tup_if (vV x) _ hv]
      by_cases hp : pE x < 1074
      · have hve : vV x = rnd (nV x) (2 ^ (1074 - pE x)) := if_pos hp
        have hvl := rnd_le (nV x) (2 ^ (1074 - pE x)) (pow_pos2 _)
        have hP1 : Calls Tryd.prog 20 #[.int .u64 x] w fun e' w' => e' = .returned (.tuple #[.int .i64 (oddM x), .int .i64 (-((1074 - pE x : Nat) : Int))]) ∧ w = w' := by
          rw [show -((1074 - pE x : Nat) : Int) = -1074 + ((pE x : Nat) : Int) by omega]
          exact hP
        have hn : nV x < 9223372036854775808 := by unfold nV; omega
        by_cases h64 : 1074 - pE x ≤ 64
        · refine rof_small x (oddM x) (1074 - pE x) (vV x) _ hx w rfl hc4 hP1 (by omega) h64 o2 ?_ (by rw [hve]; unfold nV at hvl ⊢; omega)
          rcases Nat.lt_or_eq_of_le h64 with h5 | h5
          · rw [hve]
            exact round_any (nV x) (1074 - pE x) (by omega) (by omega) (by omega) w
          · rw [hve, h5, rnd_none (nV x) 64 hn (Nat.le_refl _)]
            exact round_64 (nV x) hn w
        · have hz : vV x = 0 := hve.trans (rnd_none (nV x) _ hn (by omega))
          rw [hz, if_neg (by decide)]
          exact rof_far x (oddM x) _ _ hx w rfl hc4 (by omega) hP1
      · have hve : vV x = oddM x * 1000 * 2 ^ (pE x - 1074) := if_neg hp
        have hP1 : Calls Tryd.prog 20 #[.int .u64 x] w fun e' w' => e' = .returned (.tuple #[.int .i64 (oddM x), .int .i64 ((pE x - 1074 : Nat) : Int)]) ∧ w = w' := by
          rw [show ((pE x - 1074 : Nat) : Int) = -1074 + ((pE x : Nat) : Int) by omega]
          exact hP
        rw [hve]
        refine rof_large x (oddM x) (pE x - 1074) _ hx w rfl hc4 hP1 ?_ o2 o1
        have he : expE x ≤ 2046 := by
          unfold expE
          split
          · omega
          · omega
        obtain ⟨_, _, _, ht⟩ := man_split c2
        unfold pE
        omega
    · rw [hs, if_pos rfl] at hP
      rw [show ofV x = (0, 22) by unfold ofV; rw [if_neg (by omega), if_neg (by omega), if_neg (by omega), if_pos hs]]
      exact rof_below x (oddM x) _ _ hx w rfl hc4 o1 hP
end Go.Proofs.YtpibkodmcdflgaaDoor.Nano
