/- The bits of the float next to a number and a power of 2, by the reference: one contract. No condition. -/
import Derived.Test.YtddifbgdjdahfaaDoorMakR
namespace Go.Proofs.YtddifbgdjdahfaaDoor.Real
open Go.ChangeShapes Go.WideShapes Go.ChangeAt Go.RowKit Go.Proofs.YtddifbgdjdahfaaDoor.Kit Go.Proofs.YtddifbgdjdahfaaDoor.Flt Go.Proofs.YtddifbgdjdahfaaDoor.Num Go.Deep
set_option linter.unusedVariables false
set_option linter.unusedSimpArgs false
theorem make_null (m e : Int) (n : Nat) (w : World) (cS : ∀ w, Calls Tryd.prog 36 #[.int .i64 m] w fun e w' => e = .returned (.int .u64 n) ∧ w = w') (h : ((n : Int) == 0) = true ∨ (((n : Int) == 0) = false ∧ decide (e < -2000) = true)) :
    Calls Tryd.prog 17 #[.int .i64 m, .int .i64 e] w fun e w' => e = .returned (.int .u64 (word (decide (m < 0)) 0 : Nat)) ∧ Below w.heap.size w w' := by
  have G := fun (w : World) => rsign_any m 0 (by decide) w
  generalize word (decide (m < 0)) 0 = W at *
  rcases h with h | ⟨h, h2⟩
  all_goals
    go_enter Tryd.func17, Tryd.ntmps17
    go_wp2_with (first | (go_at_call 36; refine (cS _).mono ?_; rintro e w1 ⟨rfl, rfl⟩) | (go_at_call 37; refine (G _).mono ?_; rintro e w1 ⟨rfl, rfl⟩) | ((with_reducible change Code.wp _ (Code.region _ _ _) _ _ _); refine wp_region_quiet_below (by kernel_rfl) (by kernel_rfl) ?_; (repeat (first | go_big_quiet_step ((first | (go_at_call 36; exact Calls.regrown_of (below_of_same (cS _))) | (go_at_call 37; exact Calls.regrown_of (below_of_same (G _))))) | quiet_step ((first | (go_at_call 36; exact Calls.regrown_of (below_of_same (cS _))) | (go_at_call 37; exact Calls.regrown_of (below_of_same (G _))))))); refine wpQuiet_nil ?_; intro w1 hw1; have hb := below_of_regrown hw1; clear hw1; obtain ⟨hS, hE, hz, hc, hf⟩ := bcell hb; (try simp only [go_sem] at hE); subst hE))
    go_ret
    exact ⟨rfl, (by repeat' (first | (with_reducible exact Below.refl _ _) | (with_reducible refine below_drewN ?_ _) | (with_reducible refine Below.drew ?_) | (with_reducible refine Below.alloc ?_ ?_ _) | (with_reducible refine Below.setCell ?_ ?_ _) | (with_reducible refine below_step ?_ (by assumption) ?_) | (with_reducible refine below_step ?_ (below_regrown _ _ _) ?_) | go_size))⟩
theorem make_inf (m e : Int) (n L : Nat) (w : World) (cS : ∀ w, Calls Tryd.prog 36 #[.int .i64 m] w fun e w' => e = .returned (.int .u64 n) ∧ w = w') (cL : ∀ w, Calls Tryd.prog 38 #[.int .u64 n] w fun e w' => e = .returned (.int .i64 L) ∧ w = w')
    (b1 : ((n : Int) == 0) = false) (b2 : decide (e < -2000) = false) (hL2 : L ≤ 64) (h : decide (2000 < e) = true ∨ (decide (2000 < e) = false ∧ -2000 ≤ e ∧ e ≤ 2000 ∧ decide (1024 < e + (L : Int)) = true)) :
    Calls Tryd.prog 17 #[.int .i64 m, .int .i64 e] w fun e w' => e = .returned (.int .u64 (word (decide (m < 0)) 9218868437227405312 : Nat)) ∧ Below w.heap.size w w' := by
  have G := fun (w : World) => rsign_any m 9218868437227405312 (by decide) w
  generalize word (decide (m < 0)) 9218868437227405312 = W at *
  rcases h with h | ⟨h, h2, h3, h4⟩
  all_goals
    go_enter Tryd.func17, Tryd.ntmps17
    go_wp2_with (first | (go_at_call 36; refine (cS _).mono ?_; rintro e w1 ⟨rfl, rfl⟩) | (go_at_call 38; refine (cL _).mono ?_; rintro e w1 ⟨rfl, rfl⟩) | (go_at_call 37; refine (G _).mono ?_; rintro e w1 ⟨rfl, rfl⟩) | ((with_reducible change Code.wp _ (Code.region _ _ _) _ _ _); refine wp_region_quiet_below (by kernel_rfl) (by kernel_rfl) ?_; (repeat (first | go_big_quiet_step ((first | (go_at_call 36; exact Calls.regrown_of (below_of_same (cS _))) | (go_at_call 38; exact Calls.regrown_of (below_of_same (cL _))) | (go_at_call 37; exact Calls.regrown_of (below_of_same (G _))))) | quiet_step ((first | (go_at_call 36; exact Calls.regrown_of (below_of_same (cS _))) | (go_at_call 38; exact Calls.regrown_of (below_of_same (cL _))) | (go_at_call 37; exact Calls.regrown_of (below_of_same (G _))))))); refine wpQuiet_nil ?_; intro w1 hw1; have hb := below_of_regrown hw1; clear hw1; obtain ⟨hS, hE, hz, hc, hf⟩ := bcell hb; (try simp only [go_sem] at hE); subst hE))
    go_ret
    exact ⟨rfl, (by repeat' (first | (with_reducible exact Below.refl _ _) | (with_reducible refine below_drewN ?_ _) | (with_reducible refine Below.drew ?_) | (with_reducible refine Below.alloc ?_ ?_ _) | (with_reducible refine Below.setCell ?_ ?_ _) | (with_reducible refine below_step ?_ (by assumption) ?_) | (with_reducible refine below_step ?_ (below_regrown _ _ _) ?_) | go_size))⟩
theorem rnd_zero {n g : Nat} (h : 2 * n ≤ g) (hg : 0 < g) : rnd n g = 0 := by
  rcases Nat.eq_zero_or_pos n with rfl | h0
  · unfold rnd
    rw [Nat.zero_div, Nat.zero_mod, if_neg (by omega)]
  · have h3 : n / g = 0 := Nat.div_eq_of_lt (by omega)
    have h4 : n % g = n := Nat.mod_eq_of_lt (by omega)
    unfold rnd
    rw [h3, h4, if_neg (by omega)]
theorem last_cases (n : Nat) (e : Int) (hn : n ≠ 0) : (e + (lenV n : Int) - 53 < -1074 ∧ lastP n e = -1074) ∨ (-1074 ≤ e + (lenV n : Int) - 53 ∧ lastP n e = e + (lenV n : Int) - 53) := by
  have hl : lenV n = n.log2 + 1 := if_neg hn
  unfold lastP
  rw [hl]
  omega
/-- The kept bits tell the rung. -/
theorem rung_tail (n : Nat) (e : Int) (hn : n ≠ 0) (h : lastP n e ≤ 971) : tailV (lastP n e) (kept n e) (rungOf n e) := by
  have h1 := kept_le n e
  have h2 := kept_ge n e hn
  have h3 : -1074 ≤ lastP n e := Int.le_max_right ..
  have e1 : rungOf n e = min ((lastP n e + 1074).toNat * 4503599627370496 + kept n e) 9218868437227405312 := if_neg hn
  rw [e1]
  unfold tailV
  generalize kept n e = K at *
  generalize lastP n e = a at *
  obtain ⟨b, rfl⟩ : ∃ b : Nat, a = (b : Int) - 1074 := ⟨(a + 1074).toNat, by omega⟩
  rw [show ((b : Int) - 1074 + 1074).toNat = b by omega]
  by_cases h5 : K < 4503599627370496
  · have : b = 0 := by
      apply Nat.eq_zero_of_not_pos
      intro h6
      have := h2 (by omega)
      omega
    subst this
    exact .inl ⟨h5, by omega⟩
  · right
    by_cases h6 : K = 9007199254740992
    · by_cases h7 : 2047 ≤ (b : Int) - 1074 + 1076
      · exact .inl ⟨h6, h7, by omega⟩
      · exact .inr (.inl ⟨h6, by omega, by omega⟩)
    · right
      right
      by_cases h7 : 2047 ≤ (b : Int) - 1074 + 1075
      · exact .inl ⟨by omega, by omega, h7, by omega⟩
      · exact .inr ⟨by omega, by omega, by omega, by omega⟩
theorem kept_w (n : Nat) (e : Int) (hn : n ≤ 9223372036854775808) : keptW n (kept n e) (e - lastP n e) (lastP n e - e) := by
  have h1 := kept_le n e
  unfold keptW
  unfold kept at h1 ⊢
  generalize lastP n e = a at *
  by_cases h : a ≤ e
  · left
    rw [show (a - e).toNat = 0 by omega, Nat.pow_zero, rnd_one] at h1 ⊢
    refine ⟨(e - a).toNat, by omega, ?_⟩
    have e2 : (n : Int) * 2 ^ (e - a).toNat = ((n * 2 ^ (e - a).toNat : Nat) : Int) := by rw [Int.natCast_mul, Int.natCast_pow]; rfl
    rw [e2, IntKind.wrap_u64]
    generalize n * 2 ^ (e - a).toNat = v at *
    omega
  · right
    rw [show (e - a).toNat = 0 by omega, Nat.pow_zero, Nat.mul_one]
    obtain ⟨k, hk⟩ : ∃ k : Nat, a - e = k := ⟨(a - e).toNat, by omega⟩
    rw [hk, Int.toNat_natCast]
    have h64 : (2 : Nat) ^ 64 = 18446744073709551616 := by decide
    by_cases h2 : 64 < k
    · left
      refine ⟨by omega, by omega, rnd_zero ?_ (Nat.pow_pos (by decide))⟩
      have : (2 : Nat) ^ 64 ≤ 2 ^ k := Nat.pow_le_pow_right (by decide) (by omega)
      omega
    · right
      refine ⟨by omega, by omega, fun w => ?_⟩
      by_cases h3 : k = 64
      · subst h3
        rw [rnd_zero (by omega) (Nat.pow_pos (by decide))]
        exact round_64 n hn w
      · exact round_any n k (by omega) (by omega) (by omega) w
theorem rung_low (n : Nat) (e : Int) (hn : n ≤ 9223372036854775808) (he : e < -2000) : rungOf n e = 0 := by
  by_cases h0 : n = 0
  · unfold rungOf
    rw [if_pos h0]
  · have hL : lenV n ≤ 64 := len_le (by omega)
    have hl : lastP n e = -1074 := by
      rcases last_cases n e h0 with ⟨_, h⟩ | ⟨h, _⟩
      · exact h
      · omega
    have hk : kept n e = 0 := by
      unfold kept
      rw [hl, show (e - -1074).toNat = 0 by omega, Nat.pow_zero, Nat.mul_one]
      obtain ⟨k, hk⟩ : ∃ k : Nat, (-1074 - e).toNat = k + 64 := ⟨(-1074 - e).toNat - 64, by omega⟩
      rw [hk]
      have h64 : (2 : Nat) ^ 64 = 18446744073709551616 := by decide
      have : (2 : Nat) ^ 64 ≤ 2 ^ (k + 64) := Nat.pow_le_pow_right (by decide) (by omega)
      exact rnd_zero (by omega) (Nat.pow_pos (by decide))
    unfold rungOf
    rw [if_neg h0, hl, hk]
    rfl
theorem rung_inf (n : Nat) (e : Int) (h0 : n ≠ 0) (h : 1024 < e + (lenV n : Int)) : rungOf n e = 9218868437227405312 := by
  have hl : lastP n e = e + (lenV n : Int) - 53 := by
    rcases last_cases n e h0 with ⟨h1, _⟩ | ⟨_, h1⟩
    · omega
    · exact h1
  have hk := kept_ge n e h0 (by omega)
  unfold rungOf
  rw [if_neg h0]
  generalize lastP n e = a at *
  omega
theorem rmake_any (m e : Int) (hm : In64 m) (w : World) : Calls Tryd.prog 17 #[.int .i64 m, .int .i64 e] w fun e' w' => e' = .returned (.int .u64 (word (decide (m < 0)) (rungOf m.natAbs e) : Nat)) ∧ Below w.heap.size w w' := by
  have cS := fun w => rsize_any m hm w
  have hn : m.natAbs ≤ 9223372036854775808 := by unfold In64 at hm; omega
  generalize m.natAbs = n at *
  have cL := fun w => length_any n (by omega) w
  have hL2 := len_le (n := n) (by omega)
  by_cases h0 : n = 0
  · rw [show rungOf n e = 0 by unfold rungOf; rw [if_pos h0]]
    exact make_null m e n w cS (.inl (by rw [h0]; rfl))
  have b1 : ((n : Int) == 0) = false := beq_eq_false_iff_ne.2 (by omega)
  have hL1 : 1 ≤ lenV n := by unfold lenV; rw [if_neg h0]; omega
  by_cases h1 : e < -2000
  · rw [rung_low n e hn h1]
    exact make_null m e n w cS (.inr ⟨b1, decide_eq_true h1⟩)
  have b2 : decide (e < -2000) = false := decide_eq_false h1
  by_cases h2 : 2000 < e ∨ 1024 < e + (lenV n : Int)
  · rw [rung_inf n e h0 (by omega)]
    refine make_inf m e n (lenV n) w cS cL b1 b2 hL2 ?_
    by_cases h3 : 2000 < e
    · exact .inl (decide_eq_true h3)
    · exact .inr ⟨decide_eq_false h3, by omega, by omega, decide_eq_true (by omega)⟩
  have b3 : decide (2000 < e) = false := decide_eq_false (by omega)
  have b4 : decide (1024 < e + (lenV n : Int)) = false := decide_eq_false (by omega)
  have hK := kept_w n e hn
  rcases last_cases n e h0 with ⟨l1, l2⟩ | ⟨l1, l2⟩
  · have hT := rung_tail n e h0 (by omega)
    rw [l2] at hT hK
    exact make_low m e _ _ _ n (lenV n) (kept n e) (rungOf n e) w cS cL b1 b2 b3 b4 ⟨by omega, by omega⟩ hL2 rfl l1 (by omega : e + 1074 = e - -1074) rfl hK hT
  · have hT := rung_tail n e h0 (by omega)
    rw [l2] at hT hK
    exact make_high m e _ _ _ n (lenV n) (kept n e) (rungOf n e) w cS cL b1 b2 b3 b4 ⟨by omega, by omega⟩ hL2 rfl ⟨l1, by omega⟩ rfl rfl hK hT
end Go.Proofs.YtddifbgdjdahfaaDoor.Real
