/- The microlitres of a volume, by the program and by the reference. No condition. -/
import Derived.Test.YtpibkodmcdflgaaDoorMicB
import Derived.Test.YtpibkodmcdflgaaDoorMakV
import Derived.Laws.FloatArith
namespace Go.Proofs.YtpibkodmcdflgaaDoor.Nano
open Go.ChangeShapes Go.WideShapes Go.ChangeAt Go.RowKit Go.Proofs.YtpibkodmcdflgaaDoor.Kit Go.Proofs.YtpibkodmcdflgaaDoor.Flt Go.Proofs.YtpibkodmcdflgaaDoor.Num Go.Proofs.YtpibkodmcdflgaaDoor.Real Go.Deep
set_option linter.unusedVariables false
set_option linter.unusedSimpArgs false
theorem nan_any (w : World) : Calls Tryd.prog 24 #[] w fun e w' => e = .returned (.float .f64 9221120237041090561) ∧ w = w' := by
  go_enter Tryd.func24, Tryd.ntmps24
  go_wp2
  go_ret
  exact ⟨rfl, rfl⟩
theorem micro_far (n : Int) (hn : In64 n) (h : n < -9007199254740992 ∨ 9007199254740992 < n) (w : World) : Calls Tryd.prog 11 #[.int .i64 n] w fun e w' => e = .returned (.float .f64 9221120237041090561) ∧ w = w' := by
  unfold In64 at hn
  have hN := fun w => nan_any w
  rcases h with h | h
  · have b1 : decide (n < -9007199254740992) = true := decide_eq_true h
    go_enter Tryd.func11, Tryd.ntmps11
    go_wp2_with (first | (go_at_call 24; refine (hN _).mono ?_; rintro e w1 ⟨rfl, rfl⟩) | ((with_reducible change Code.wp _ (Code.region _ _ _) _ _ _); refine wp_region_quiet_below (by kernel_rfl) (by kernel_rfl) ?_; (repeat (first | go_big_quiet_step ((first | (go_at_call 24; exact Calls.regrown_of (below_of_same (hN _))))) | quiet_step ((first | (go_at_call 24; exact Calls.regrown_of (below_of_same (hN _))))))); refine wpQuiet_nil ?_; intro w1 hw1; have hb := below_of_regrown hw1; clear hw1; obtain ⟨hS, hE, hz, hc, hf⟩ := bcell hb; (try simp only [go_sem] at hE); subst hE))
    go_ret
    exact ⟨rfl, rfl⟩
  · have b1 : decide (n < -9007199254740992) = false := decide_eq_false (by omega)
    have b2 : decide (9007199254740992 < n) = true := decide_eq_true h
    go_enter Tryd.func11, Tryd.ntmps11
    go_wp2_with (first | (go_at_call 24; refine (hN _).mono ?_; rintro e w1 ⟨rfl, rfl⟩) | ((with_reducible change Code.wp _ (Code.region _ _ _) _ _ _); refine wp_region_quiet_below (by kernel_rfl) (by kernel_rfl) ?_; (repeat (first | go_big_quiet_step ((first | (go_at_call 24; exact Calls.regrown_of (below_of_same (hN _))))) | quiet_step ((first | (go_at_call 24; exact Calls.regrown_of (below_of_same (hN _))))))); refine wpQuiet_nil ?_; intro w1 hw1; have hb := below_of_regrown hw1; clear hw1; obtain ⟨hS, hE, hz, hc, hf⟩ := bcell hb; (try simp only [go_sem] at hE); subst hE))
    go_ret
    exact ⟨rfl, rfl⟩
theorem micro_in (n : Int) (F : Nat) (h : n.natAbs ≤ 9007199254740992) (hF : micP n F) (w : World) : Calls Tryd.prog 11 #[.int .i64 n] w fun e w' => e = .returned (.float .f64 F) ∧ w = w' := by
  have q := mic_quo h hF
  have hq := fun t (w : World) => run_float_arith (P := Tryd.prog) w .quo t .f64 _ _ _ q
  have b1 : decide (n < -9007199254740992) = false := decide_eq_false (by omega)
  have b2 : decide (9007199254740992 < n) = false := decide_eq_false (by omega)
  clear hF q
  go_enter Tryd.func11, Tryd.ntmps11
  go_wp2
  go_ret
  exact ⟨rfl, rfl⟩
theorem rmicro_far (n : Int) (hn : In64 n) (h : n < -9007199254740992 ∨ 9007199254740992 < n) (w : World) : Calls Tryd.prog 12 #[.int .i64 n] w fun e w' => e = .returned (.int .u64 9221120237041090561) ∧ Below w.heap.size w w' := by
  unfold In64 at hn
  rcases h with h | h
  · have b1 : decide (n < -9007199254740992) = true := decide_eq_true h
    go_enter Tryd.func12, Tryd.ntmps12
    go_wp2_with (first | ((with_reducible change Code.wp _ (Code.region _ _ _) _ _ _); refine wp_region_quiet_below (by kernel_rfl) (by kernel_rfl) ?_; (repeat (first | go_big_quiet_step (fail) | quiet_step (fail))); refine wpQuiet_nil ?_; intro w1 hw1; have hb := below_of_regrown hw1; clear hw1; obtain ⟨hS, hE, hz, hc, hf⟩ := bcell hb; (try simp only [go_sem] at hE); subst hE))
    go_ret
    exact ⟨rfl, (by repeat' (first | (with_reducible exact Below.refl _ _) | (with_reducible refine below_drewN ?_ _) | (with_reducible refine Below.drew ?_) | (with_reducible refine Below.alloc ?_ ?_ _) | (with_reducible refine Below.setCell ?_ ?_ _) | (with_reducible refine below_step ?_ (by assumption) ?_) | (with_reducible refine below_step ?_ (below_regrown _ _ _) ?_) | go_size))⟩
  · have b1 : decide (n < -9007199254740992) = false := decide_eq_false (by omega)
    have b2 : decide (9007199254740992 < n) = true := decide_eq_true h
    go_enter Tryd.func12, Tryd.ntmps12
    go_wp2_with (first | ((with_reducible change Code.wp _ (Code.region _ _ _) _ _ _); refine wp_region_quiet_below (by kernel_rfl) (by kernel_rfl) ?_; (repeat (first | go_big_quiet_step (fail) | quiet_step (fail))); refine wpQuiet_nil ?_; intro w1 hw1; have hb := below_of_regrown hw1; clear hw1; obtain ⟨hS, hE, hz, hc, hf⟩ := bcell hb; (try simp only [go_sem] at hE); subst hE))
    go_ret
    exact ⟨rfl, (by repeat' (first | (with_reducible exact Below.refl _ _) | (with_reducible refine below_drewN ?_ _) | (with_reducible refine Below.drew ?_) | (with_reducible refine Below.alloc ?_ ?_ _) | (with_reducible refine Below.setCell ?_ ?_ _) | (with_reducible refine below_step ?_ (by assumption) ?_) | (with_reducible refine below_step ?_ (below_regrown _ _ _) ?_) | go_size))⟩
theorem rmicro_null (w : World) : Calls Tryd.prog 12 #[.int .i64 0] w fun e w' => e = .returned (.int .u64 0) ∧ Below w.heap.size w w' := by
  have hS := fun w => rsize_any 0 (by unfold In64; omega) w
  go_enter Tryd.func12, Tryd.ntmps12
  go_wp2_with (first | (go_at_call 25; refine (hS _).mono ?_; rintro e w1 ⟨rfl, rfl⟩) | ((with_reducible change Code.wp _ (Code.region _ _ _) _ _ _); refine wp_region_quiet_below (by kernel_rfl) (by kernel_rfl) ?_; (repeat (first | go_big_quiet_step ((first | (go_at_call 25; exact Calls.regrown_of (below_of_same (hS _))))) | quiet_step ((first | (go_at_call 25; exact Calls.regrown_of (below_of_same (hS _))))))); refine wpQuiet_nil ?_; intro w1 hw1; have hb := below_of_regrown hw1; clear hw1; obtain ⟨hS, hE, hz, hc, hf⟩ := bcell hb; (try simp only [go_sem] at hE); subst hE))
  go_ret
  exact ⟨rfl, (by repeat' (first | (with_reducible exact Below.refl _ _) | (with_reducible refine below_drewN ?_ _) | (with_reducible refine Below.drew ?_) | (with_reducible refine Below.alloc ?_ ?_ _) | (with_reducible refine Below.setCell ?_ ?_ _) | (with_reducible refine below_step ?_ (by assumption) ?_) | (with_reducible refine below_step ?_ (below_regrown _ _ _) ?_) | go_size))⟩
/-- One more digit of the quotient. -/
theorem digit (z k : Nat) (h1 : 9007199254740992000 ≤ z * 2 ^ k) (h2 : z * 2 ^ k < 18014398509481984000) : ∀ j q r : Nat, q * 1000 + r = z * 2 ^ j → r < 1000 → j ≤ k →
    (q < 9007199254740992 → j < k ∧ (2 * q + 2 * r / 1000) * 1000 + 2 * r % 1000 = z * 2 ^ (j + 1)) ∧ (9007199254740992 ≤ q → j = k ∧ q < 18014398509481984) := by
  intro j q r hq hr hj
  refine ⟨fun h => ⟨?_, ?_⟩, fun h => ?_⟩
  · rcases Nat.lt_or_eq_of_le hj with h3 | rfl
    · exact h3
    · exfalso
      omega
  · have e1 : z * 2 ^ (j + 1) = z * 2 ^ j * 2 := by rw [Nat.pow_succ, Nat.mul_assoc]
    rw [e1, ← hq]
    clear h h1 h2 e1 hq
    omega
  · have e : j = k := by
      rcases Nat.lt_or_eq_of_le hj with h3 | h3
      · exfalso
        have e1 : z * 2 ^ (j + 1) ≤ z * 2 ^ k := Nat.mul_le_mul_left _ (pow_le' h3)
        have e2 : z * 2 ^ (j + 1) = z * 2 ^ j * 2 := by rw [Nat.pow_succ, Nat.mul_assoc]
        omega
      · exact h3
    subst e
    exact ⟨rfl, by omega⟩
theorem halve (q r : Nat) (hr : r < 1000) : rnd (q * 1000 + r) 2000 = q / 2 + if q % 2 = 1 ∧ (0 < r ∨ q / 2 % 2 = 1) then 1 else 0 := by
  have e1 : (q * 1000 + r) / 2000 = q / 2 := by omega
  have e2 : (q * 1000 + r) % 2000 = q % 2 * 1000 + r := by omega
  unfold rnd
  rw [e1, e2]
  refine congrArg (q / 2 + ·) (if_iff ?_)
  omega
/-- What the digits tell at the end. -/
def halfV (q r m : Nat) : Prop := (((q : Int) % 2 == 1) = false ∧ (m : Int) = (q : Int) / 2) ∨ (((q : Int) % 2 == 1) = true ∧ ¬ r = 0 ∧ (m : Int) = (q : Int) / 2 + 1) ∨
  (((q : Int) % 2 == 1) = true ∧ r = 0 ∧ ((q : Int) / 2 % 2 == 1) = true ∧ (m : Int) = (q : Int) / 2 + 1) ∨ (((q : Int) % 2 == 1) = true ∧ r = 0 ∧ ((q : Int) / 2 % 2 == 1) = false ∧ (m : Int) = (q : Int) / 2)
theorem half_all (q r T m : Nat) (hT : q * 1000 + r = T) (hr : r < 1000) (hm : m = rnd T 2000) : halfV q r m := by
  rw [hm, ← hT, halve q r hr]
  unfold halfV
  by_cases h1 : q % 2 = 1
  · have b1 : ((q : Int) % 2 == 1) = true := beq_iff_eq.2 (by omega)
    by_cases h2 : 0 < r
    · rw [if_pos ⟨h1, .inl h2⟩]
      exact .inr (.inl ⟨b1, by omega, by omega⟩)
    · have b2 : r = 0 := by omega
      by_cases h3 : q / 2 % 2 = 1
      · rw [if_pos ⟨h1, .inr h3⟩]
        exact .inr (.inr (.inl ⟨b1, b2, beq_iff_eq.2 (by omega), by omega⟩))
      · rw [if_neg (fun h => h.2.elim h2 h3)]
        exact .inr (.inr (.inr ⟨b1, b2, beq_eq_false_iff_ne.2 (by omega), by omega⟩))
  · rw [if_neg (fun h => h1 h.1)]
    exact .inl ⟨beq_eq_false_iff_ne.2 (by omega), by omega⟩
theorem mic_rung {z k : Nat} (hz : 0 < z) (h1 : 9007199254740992000 ≤ z * 2 ^ k) (h2 : z * 2 ^ k < 18014398509481984000) : rungOf (rnd (z * 2 ^ k) 2000) (1 - (k : Int)) = micR z k := by
  obtain ⟨m1, m2⟩ := mic_m h1 h2
  obtain ⟨f1, -, -⟩ := mic_facts hz h1 h2
  unfold micR
  generalize rnd (z * 2 ^ k) 2000 = m at *
  have e := rung_full m (1075 - k) m1 m2 (by omega)
  rw [← e]
  congr 1
  omega
set_option maxHeartbeats 1000000 in
set_option maxRecDepth 10000 in
theorem rmicro_walk (n : Int) (z k m W : Nat) (hn : n.natAbs = z) (hz : 0 < z) (hz2 : z ≤ 9007199254740992) (hk : k ≤ 63) (hm : (4503599627370496 : Int) ≤ m ∧ (m : Int) ≤ 9007199254740992)
    (hS : ∀ w, Calls Tryd.prog 25 #[.int .i64 n] w fun e w' => e = .returned (.int .u64 z) ∧ w = w')
    (hD : Hid (∀ j q r : Nat, q * 1000 + r = z * 2 ^ j → r < 1000 → j ≤ k → (q < 9007199254740992 → j < k ∧ (2 * q + 2 * r / 1000) * 1000 + 2 * r % 1000 = z * 2 ^ (j + 1)) ∧ (9007199254740992 ≤ q → j = k ∧ q < 18014398509481984)))
    (hH : Hid (∀ q r : Nat, q * 1000 + r = z * 2 ^ k → r < 1000 → halfV q r m))
    (hM : ∀ w (v e : Int), v = (if n < 0 then -(m : Int) else m) → e = 1 - (k : Int) → Calls Tryd.prog 26 #[.int .i64 v, .int .i64 e] w fun e w' => e = .returned (.int .u64 W) ∧ Below w.heap.size w w') (w : World) :
    Calls Tryd.prog 12 #[.int .i64 n] w fun e w' => e = .returned (.int .u64 W) ∧ Below w.heap.size w w' := by
  have b1 : decide (n < -9007199254740992) = false := decide_eq_false (by omega)
  have b2 : decide (9007199254740992 < n) = false := decide_eq_false (by omega)
  have b3 : ((z : Int) == 0) = false := beq_eq_false_iff_ne.2 (by omega)
  have h0 : Hid (z / 1000 * 1000 + z % 1000 = z * 2 ^ 0) := hide (by rw [Nat.pow_zero]; omega)
  have hS' : ∃ b, decide (n < 0) = b ∧ (if b = true then -(m : Int) else m) = (if n < 0 then -(m : Int) else m) := ⟨_, rfl, by simp⟩
  obtain ⟨b, hb4, hbm⟩ := hS'
  rw [← hbm] at hM
  have hz3 : (z : Int) ≤ 9007199254740992 := by omega
  have hz5 : z / 1000 < 18014398509481984 := by omega
  have hz4 := hide hz5
  clear hn hbm hz2 hz5
  go_enter Tryd.func12, Tryd.ntmps12
  go_wp2_with (first | (go_at_call 25; refine (hS _).mono ?_; rintro e w1 ⟨rfl, rfl⟩) | ((with_reducible change Code.wp _ (Code.region _ _ _) _ _ _); refine wp_region_quiet_below (by kernel_rfl) (by kernel_rfl) ?_; (repeat (first | go_big_quiet_step ((first | (go_at_call 25; exact Calls.regrown_of (below_of_same (hS _))))) | quiet_step ((first | (go_at_call 25; exact Calls.regrown_of (below_of_same (hS _))))))); refine wpQuiet_nil ?_; intro w1 hw1; have hb := below_of_regrown hw1; clear hw1; obtain ⟨hS, hE, hz, hc, hf⟩ := bcell hb; (try simp only [go_sem] at hE); subst hE))
  go_loopw [4, 5, 6] (fun a b c wr => ∃ j q r : Nat, a = .int .u64 q ∧ b = .int .u64 r ∧ c = .int .i64 (-(j : Int)) ∧ j ≤ k ∧ r < 1000 ∧ Hid (q < 18014398509481984) ∧ Hid (q * 1000 + r = z * 2 ^ j) ∧ wr = w) (fun _ _ c _ => k - (-(intOf c)).toNat)
  case atStart => exact ⟨0, z / 1000, z % 1000, by go_num, by go_num, rfl, Nat.zero_le _, by omega, hz4, h0, rfl⟩
  case round =>
    obtain ⟨j, q, r, rfl, rfl, rfl, hj, hr, hq2, hq, rfl⟩ := hrel
    obtain ⟨d1, d2⟩ := hD.out j q r hq.out hr hj
    by_cases h : q < 9007199254740992
    · have d4 := hide (d1 h).2
      have d3 := (d1 h).1
      have b5 : decide ((q : Int) < 9007199254740992) = true := decide_eq_true (by omega)
      have q3 : Hid (2 * q + 2 * r / 1000 < 18014398509481984) := hide (by omega)
      have q4 : (q : Int) < 9007199254740992 := by omega
      clear d1 d2 h
      go_wp2
      refine ⟨⟨j + 1, 2 * q + 2 * r / 1000, 2 * r % 1000, by go_num, by go_num, by go_num, d3, by omega, q3, d4, trivial⟩, by simp [intOf]; omega⟩
    · obtain ⟨rfl, -⟩ := d2 (by omega)
      have hh := hH.out q r hq.out hr
      have b5 : decide ((q : Int) < 9007199254740992) = false := decide_eq_false (by omega)
      have q4 : (q : Int) < 18014398509481984 := by have := hq2.out; omega
      clear d1 d2 hq hH hD h0 h hq2
      unfold halfV at hh
      cases b
      all_goals
        simp only [Bool.false_eq_true, if_false, if_true] at hM
        have hh2 : (((q : Int) % 2 == 1) = false ∧ (m : Int) = (q : Int) / 2) ∨ ((q : Int) % 2 = 1 ∧ ¬ r = 0 ∧ IntKind.u64.wrap ((q : Int) / 2 + 1) = (m : Int)) ∨
            ((q : Int) % 2 = 1 ∧ r = 0 ∧ (q : Int) / 2 % 2 = 1 ∧ IntKind.u64.wrap ((q : Int) / 2 + 1) = (m : Int)) ∨ ((q : Int) % 2 = 1 ∧ r = 0 ∧ ((q : Int) / 2 % 2 == 1) = false ∧ (m : Int) = (q : Int) / 2) := by
          have hw : (m : Int) = (q : Int) / 2 + 1 → IntKind.u64.wrap ((q : Int) / 2 + 1) = (m : Int) := fun h => by rw [IntKind.wrap_u64]; omega
          rcases hh with ⟨t1, t2⟩ | ⟨t1, t2, t3⟩ | ⟨t1, t2, t3, t4⟩ | ⟨t1, t2, t3, t4⟩
          · exact .inl ⟨t1, t2⟩
          · exact .inr (.inl ⟨beq_iff_eq.1 t1, t2, hw t3⟩)
          · exact .inr (.inr (.inl ⟨beq_iff_eq.1 t1, t2, beq_iff_eq.1 t3, hw t4⟩))
          · exact .inr (.inr (.inr ⟨beq_iff_eq.1 t1, t2, t3, t4⟩))
        clear hh
        rcases hh2 with ⟨t1, t2⟩ | ⟨t1, t2, t3⟩ | ⟨t1, rfl, t3, t4⟩ | ⟨t1, rfl, t3, t4⟩
      all_goals
        go_wp2_with (first | (go_at_call 26; refine (hM _ _ _ (by omega) (by omega)).mono ?_; rintro e w1 ⟨rfl, hb⟩; obtain ⟨hS, hE, hz, hc, hf⟩ := bcell hb; (try simp only [go_sem] at hE); subst hE) | ((with_reducible change Code.wp _ (Code.region _ _ _) _ _ _); refine wp_region_quiet_below (by kernel_rfl) (by kernel_rfl) ?_; (repeat (first | go_big_quiet_step ((first | (go_at_call 26; exact Calls.regrown_of (hM _ _ _ (by omega) (by omega))))) | quiet_step ((first | (go_at_call 26; exact Calls.regrown_of (hM _ _ _ (by omega) (by omega))))))); refine wpQuiet_nil ?_; intro w1 hw1; have hb := below_of_regrown hw1; clear hw1; obtain ⟨hS, hE, hz, hc, hf⟩ := bcell hb; (try simp only [go_sem] at hE); subst hE))
        go_ret
        exact ⟨rfl, (by repeat' (first | (with_reducible exact Below.refl _ _) | (with_reducible refine below_drewN ?_ _) | (with_reducible refine Below.drew ?_) | (with_reducible refine Below.alloc ?_ ?_ _) | (with_reducible refine Below.setCell ?_ ?_ _) | (with_reducible refine below_step ?_ (by assumption) ?_) | (with_reducible refine below_step ?_ (below_regrown _ _ _) ?_) | go_size))⟩
theorem rmicro_in (n : Int) (F : Nat) (h : n.natAbs ≤ 9007199254740992) (hF : micP n F) (w : World) : Calls Tryd.prog 12 #[.int .i64 n] w fun e w' => e = .returned (.int .u64 F) ∧ Below w.heap.size w w' := by
  rcases hF with ⟨rfl, rfl⟩ | ⟨h0, k, h1, h2, rfl⟩
  · exact rmicro_null w
  · have hz : 0 < n.natAbs := by omega
    obtain ⟨m1, m2⟩ := mic_m h1 h2
    obtain ⟨f1, -, -⟩ := mic_facts hz h1 h2
    have hr := mic_rung hz h1 h2
    refine rmicro_walk n n.natAbs k (rnd (n.natAbs * 2 ^ k) 2000) _ rfl hz h f1 ⟨by omega, by omega⟩ (fun w => rsize_any n (by unfold In64; omega) w) (hide (digit _ k h1 h2)) (hide fun q r e hr => half_all q r _ _ e hr rfl) ?_ w
    intro w v e hv he
    generalize rnd (n.natAbs * 2 ^ k) 2000 = m at *
    subst he
    have hM := rmake_any v (1 - (k : Int)) (by unfold In64; split at hv <;> omega) w
    have e1 : v.natAbs = m := by split at hv <;> omega
    have e2 : decide (v < 0) = decide (n < 0) := by
      by_cases h3 : n < 0
      · rw [if_pos h3] at hv
        rw [decide_eq_true h3, decide_eq_true (by omega)]
      · rw [if_neg h3] at hv
        rw [decide_eq_false h3, decide_eq_false (by omega)]
    rw [e1, hr, e2] at hM
    exact hM
end Go.Proofs.YtpibkodmcdflgaaDoor.Nano
