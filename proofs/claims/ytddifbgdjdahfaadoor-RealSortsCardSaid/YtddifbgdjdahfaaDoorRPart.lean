/- An odd number and a power of 2 of a float's bits, by the reference. No condition. -/
import Derived.Test.YtddifbgdjdahfaaDoorPart
import Derived.LoopTactic
namespace Go.Proofs.YtddifbgdjdahfaaDoor.Real
open Go.ChangeShapes Go.WideShapes Go.ChangeAt Go.RowKit Go.Proofs.YtddifbgdjdahfaaDoor.Kit Go.Proofs.YtddifbgdjdahfaaDoor.Flt Go.Deep
set_option linter.unusedVariables false
set_option linter.unusedSimpArgs false
/-- The number in the loop: m is M without j of its k factors 2. -/
def HalfI (M k j m : Nat) : Prop := j ≤ k ∧ M = 2 ^ j * m ∧ ∃ q, M = 2 ^ k * (2 * q + 1)
theorem half_even {M k j m : Nat} (h : HalfI M k j m) (he : m % 2 = 0) : HalfI M k (j + 1) (m / 2) := by
  obtain ⟨h1, h2, q, h3⟩ := h
  have hm : m = 2 * (m / 2) := by omega
  have hj : j < k := by
    rcases Nat.lt_or_eq_of_le h1 with h4 | rfl
    · exact h4
    · have h5 := Nat.eq_of_mul_eq_mul_left (Nat.pow_pos (by decide)) (h2.symm.trans h3)
      omega
  refine ⟨hj, ?_, q, h3⟩
  rw [Nat.pow_succ, Nat.mul_assoc, ← hm]
  exact h2
theorem half_odd {M k j m : Nat} (h : HalfI M k j m) (he : m % 2 = 1) : j = k ∧ m = M / 2 ^ k := by
  obtain ⟨h1, h2, q, h3⟩ := h
  rcases Nat.lt_or_eq_of_le h1 with h4 | rfl
  · exfalso
    obtain ⟨d, rfl⟩ : ∃ d, k = j + (d + 1) := ⟨k - j - 1, by omega⟩
    rw [Nat.pow_add, Nat.mul_assoc] at h3
    have h5 := Nat.eq_of_mul_eq_mul_left (Nat.pow_pos (by decide)) (h2.symm.trans h3)
    rw [Nat.pow_succ, Nat.mul_assoc, Nat.mul_left_comm] at h5
    omega
  · refine ⟨rfl, ?_⟩
    rw [h2, Nat.mul_div_cancel_left _ (Nat.pow_pos (by decide))]
theorem half_le {M k j m : Nat} (h : HalfI M k j m) : m ≤ M := by
  obtain ⟨_, h2, _⟩ := h
  rw [h2]
  exact Nat.le_mul_of_pos_left _ (Nat.pow_pos (by decide))
theorem half_pos {M k j m : Nat} (h : HalfI M k j m) (hM : M ≠ 0) : 0 < m := by
  obtain ⟨_, h2, _⟩ := h
  rcases Nat.eq_zero_or_pos m with h3 | h3
  · rw [h3, Nat.mul_zero] at h2
    exact absurd h2 hM
  · exact h3
set_option maxHeartbeats 2000000 in
theorem rparts_walk (x M E k : Nat) (f : Int) (hx : x < 18446744073709551616) (w : World) (hf : classS x = f)
    (hfE : (f = 4 ∧ x % 4503599627370496 = M ∧ E = 0) ∨ (f = 5 ∧ 4503599627370496 + x % 4503599627370496 = M ∧ x / 4503599627370496 % 2048 = E + 1)) (hM : M ≠ 0) (hM2 : M < 9007199254740992) (hE : E ≤ 2046) (hk : k < 53) (hI : HalfI M k 0 M) :
    Calls Tryd.prog 9 #[.int .u64 x] w fun e' w' => e' = .returned (.tuple #[.int .i64 (sg (NEG x) (M / 2 ^ k)), .int .i64 (-1074 + ((E + k : Nat) : Int))]) ∧ w = w' := by
  have hC := fun w => rclass_any x hx w
  rw [hf] at hC
  have HI := hide hI
  clear hI hf
  have HS : (NEG x = true ∧ Hid (sg (NEG x) (M / 2 ^ k) = -((M / 2 ^ k : Nat) : Int))) ∨ (NEG x = false ∧ Hid (sg (NEG x) (M / 2 ^ k) = ((M / 2 ^ k : Nat) : Int))) := by
    unfold sg
    cases NEG x
    · exact .inr ⟨rfl, rfl⟩
    · exact .inl ⟨rfl, rfl⟩
  have HN : Hid (NEG x = ((x : Int) / 9223372036854775808 == 1)) := hide (by
    unfold NEG
    have h2 : x / 9223372036854775808 % 2 = x / 9223372036854775808 := by omega
    rw [h2]
    by_cases h3 : x / 9223372036854775808 = 1
    · rw [h3]
      rw [show (x : Int) / 9223372036854775808 = 1 by omega]
      rfl
    · have h4 : ¬ (x : Int) / 9223372036854775808 = 1 := by omega
      rw [beq_eq_false_iff_ne.2 h4]
      simpa using h3)
  obtain ⟨o, ho⟩ : ∃ o, M / 2 ^ k = o := ⟨_, rfl⟩
  rw [ho] at HS ⊢
  have HO := hide ho
  clear ho
  rcases hfE with ⟨rfl, hl, hE0⟩ | ⟨rfl, hl, he⟩
  focus
    have hl2 : (x : Int) % 4503599627370496 = M := by omega
    go_enter Tryd.func9, Tryd.ntmps9
    go_wp2_with (first | (go_at_call 12; refine (hC _).mono ?_; rintro e w1 ⟨rfl, rfl⟩) | ((with_reducible change Code.wp _ (Code.region _ _ _) _ _ _); refine wp_region_quiet_below (by kernel_rfl) (by kernel_rfl) ?_; (repeat (first | go_big_quiet_step ((first | (go_at_call 12; exact Calls.regrown_of (below_of_same (hC _))))) | quiet_step ((first | (go_at_call 12; exact Calls.regrown_of (below_of_same (hC _))))))); refine wpQuiet_nil ?_; intro w1 hw1; have hb := below_of_regrown hw1; clear hw1; obtain ⟨hS, hE, hz, hc, hf⟩ := bcell hb; (try simp only [go_sem] at hE); subst hE))
  rotate_left
  focus
    have hl2 : (x : Int) % 4503599627370496 + 4503599627370496 = M := by omega
    have he2 : (x : Int) / 4503599627370496 % 2048 = (E : Int) + 1 := by omega
    have he3 : (E : Int) + 1 - 1075 = -1074 + E := by omega
    go_enter Tryd.func9, Tryd.ntmps9
    go_wp2_with (first | (go_at_call 12; refine (hC _).mono ?_; rintro e w1 ⟨rfl, rfl⟩) | ((with_reducible change Code.wp _ (Code.region _ _ _) _ _ _); refine wp_region_quiet_below (by kernel_rfl) (by kernel_rfl) ?_; (repeat (first | go_big_quiet_step ((first | (go_at_call 12; exact Calls.regrown_of (below_of_same (hC _))))) | quiet_step ((first | (go_at_call 12; exact Calls.regrown_of (below_of_same (hC _))))))); refine wpQuiet_nil ?_; intro w1 hw1; have hb := below_of_regrown hw1; clear hw1; obtain ⟨hS, hE, hz, hc, hf⟩ := bcell hb; (try simp only [go_sem] at hE); subst hE))
  rotate_left
  all_goals
    go_loopw [5, 6] (fun a b wr => ∃ j m : Nat, a = .int .i64 m ∧ Hid (HalfI M k j m) ∧ j ≤ k ∧ m ≤ M ∧ 0 < m ∧ b = .int .i64 (-1074 + (E : Int) + j) ∧ wr = w) (fun a _ _ => (intOf a).toNat)
    case atStart => exact ⟨0, M, by go_num, HI, Nat.zero_le _, Nat.le_refl _, by omega, by go_num, rfl⟩
    case round =>
      obtain ⟨j, m, rfl, HJ, hj, hmM, hm0, rfl, rfl⟩ := hrel
      by_cases h2 : m % 2 = 0
      · have HJ2 := hide (half_even HJ.out h2)
        have hj2 := HJ2.out.1
        have r1 : Int.tmod (m : Int) 2 = 0 := by rw [Int.tmod_eq_emod_of_nonneg (by omega)]; omega
        have r2 : Int.tdiv (m : Int) 2 = ((m / 2 : Nat) : Int) := by rw [Int.tdiv_eq_ediv_of_nonneg (by omega)]; omega
        go_wp2
        refine ⟨⟨j + 1, m / 2, by go_num, HJ2, hj2, by omega, by omega, by go_num, trivial⟩, by simp [intOf]; omega⟩
      · obtain ⟨rfl, hm⟩ := half_odd HJ.out (by omega)
        have hmo : m = o := hm.trans HO.out
        subst hmo
        clear hm HO
        have r1 : Int.tmod (m : Int) 2 = 1 := by rw [Int.tmod_eq_emod_of_nonneg (by omega)]; omega
        rcases HS with ⟨hn, HS⟩ | ⟨hn, HS⟩
        all_goals
          have hn2 := HN.out.symm.trans hn
          go_wp2
          go_ret2
          refine ⟨?_, rfl⟩
          rw [HS.out, Int.natCast_add, ← Int.add_assoc]
          rfl
theorem rparts_none (x : Nat) (hx : x < 18446744073709551616) (w : World) (hf : classS x < 4) :
    Calls Tryd.prog 9 #[.int .u64 x] w fun e' w' => e' = .returned (.tuple #[.int .i64 0, .int .i64 0]) ∧ w = w' := by
  have hC := fun w => rclass_any x hx w
  generalize classS x = c at *
  go_enter Tryd.func9, Tryd.ntmps9
  go_wp2_with (first | (go_at_call 12; refine (hC _).mono ?_; rintro e w1 ⟨rfl, rfl⟩) | ((with_reducible change Code.wp _ (Code.region _ _ _) _ _ _); refine wp_region_quiet_below (by kernel_rfl) (by kernel_rfl) ?_; (repeat (first | go_big_quiet_step ((first | (go_at_call 12; exact Calls.regrown_of (below_of_same (hC _))))) | quiet_step ((first | (go_at_call 12; exact Calls.regrown_of (below_of_same (hC _))))))); refine wpQuiet_nil ?_; intro w1 hw1; have hb := below_of_regrown hw1; clear hw1; obtain ⟨hS, hE, hz, hc, hf⟩ := bcell hb; (try simp only [go_sem] at hE); subst hE))
  go_ret2
  exact ⟨rfl, rfl⟩
theorem rparts_any (x : Nat) (hx : x < 18446744073709551616) (w : World) :
    Calls Tryd.prog 9 #[.int .u64 x] w fun e' w' => e' = .returned (.tuple #[.int .i64 (partsV x).1, .int .i64 (partsV x).2]) ∧ w = w' := by
  by_cases hc : classS x < 4
  · have e : partsV x = (0, 0) := if_pos hc
    rw [e]
    exact rparts_none x hx w hc
  · have e : partsV x = (sg (NEG x) (oddM x), -1074 + ((expE x + tzM x : Nat) : Int)) := if_neg hc
    rw [e]
    obtain ⟨c1, c2, c3⟩ := class_full hc
    obtain ⟨m, h1, h2, h3⟩ := man_split c2
    obtain ⟨p1, p2⟩ := man_pos c2
    have hI : HalfI (manM x) (tzM x) 0 (manM x) := ⟨Nat.zero_le _, by rw [Nat.pow_zero, Nat.one_mul], m, h1⟩
    have hlow := low_eq x
    have hshr := shr_eq x hx
    rcases c3 with ⟨hf, hr⟩ | ⟨hf, hr⟩
    · have em : manM x = rg x := if_pos hr
      have ee : expE x = 0 := if_pos hr
      exact rparts_walk x (manM x) (expE x) (tzM x) 4 hx w hf (.inl ⟨rfl, by rw [hlow, em]; omega, ee⟩) p1 p2 (by omega) h3 hI
    · have em : manM x = 4503599627370496 + rg x % 4503599627370496 := if_neg (by omega)
      have ee : expE x = rg x / 4503599627370496 - 1 := if_neg (by omega)
      exact rparts_walk x (manM x) (expE x) (tzM x) 5 hx w hf (.inr ⟨rfl, by rw [hlow, em], by rw [hshr, ee]; omega⟩) p1 p2 (by omega) h3 hI
end Go.Proofs.YtddifbgdjdahfaaDoor.Real
