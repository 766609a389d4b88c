/- The float next to a number and a power of 2, by the program: one contract. No condition. -/
import Derived.Test.YtddifbgdjdahfaaDoorMake
namespace Go.Proofs.YtddifbgdjdahfaaDoor.Real
open Go.ChangeShapes Go.WideShapes Go.ChangeAt Go.RowKit Go.Proofs.YtddifbgdjdahfaaDoor.Kit Go.Proofs.YtddifbgdjdahfaaDoor.Flt Go.Proofs.YtddifbgdjdahfaaDoor.Num Go.Deep
set_option linter.unusedVariables false
set_option linter.unusedSimpArgs false
theorem kept_h (n : Nat) (e : Int) (hn : n ≤ 9223372036854775808) (he : -2000 ≤ e) (ha : lastP n e ≤ 971) : keptH n (kept n e) (e - lastP n e) (lastP n e - e) := by
  have h1 := kept_le n e
  unfold keptH
  unfold kept at h1 ⊢
  generalize lastP n e = a at *
  by_cases h : a ≤ e
  · left
    rw [show (a - e).toNat = 0 by omega, Nat.pow_zero, rnd_one] at h1 ⊢
    refine ⟨(e - a).toNat, by omega, ?_⟩
    have e2 : (n : Int) * 2 ^ (e - a).toNat = ((n * 2 ^ (e - a).toNat : Nat) : Int) := by rw [Int.natCast_mul, Int.natCast_pow]; rfl
    rw [e2, IntKind.wrap_u64]
    generalize n * 2 ^ (e - a).toNat = v at *
    omega
  · right
    rw [show (e - a).toNat = 0 by omega, Nat.pow_zero, Nat.mul_one]
    obtain ⟨k, hk⟩ : ∃ k : Nat, a - e = k := ⟨(a - e).toNat, by omega⟩
    rw [hk, Int.toNat_natCast]
    refine ⟨by omega, fun w => ?_⟩
    have h64 : (2 : Nat) ^ 64 = 18446744073709551616 := by decide
    by_cases h2 : 64 < k
    · rw [rnd_zero (g := 2 ^ k) (by
        have : (2 : Nat) ^ 64 ≤ 2 ^ k := Nat.pow_le_pow_right (by decide) (by omega)
        omega) (Nat.pow_pos (by decide))]
      exact halved_far n k h2 (by omega) w
    · exact halved_any n k (by omega) (by omega) (by omega) w
theorem make_any (m e : Int) (hm : In64 m) (w : World) : Calls Tryd.prog 16 #[.int .i64 m, .int .i64 e] w fun e' w' => e' = .returned (.float .f64 (word (decide (m < 0)) (rungOf m.natAbs e))) ∧ w = w' := by
  by_cases h0 : m = 0
  · subst h0
    exact mk_null e w
  have b1 : (m == 0) = false := beq_eq_false_iff_ne.2 h0
  have cS := fun w => size_any m hm w
  have hn : m.natAbs ≤ 9223372036854775808 := by unfold In64 at hm; omega
  have hn0 : m.natAbs ≠ 0 := by omega
  generalize m.natAbs = n at *
  have cL := fun w => len_any n (by omega) w
  have hL2 := len_le (n := n) (by omega)
  by_cases h1 : e < -2000
  · rw [rung_low n e hn h1]
    exact mk_low m e n (lenV n) _ rfl w cS cL b1 (decide_eq_true h1)
  have b2 : decide (e < -2000) = false := decide_eq_false h1
  by_cases h2 : 2000 < e ∨ 1024 < e + (lenV n : Int)
  · rw [rung_inf n e hn0 (by
      have hL1 : 1 ≤ lenV n := by unfold lenV; rw [if_neg hn0]; omega
      omega)]
    refine mk_inf m e n (lenV n) _ rfl w cS cL b1 b2 hL2 ?_
    by_cases h3 : 2000 < e
    · exact .inl (decide_eq_true h3)
    · exact .inr ⟨decide_eq_false h3, by omega, by omega, decide_eq_true (by omega)⟩
  have b3 : decide (2000 < e) = false := decide_eq_false (by omega)
  have b4 : decide (1024 < e + (lenV n : Int)) = false := decide_eq_false (by omega)
  have hk := kept_le n e
  have hcs := last_cases n e hn0
  have ha : max (e + (lenV n : Int) - 52 - 1) (-1074) = lastP n e := by omega
  have hge := kept_ge n e hn0
  have hK := kept_h n e hn (by omega) (by omega)
  have hr : rungOf n e = (lastP n e + 1074).toNat * 4503599627370496 + kept n e := by
    unfold rungOf
    rw [if_neg hn0]
    exact Nat.min_eq_left (by omega)
  rw [hr]
  refine mk_fin m e (lastP n e) _ _ n (lenV n) (kept n e) (lastP n e + 1074).toNat _ rfl w cS cL b1 b2 b3 b4 ⟨by omega, by omega⟩ hL2 ha ⟨by omega, by omega⟩ (by omega) (by omega) rfl rfl hK ?_ (by omega)
  by_cases h5 : 4503599627370496 ≤ kept n e
  · exact .inr (decide_eq_true (by omega))
  · refine .inl ⟨decide_eq_false (by omega), ?_⟩
    rcases hcs with ⟨_, h6⟩ | ⟨h6, h7⟩
    · omega
    · rcases Int.lt_or_eq_of_le h6 with h8 | h8
      · exact absurd (hge (by omega)) h5
      · omega
end Go.Proofs.YtddifbgdjdahfaaDoor.Real
