/- A number divided by a power of 2, to the nearest whole one, by the program and by the reference. No condition. -/
import Derived.Test.YtpibkodmcdflgaaDoorRPart
namespace Go.Proofs.YtpibkodmcdflgaaDoor.Nano
open Go.ChangeShapes Go.WideShapes Go.ChangeAt Go.RowKit Go.Proofs.YtpibkodmcdflgaaDoor.Kit Go.Proofs.YtpibkodmcdflgaaDoor.Flt Go.Proofs.YtpibkodmcdflgaaDoor.Real Go.Deep
set_option linter.unusedVariables false
set_option linter.unusedSimpArgs false
def upV (q : Nat) (a b : Bool) : Nat := if a = true ∨ (b = true ∧ q % 2 = 1) then q + 1 else q
set_option maxHeartbeats 1000000 in
theorem near_walk (n s q r : Nat) (h1 : 1 ≤ s) (h2 : s ≤ 63) (hn : n < 9223372036854775808) (hq2 : q < 9223372036854775807) (w : World) (hq : (n : Int) / 2 ^ s = (q : Int)) (hr : IntKind.u64.wrap ((n : Int) * 2 ^ (64 + -(s : Int)).toNat) = (r : Int)) (hz : s = 63 → q = 0) :
    Calls Tryd.prog 19 #[.int .i64 n, .int .i64 (-(s : Int))] w fun e w' => e = .returned (.int .i64 (upV q (decide (9223372036854775808 < r)) (decide (r = 9223372036854775808)) : Nat)) ∧ w = w' := by
  have HU := hide (show upV q (decide (9223372036854775808 < r)) (decide (r = 9223372036854775808)) = if decide (9223372036854775808 < r) = true ∨ (decide (r = 9223372036854775808) = true ∧ q % 2 = 1) then q + 1 else q from rfl)
  have r2 : Int.tmod (q : Int) 2 = ((q % 2 : Nat) : Int) := by rw [Int.tmod_eq_emod_of_nonneg (by omega)]; omega
  have hqm : q % 2 = 0 ∨ q % 2 = 1 := by omega
  have w1' : wrap64 ((q : Int) + 1) = q + 1 := IntWalk.wrap64_in _ ⟨by omega, by omega⟩
  have hs : (((-(s : Int)) == -63) = true ∧ q = 0) ∨ ((-(s : Int)) == -63) = false := by
    rcases Nat.lt_or_eq_of_le h2 with h3 | h3
    · exact .inr (beq_eq_false_iff_ne.2 (by omega))
    · exact .inl ⟨by rw [h3]; rfl, hz h3⟩
  have key : (r < 9223372036854775808 ∧ Hid (upV q (decide (9223372036854775808 < r)) (decide (r = 9223372036854775808)) = q)) ∨ (r = 9223372036854775808 ∧ q % 2 = 0 ∧ Hid (upV q (decide (9223372036854775808 < r)) (decide (r = 9223372036854775808)) = q)) ∨
      (r = 9223372036854775808 ∧ q % 2 = 1 ∧ Hid (upV q (decide (9223372036854775808 < r)) (decide (r = 9223372036854775808)) = q + 1)) ∨ (9223372036854775808 < r ∧ Hid (upV q (decide (9223372036854775808 < r)) (decide (r = 9223372036854775808)) = q + 1)) := by
    rcases Nat.lt_trichotomy r 9223372036854775808 with h | h | h
    · exact .inl ⟨h, HU.out.trans (if_neg (by rw [decide_eq_false (by omega), decide_eq_false (by omega)]; simp))⟩
    · rcases hqm with hm | hm
      · exact .inr (.inl ⟨h, hm, HU.out.trans (if_neg (by rw [decide_eq_false (by omega), hm]; simp))⟩)
      · exact .inr (.inr (.inl ⟨h, hm, HU.out.trans (if_pos (.inr ⟨decide_eq_true h, hm⟩))⟩))
    · exact .inr (.inr (.inr ⟨h, HU.out.trans (if_pos (.inl (decide_eq_true h)))⟩))
  clear hz hqm HU
  generalize upV q (decide (9223372036854775808 < r)) (decide (r = 9223372036854775808)) = U at *
  rcases key with ⟨h, HR⟩ | ⟨rfl, hm, HR⟩ | ⟨rfl, hm, HR⟩ | ⟨h, HR⟩
  · clear r2 w1'
    rcases hs with ⟨hb, rfl⟩ | hb
    all_goals
      go_enter Tryd.func19, Tryd.ntmps19
      go_wp2
      go_ret
      exact ⟨by rw [HR.out]; rfl, rfl⟩
  · rw [hm] at r2
    clear hm w1'
    rcases hs with ⟨hb, rfl⟩ | hb
    all_goals
      go_enter Tryd.func19, Tryd.ntmps19
      go_wp2
      go_ret
      exact ⟨by rw [HR.out]; rfl, rfl⟩
  · rw [hm] at r2
    rcases hs with ⟨hb, rfl⟩ | hb
    · cases hm
    · clear hm
      go_enter Tryd.func19, Tryd.ntmps19
      go_wp2
      go_ret
      exact ⟨by rw [HR.out]; rfl, rfl⟩
  · clear r2
    rcases hs with ⟨hb, rfl⟩ | hb
    all_goals
      go_enter Tryd.func19, Tryd.ntmps19
      go_wp2
      go_ret
      exact ⟨by rw [HR.out]; rfl, rfl⟩
theorem near_far (n s : Nat) (h : 64 ≤ s) (hs : s ≤ 2000) (w : World) : Calls Tryd.prog 19 #[.int .i64 n, .int .i64 (-(s : Int))] w fun e w' => e = .returned (.int .i64 0) ∧ w = w' := by
  go_enter Tryd.func19, Tryd.ntmps19
  go_wp2
  go_ret
  exact ⟨rfl, rfl⟩
theorem rnd_up (n g c : Nat) (hg : 0 < g) (hc : 0 < c) (h : g * c = 18446744073709551616) : upV (n / g) (decide (9223372036854775808 < n % g * c)) (decide (n % g * c = 9223372036854775808)) = rnd n g := by
  have e1 : (9223372036854775808 < n % g * c) ↔ g < 2 * (n % g) := by
    have h1 : 9223372036854775808 < n % g * c ↔ g * c < 2 * (n % g) * c := by rw [Nat.mul_assoc]; omega
    rw [h1]
    exact Nat.mul_lt_mul_right hc
  have e2 : (n % g * c = 9223372036854775808) ↔ g = 2 * (n % g) := by
    have h1 : n % g * c = 9223372036854775808 ↔ g * c = 2 * (n % g) * c := by rw [Nat.mul_assoc]; omega
    rw [h1]
    exact ⟨fun h2 => Nat.eq_of_mul_eq_mul_right hc h2, fun h2 => by rw [← h2]⟩
  unfold upV rnd
  simp only [decide_eq_true_eq, e1, e2]
  split <;> rfl
theorem near_any (n s : Nat) (h1 : 1 ≤ s) (hs : s ≤ 2000) (hn : n < 9223372036854775808) (w : World) : Calls Tryd.prog 19 #[.int .i64 n, .int .i64 (-(s : Int))] w fun e w' => e = .returned (.int .i64 (rnd n (2 ^ s) : Nat)) ∧ w = w' := by
  have hg : 0 < 2 ^ s := Nat.pow_pos (by decide)
  by_cases h : s ≤ 63
  · have hc : 0 < 2 ^ (64 - s) := Nat.pow_pos (by decide)
    have hgc : 2 ^ s * 2 ^ (64 - s) = 18446744073709551616 := by
      rw [← Nat.pow_add, show s + (64 - s) = 64 by omega]
    have h2g : 2 ≤ 2 ^ s := by
      rw [show s = s - 1 + 1 by omega, Nat.pow_succ, Nat.mul_comm]
      exact Nat.mul_le_mul_left 2 (Nat.pow_pos (by decide))
    have hqle : n / 2 ^ s ≤ n / 2 := Nat.div_le_div_left (by omega) (show 0 < 2 by decide)
    rw [← rnd_up n (2 ^ s) (2 ^ (64 - s)) hg hc hgc]
    refine near_walk n s (n / 2 ^ s) (n % 2 ^ s * 2 ^ (64 - s)) h1 h hn (by omega) w (by rw [Int.natCast_ediv, Int.natCast_pow]; rfl) ?_ ?_
    · rw [show (64 + -(s : Int)).toNat = 64 - s by omega, IntKind.wrap_u64]
      have e : (n : Int) * 2 ^ (64 - s) = ((n * 2 ^ (64 - s) : Nat) : Int) := by rw [Int.natCast_mul, Int.natCast_pow]; rfl
      rw [e, ← Nat.mul_mod_mul_right, hgc]
      omega
    · intro h3
      subst h3
      exact Nat.div_eq_of_lt hn
  · have e : rnd n (2 ^ s) = 0 := by
      have hp : (2 : Nat) ^ 64 ≤ 2 ^ s := Nat.pow_le_pow_right (by decide) (by omega)
      have hp2 : (2 : Nat) ^ 64 = 18446744073709551616 := by decide
      have h3 : n / 2 ^ s = 0 := Nat.div_eq_of_lt (by omega)
      have h4 : n % 2 ^ s = n := Nat.mod_eq_of_lt (by omega)
      unfold rnd
      rw [h3, h4, if_neg (by omega)]
    rw [e]
    exact near_far n s (by omega) hs w
end Go.Proofs.YtpibkodmcdflgaaDoor.Nano
