/- The microlitres of a volume tell it: plain. No condition. -/
import Derived.Test.YtpibkodmcdflgaaDoorMicP
import Derived.Test.YtpibkodmcdflgaaDoorNanM
namespace Go.Proofs.YtpibkodmcdflgaaDoor.Nano
open Go.ChangeShapes Go.WideShapes Go.ChangeAt Go.RowKit Go.Proofs.YtpibkodmcdflgaaDoor.Kit Go.Proofs.YtpibkodmcdflgaaDoor.Flt Go.Proofs.YtpibkodmcdflgaaDoor.Real Go.Deep
set_option linter.unusedVariables false
theorem rnd_close {N g : Nat} (hg : 0 < g) : 2 * (g * rnd N g) ≤ 2 * N + g ∧ 2 * N ≤ 2 * (g * rnd N g) + g := by
  have e := Nat.div_add_mod N g
  have hm := Nat.mod_lt N hg
  unfold rnd
  generalize N / g = q at *
  generalize N % g = r at *
  split
  · rw [Nat.mul_add]
    omega
  · rw [Nat.add_zero]
    omega
theorem rnd_near {N g c : Nat} (hg : 0 < g) (h1 : 2 * (c * g) < 2 * N + g) (h2 : 2 * N < 2 * (c * g) + g) : rnd N g = c := by
  have e := Nat.div_add_mod N g
  have hm := Nat.mod_lt N hg
  rw [Nat.mul_comm c g] at h1 h2
  unfold rnd
  generalize N / g = q at *
  generalize N % g = r at *
  have a1 : g * c < g * (q + 2) := by rw [Nat.mul_add]; omega
  have a2 : g * q < g * (c + 1) := by rw [Nat.mul_add]; omega
  have a3 := Nat.lt_of_mul_lt_mul_left a1
  have a4 := Nat.lt_of_mul_lt_mul_left a2
  rcases Nat.lt_or_eq_of_le (show q ≤ c by omega) with h | rfl
  · have hc : c = q + 1 := by omega
    subst hc
    rw [Nat.mul_add] at h1 h2
    rw [if_pos (.inl (by omega))]
  · rw [if_neg (by omega), Nat.add_zero]
theorem mag_full (m b : Nat) (h1 : 4503599627370496 ≤ m) (h2 : m ≤ 9007199254740992) : magR (b * 4503599627370496 + m) = m * 2 ^ b := by
  unfold magR
  rw [if_neg (by omega)]
  rcases Nat.lt_or_eq_of_le h2 with h | rfl
  · rw [show 4503599627370496 + (b * 4503599627370496 + m) % 4503599627370496 = m by omega, show (b * 4503599627370496 + m) / 4503599627370496 - 1 = b by omega]
  · rw [show 4503599627370496 + (b * 4503599627370496 + 9007199254740992) % 4503599627370496 = 4503599627370496 by omega, show (b * 4503599627370496 + 9007199254740992) / 4503599627370496 - 1 = b + 1 by omega, Nat.pow_succ]
    omega
theorem vV_at : ∃ E : Nat, E = 1074 ∧ ∀ x, rg x ≠ 0 → vV x = rnd (magR (rg x) * 1000) (2 ^ E) := ⟨1074, rfl, fun x h => by
  rw [mag_odd h]
  exact vV_gen (oddM x) (pE x) 1074⟩
theorem mic_m {z k : Nat} (h1 : 9007199254740992000 ≤ z * 2 ^ k) (h2 : z * 2 ^ k < 18014398509481984000) : 4503599627370496 ≤ rnd (z * 2 ^ k) 2000 ∧ rnd (z * 2 ^ k) 2000 ≤ 9007199254740992 := by
  have := rnd_close (N := z * 2 ^ k) (g := 2000) (by decide)
  generalize rnd (z * 2 ^ k) 2000 = m at *
  generalize z * 2 ^ k = T at *
  omega
theorem back_E (z i m b E : Nat) (hE : E = b + i) (hi : 1001 ≤ 2 ^ i) (hm : m = rnd (z * 2 ^ (i + 1)) 2000) : rnd (m * 2 ^ b * 1000) (2 ^ E) = z := by
  have hc := rnd_close (N := z * 2 ^ (i + 1)) (g := 2000) (by decide)
  have e2 : z * 2 ^ (i + 1) = z * 2 ^ i * 2 := by rw [Nat.pow_succ, Nat.mul_assoc]
  rw [← hm, e2] at hc
  clear hm e2
  rw [hE, Nat.add_comm, Nat.pow_add, Nat.mul_right_comm, rnd_scale _ _ _ (pow_pos2 _)]
  refine rnd_near (pow_pos2 _) ?_ ?_
  · generalize z * 2 ^ i = T at *
    generalize 2 ^ i = g at *
    omega
  · generalize z * 2 ^ i = T at *
    generalize 2 ^ i = g at *
    omega
theorem mic_facts {z k : Nat} (hz : 0 < z) (h1 : 9007199254740992000 ≤ z * 2 ^ k) (h2 : z * 2 ^ k < 18014398509481984000) : k ≤ 63 ∧ 4503599627370496 ≤ micR z k ∧ micR z k < 9218868437227405312 := by
  have hk := k_le hz h2
  obtain ⟨m1, m2⟩ := mic_m h1 h2
  unfold micR
  generalize rnd (z * 2 ^ k) 2000 = m at *
  exact ⟨hk, by omega, by omega⟩
theorem word_class (s : Bool) {r : Nat} (h1 : 4503599627370496 ≤ r) (h2 : r < 9218868437227405312) : classS (word s r) = 5 ∧ rg (word s r) = r ∧ NEG (word s r) = s ∧ nanB (word s r) = false ∧ word s r < 18446744073709551616 := by
  obtain ⟨e1, e2⟩ := word_facts s r (by omega)
  have e3 : nanB (word s r) = false := by unfold nanB; rw [e2]; exact decide_eq_false (by omega)
  refine ⟨?_, e2, e1, e3, ?_⟩
  · unfold classS
    rw [e3, e2, if_neg (by decide), if_neg (by omega), if_neg (by omega), if_neg (by omega)]
  · unfold word
    split <;> omega
theorem mic_back {z k : Nat} (hz : 0 < z) (hz2 : z ≤ 1099511627776) (h1 : 9007199254740992000 ≤ z * 2 ^ k) (h2 : z * 2 ^ k < 18014398509481984000) : ofV (word false (micR z k)) = ((z : Int), 0) := by
  obtain ⟨f1, f2, f3⟩ := mic_facts hz h1 h2
  obtain ⟨c1, c2, c3, c4, c5⟩ := word_class false f2 f3
  have hk : 23 ≤ k := by
    apply Nat.le_of_not_lt
    intro hk
    have a1 : 2 ^ k ≤ 2 ^ 22 := pow_le' (by omega)
    have a2 := Nat.mul_le_mul hz2 a1
    have a3 : (2 : Nat) ^ 22 = 4194304 := by decide
    omega
  obtain ⟨E, hE, hV⟩ := vV_at
  have hv : vV (word false (micR z k)) = z := by
    rw [hV _ (by omega), c2]
    obtain ⟨m1, m2⟩ := mic_m h1 h2
    obtain ⟨i, rfl⟩ : ∃ i, k = i + 1 := ⟨k - 1, by omega⟩
    unfold micR
    rw [mag_full _ _ m1 m2]
    refine back_E z i _ _ E (by omega) ?_ rfl
    have a1 : 2 ^ 22 ≤ 2 ^ i := pow_le' (by omega)
    have a3 : (2 : Nat) ^ 22 = 4194304 := by decide
    omega
  rw [ofV_fin (by omega) c3, hv, if_neg (by omega)]
theorem mic_some : ∀ d z : Nat, z < 18014398509481984000 → 9007199254740992000 ≤ z * 2 ^ d → ∃ k, 9007199254740992000 ≤ z * 2 ^ k ∧ z * 2 ^ k < 18014398509481984000
  | 0, z, h1, h2 => ⟨0, h2, by rw [Nat.pow_zero, Nat.mul_one]; exact h1⟩
  | d + 1, z, h1, h2 => by
    by_cases h : 9007199254740992000 ≤ z
    · exact ⟨0, by rw [Nat.pow_zero, Nat.mul_one]; exact h, by rw [Nat.pow_zero, Nat.mul_one]; exact h1⟩
    · have e : ∀ k, z * 2 * 2 ^ k = z * 2 ^ (k + 1) := fun k => by rw [Nat.pow_succ, Nat.mul_assoc, Nat.mul_comm 2]
      obtain ⟨k, k1, k2⟩ := mic_some d (z * 2) (by omega) (by rw [e]; exact h2)
      rw [e] at k1 k2
      exact ⟨k + 1, k1, k2⟩
/-- The bits of a volume in microlitres. -/
def micP (n : Int) (F : Nat) : Prop := (n = 0 ∧ F = 0) ∨ (n ≠ 0 ∧ ∃ k, 9007199254740992000 ≤ n.natAbs * 2 ^ k ∧ n.natAbs * 2 ^ k < 18014398509481984000 ∧ F = word (decide (n < 0)) (micR n.natAbs k))
theorem mic_any (n : Int) (h : n.natAbs ≤ 9007199254740992) : ∃ F, micP n F := by
  by_cases h0 : n = 0
  · exact ⟨0, .inl ⟨h0, rfl⟩⟩
  · obtain ⟨k, h1, h2⟩ := mic_some 63 n.natAbs (by omega) (by
      have a2 : 1 * 2 ^ 63 ≤ n.natAbs * 2 ^ 63 := Nat.mul_le_mul_right _ (by omega)
      have a3 : (2 : Nat) ^ 63 = 9223372036854775808 := by decide
      omega)
    exact ⟨_, .inr ⟨h0, k, h1, h2, rfl⟩⟩
theorem quo_zero : floatBits .quo .f64 (floatOfInt .f64 0) 4652007308841189376 = some 0 := by decide +kernel
theorem mic_quo {n : Int} {F : Nat} (hn : n.natAbs ≤ 9007199254740992) (h : micP n F) : floatBits .quo .f64 (floatOfInt .f64 n) 4652007308841189376 = some F := by
  rcases h with ⟨rfl, rfl⟩ | ⟨h0, k, h1, h2, rfl⟩
  · exact quo_zero
  · rw [of_int]
    exact micro_plain _ _ k (by omega) hn h1 h2
theorem mic_ok {n : Int} {F : Nat} (h : micP n F) : F < 18446744073709551616 ∧ classS F ≠ 1 ∧ nanB F = false := by
  rcases h with ⟨rfl, rfl⟩ | ⟨h0, k, h1, h2, rfl⟩
  · decide
  · obtain ⟨f1, f2, f3⟩ := mic_facts (by omega) h1 h2
    obtain ⟨c1, c2, c3, c4, c5⟩ := word_class (decide (n < 0)) f2 f3
    exact ⟨c5, by omega, c4⟩
theorem mic_of {n : Int} {F : Nat} (h1 : 0 ≤ n) (h2 : n ≤ 1099511627776) (h : micP n F) : ofV F = (n, 0) := by
  rcases h with ⟨rfl, rfl⟩ | ⟨h0, k, k1, k2, rfl⟩
  · decide
  · rw [decide_eq_false (by omega), mic_back (by omega) (by omega) k1 k2]
    congr 1
    omega
end Go.Proofs.YtpibkodmcdflgaaDoor.Nano
