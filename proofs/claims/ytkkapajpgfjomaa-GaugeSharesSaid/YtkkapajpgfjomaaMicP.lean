/- The microlitres of a volume: the quotient's bits, and that they tell the volume: plain. No condition. -/
import Derived.Test.YtkkapajpgfjomaaQuot
import Derived.Test.YtkkapajpgfjomaaFltS
import Derived.Laws.FloatArith
namespace Go.Proofs.Ytkkapajpgfjomaa.Flt
open Ieee
set_option linter.unusedVariables false
theorem read_word (s : Bool) (K b : Nat) (h1 : 4503599627370496 ≤ K) (h2 : K < 9007199254740992) (h3 : b * 4503599627370496 + K < 9218868437227405312) : double.read (word s (b * 4503599627370496 + K)) = .number s K (-1074 + (b : Int)) := by
  obtain ⟨e1, e2⟩ := word_facts s (b * 4503599627370496 + K) (by omega)
  rw [read_eq, e1, e2, if_neg (by omega), if_pos h3]
  have e3 : 4503599627370496 + (b * 4503599627370496 + K) % 4503599627370496 = K := by omega
  have e4 : (b * 4503599627370496 + K) / 4503599627370496 - 1 = b := by omega
  rw [e3, e4]
theorem log_52 {K : Nat} (h1 : 4503599627370496 ≤ K) (h2 : K < 9007199254740992) : K.log2 = 52 := by
  have e52 : (4503599627370496 : Nat) = 2 ^ 52 := by decide
  have e53 : (9007199254740992 : Nat) = 2 ^ (52 + 1) := by decide
  rw [e52] at h1
  rw [e53] at h2
  exact (Nat.log2_eq_iff (by omega)).2 ⟨h1, h2⟩
/-- A number of 53 bits has its own rung. -/
theorem rung_full (m b : Nat) (h1 : 4503599627370496 ≤ m) (h2 : m ≤ 9007199254740992) (h3 : b * 4503599627370496 + m ≤ 9218868437227405312) : rungOf m (-1074 + (b : Int)) = b * 4503599627370496 + m := by
  rcases Nat.lt_or_eq_of_le h2 with h | rfl
  · have hl := log_52 h1 h
    have e : lastP m (-1074 + (b : Int)) = -1074 + (b : Int) := by unfold lastP; rw [hl]; omega
    unfold rungOf kept
    rw [if_neg (by omega), e, show (-1074 + (b : Int) - (-1074 + (b : Int))).toNat = 0 by omega, Nat.pow_zero, Nat.mul_one, rnd_one, show (-1074 + (b : Int) + 1074).toNat = b by omega]
    omega
  · have e := rungOf_scale 4503599627370496 1 (-1074 + (b : Int))
    rw [show 4503599627370496 * 2 ^ 1 = 9007199254740992 by decide] at e
    rw [e]
    have hl : (4503599627370496 : Nat).log2 = 52 := by decide
    have e2 : lastP 4503599627370496 (-1074 + (b : Int) + ((1 : Nat) : Int)) = -1074 + (b : Int) + 1 := by unfold lastP; rw [hl]; omega
    unfold rungOf kept
    rw [if_neg (by decide), e2, show (-1074 + (b : Int) + ((1 : Nat) : Int) - (-1074 + (b : Int) + 1)).toNat = 0 by omega, show (-1074 + (b : Int) + 1 - (-1074 + (b : Int) + ((1 : Nat) : Int))).toNat = 0 by omega, Nat.pow_zero, Nat.mul_one, rnd_one, show (-1074 + (b : Int) + 1 + 1074).toNat = b + 1 by omega]
    omega
theorem read_1000 : double.read 4652007308841189376 = .number false 8796093022208000 (-43) := by decide
theorem log_1000 : (8796093022208000 : Nat).log2 = 52 := by decide
theorem quo_1000 (s : Bool) (K b : Nat) (h1 : 4503599627370496 ≤ K) (h2 : K < 9007199254740992) (h3 : b * 4503599627370496 + K < 9218868437227405312) :
    double.div (word s (b * 4503599627370496 + K)) 4652007308841189376 = some (word s (rungOf (sticky (K * 2 ^ 54) 8796093022208000) (-1074 + (b : Int) - 12))) := by
  have hd := div_num s false K 8796093022208000 (-1074 + (b : Int)) (-43) (by decide)
  rw [log_1000, log_52 h1 h2] at hd
  unfold Format.div
  rw [read_word s K b h1 h2 h3, read_1000]
  refine hd.trans ?_
  rw [Bool.xor_false, show -1074 + (b : Int) - -43 - ((54 + 52 - 52 : Nat) : Int) - 1 = -1074 + (b : Int) - 12 by omega]
theorem sticky_log {N d c : Nat} (h1 : 2 ^ c ≤ N / d) (h2 : N / d < 2 ^ (c + 1)) : (sticky N d).log2 = c + 1 := by
  have h0 : 0 < 2 ^ c := Nat.pow_pos (by decide)
  have e1 : 2 ^ (c + 1) = 2 ^ c * 2 := Nat.pow_succ ..
  have e2 : 2 ^ (c + 1 + 1) = 2 ^ (c + 1) * 2 := Nat.pow_succ ..
  have h3 : sticky N d ≤ 2 * (N / d) + 1 ∧ 2 * (N / d) ≤ sticky N d := by unfold sticky; split <;> omega
  generalize sticky N d = S at *
  generalize N / d = q at *
  refine (Nat.log2_eq_iff (by omega)).2 ⟨by omega, by omega⟩
/-- The rung of a quotient whose digits reach at least two places further. -/
theorem rung_quot (N d c h b : Nat) (hd : 0 < d) (h1 : 2 ^ c ≤ N / d) (h2 : N / d < 2 ^ (c + 1)) (hc : c = h + 52) (hh : 1 ≤ h) (hb : b ≤ 2044) (p : Int) (hp : p + (h : Int) + 1 = -1074 + (b : Int)) :
    rungOf (sticky N d) p = b * 4503599627370496 + rnd N (d * 2 ^ h) := by
  have hl := sticky_log h1 h2
  have hs : sticky N d ≠ 0 := by
    intro h0
    rw [h0] at hl
    cases hl
  clear h1 h2
  generalize hS : sticky N d = S at *
  have e : lastP S p = -1074 + (b : Int) := by unfold lastP; rw [hl]; omega
  have hk : kept (S) p = rnd N (d * 2 ^ h) := by
    unfold kept
    rw [e, show (p - (-1074 + (b : Int))).toNat = 0 by omega, Nat.pow_zero, Nat.mul_one, show (-1074 + (b : Int) - p).toNat = h + 1 by omega]
    obtain ⟨j, rfl⟩ : ∃ j, h = j + 1 := ⟨h - 1, by omega⟩
    clear hc hp hl e hs hb
    have hj : 0 < 2 ^ j := Nat.pow_pos (by decide)
    have e1 : (2 : Nat) ^ (j + 1 + 1) = 2 * (2 * 2 ^ j) := by rw [Nat.pow_succ, Nat.pow_succ]; omega
    have e2 : (2 : Nat) ^ (j + 1) = 2 * 2 ^ j := by rw [Nat.pow_succ]; omega
    rw [e1, e2]
    rw [← hS]
    exact rnd_sticky N d (2 ^ j) hd hj
  have hle := kept_le (S) p
  rw [hk] at hle
  unfold rungOf
  rw [if_neg hs, hk, e, show (-1074 + (b : Int) + 1074).toNat = b by omega]
  clear hk hp e hl hd hh hc
  generalize rnd N (d * 2 ^ h) = R at *
  exact Nat.min_eq_left (by omega)
/-- The bits of a volume of z nanolitres, where k binary digits behind the point are those of 54 in all. -/
def micR (z k : Nat) : Nat := (1075 - k) * 4503599627370496 + rnd (z * 2 ^ k) 2000
theorem of_int (n : Int) : floatOfInt .f64 n = word (decide (n < 0)) (rungOf n.natAbs 0) := by
  have h := nearest_eq (decide (n < 0)) n.natAbs 0
  exact h
theorem pow_le' {a b : Nat} (h : a ≤ b) : (2 : Nat) ^ a ≤ 2 ^ b := Nat.pow_le_pow_right (by decide) h
theorem k_unique {z k l : Nat} (h1 : 9007199254740992000 ≤ z * 2 ^ k) (h2 : z * 2 ^ k < 18014398509481984000) (g1 : 9007199254740992000 ≤ z * 2 ^ l) (g2 : z * 2 ^ l < 18014398509481984000) : k = l := by
  have key : ∀ a b : Nat, a < b → 9007199254740992000 ≤ z * 2 ^ a → 18014398509481984000 ≤ z * 2 ^ b := by
    intro a b hab h
    have e : 2 ^ (a + 1) ≤ 2 ^ b := pow_le' hab
    have e2 := Nat.mul_le_mul_left z e
    rw [Nat.pow_succ, ← Nat.mul_assoc] at e2
    omega
  rcases Nat.lt_trichotomy k l with h | h | h
  · have := key k l h h1; omega
  · exact h
  · have := key l k h g1; omega
theorem k_le {z k : Nat} (hz : 0 < z) (h : z * 2 ^ k < 18014398509481984000) : k ≤ 63 := by
  apply Nat.le_of_not_lt
  intro hk
  have h1 : 2 ^ 64 ≤ 2 ^ k := pow_le' hk
  have h2 : 1 * 2 ^ k ≤ z * 2 ^ k := Nat.mul_le_mul_right _ hz
  have h3 : (2 : Nat) ^ 64 = 18446744073709551616 := by decide
  omega
theorem quo_53 (s : Bool) : double.div (word s (rungOf 9007199254740992 0)) 4652007308841189376 = some (word s (micR 9007199254740992 10)) := by
  cases s <;> decide +kernel
theorem micro_plain (s : Bool) (z k : Nat) (hz : 0 < z) (hz2 : z ≤ 9007199254740992) (h1 : 9007199254740992000 ≤ z * 2 ^ k) (h2 : z * 2 ^ k < 18014398509481984000) :
    double.div (word s (rungOf z 0)) 4652007308841189376 = some (word s (micR z k)) := by
  rcases Nat.lt_or_eq_of_le hz2 with h | rfl
  · have hl : z.log2 ≤ 52 := by
      have := (Nat.log2_lt (by omega)).2 (show z < 2 ^ 53 from h)
      omega
    have l1 := Nat.log2_self_le (show z ≠ 0 by omega)
    have l2 := Nat.lt_log2_self (n := z)
    generalize z.log2 = l at *
    have hlj : l + (52 - l) = 52 := by omega
    generalize 52 - l = j at *
    have e52 : (2 : Nat) ^ (l + j) = 4503599627370496 := by rw [hlj]
    rw [Nat.pow_add] at e52
    have hj0 : 0 < 2 ^ j := Nat.pow_pos (by decide)
    have k1 : 4503599627370496 ≤ z * 2 ^ j := by rw [← e52]; exact Nat.mul_le_mul_right _ l1
    have k2 : z * 2 ^ j < 9007199254740992 := by
      have := Nat.mul_lt_mul_of_pos_right l2 hj0
      rw [Nat.pow_succ, Nat.mul_right_comm, e52] at this
      exact this
    have hr : rungOf z 0 = (1074 - j) * 4503599627370496 + z * 2 ^ j := by
      have e1 := rungOf_scale z j (-1074 + ((1074 - j : Nat) : Int))
      rw [show -1074 + ((1074 - j : Nat) : Int) + (j : Int) = 0 by omega] at e1
      rw [← e1]
      exact rung_full _ _ k1 (by omega) (by omega)
    rw [hr, quo_1000 s _ _ k1 k2 (by omega)]
    have eN : z * 2 ^ j * 2 ^ 54 = z * 2 ^ (j + 11) * 2 ^ 43 := by rw [Nat.pow_add, ← Nat.mul_assoc, Nat.mul_assoc _ (2 ^ 11) (2 ^ 43)]
    have eD : 8796093022208000 = 1000 * 2 ^ 43 := by decide
    have hq : z * 2 ^ j * 2 ^ 54 / 8796093022208000 = z * 2 ^ (j + 11) / 1000 := by rw [eN, eD, Nat.mul_div_mul_right _ _ (by decide)]
    have eT : z * 2 ^ (j + 11) = z * 2 ^ j * 2048 := by rw [Nat.pow_add, ← Nat.mul_assoc]
    congr 2
    by_cases hT : z * 2 ^ (j + 11) < 18014398509481984000
    · obtain rfl := k_unique (l := j + 11) h1 h2 (by omega) hT
      rw [rung_quot (z * 2 ^ j * 2 ^ 54) 8796093022208000 53 1 (1064 - j) (by decide) (by rw [hq]; omega) (by rw [hq]; omega) rfl (Nat.le_refl _) (by omega) _ (by omega)]
      unfold micR
      rw [eN, show 8796093022208000 * 2 ^ 1 = 2000 * 2 ^ 43 by decide, rnd_scale _ _ _ (by decide), show 1075 - (j + 11) = 1064 - j by omega]
    · have eT2 : z * 2 ^ (j + 11) = z * 2 ^ (j + 10) * 2 := by rw [Nat.pow_succ 2 (j + 10), ← Nat.mul_assoc]
      obtain rfl := k_unique (l := j + 10) h1 h2 (by omega) (by omega)
      rw [rung_quot (z * 2 ^ j * 2 ^ 54) 8796093022208000 54 2 (1065 - j) (by decide) (by rw [hq]; omega) (by rw [hq]; omega) rfl (by decide) (by omega) _ (by omega)]
      unfold micR
      rw [eN, eT2, show 8796093022208000 * 2 ^ 2 = 2000 * (2 * 2 ^ 43) by decide, Nat.mul_assoc (z * 2 ^ (j + 10)) 2, rnd_scale _ _ _ (by decide), show 1075 - (j + 10) = 1065 - j by omega]
  · obtain rfl := k_unique (l := 10) h1 h2 (by decide) (by decide)
    exact quo_53 s
end Go.Proofs.Ytkkapajpgfjomaa.Flt
