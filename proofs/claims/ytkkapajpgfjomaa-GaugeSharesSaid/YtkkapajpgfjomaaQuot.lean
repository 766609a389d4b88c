/- Rounding a quotient: the digits of the quotient and one more that tells whether anything is left over round as the quotient itself: plain. No condition. -/
import Derived.Test.YtkkapajpgfjomaaFlt
namespace Go.Proofs.Ytkkapajpgfjomaa.Flt
set_option linter.unusedVariables false
theorem if_iff {p q : Prop} [Decidable p] [Decidable q] (h : p ↔ q) : (if p then (1 : Nat) else 0) = if q then 1 else 0 := by
  by_cases hp : p
  · rw [if_pos hp, if_pos (h.1 hp)]
  · rw [if_neg hp, if_neg (fun hq => hp (h.2 hq))]
/-- The quotient's digits, and one more that is 1 where anything is left over. -/
def sticky (N d : Nat) : Nat := 2 * (N / d) + (if N % d = 0 then 0 else 1)
theorem rnd_sticky (N d h : Nat) (hd : 0 < d) (hh : 0 < h) : rnd (sticky N d) (2 * (2 * h)) = rnd N (d * (2 * h)) := by
  have hN : N = d * (N / d) + N % d := (Nat.div_add_mod N d).symm
  have hR := Nat.mod_lt N hd
  unfold sticky rnd
  generalize hQ : N / d = Q at *
  generalize N % d = R at *
  have hg : 0 < 2 * h := by omega
  obtain ⟨a, b, hab, hb⟩ : ∃ a b, Q = 2 * h * a + b ∧ b < 2 * h := ⟨Q / (2 * h), Q % (2 * h), (Nat.div_add_mod _ _).symm, Nat.mod_lt _ hg⟩
  have e1 : ∀ t, t ≤ 1 → (2 * Q + t) / (2 * (2 * h)) = a ∧ (2 * Q + t) % (2 * (2 * h)) = 2 * b + t := by
    intro t ht
    have e : 2 * Q + t = (2 * b + t) + 2 * (2 * h) * a := by
      rw [hab, Nat.mul_add, Nat.mul_assoc 2 (2 * h) a]
      omega
    rw [e, Nat.add_mul_div_left _ _ (by omega), Nat.add_mul_mod_self_left, Nat.div_eq_of_lt (by omega), Nat.mod_eq_of_lt (by omega)]
    exact ⟨Nat.zero_add _, rfl⟩
  have hdb : d * b + R < d * (2 * h) := by
    have h1 : d * (b + 1) ≤ d * (2 * h) := Nat.mul_le_mul_left _ (by omega)
    rw [Nat.mul_add] at h1
    omega
  have e2 : N / (d * (2 * h)) = a ∧ N % (d * (2 * h)) = d * b + R := by
    have e : N = (d * b + R) + d * (2 * h) * a := by
      rw [hN, hab, Nat.mul_add, Nat.mul_assoc d (2 * h) a]
      omega
    rw [e, Nat.add_mul_div_left _ _ (by omega), Nat.add_mul_mod_self_left, Nat.div_eq_of_lt hdb, Nat.mod_eq_of_lt hdb]
    exact ⟨Nat.zero_add _, rfl⟩
  rw [e2.1, e2.2]
  clear hQ hN e2 hab
  have c1 : ∀ k : Nat, (2 * h < 2 * b → d * (2 * h) < 2 * (d * b)) ∧ (2 * h = 2 * b → d * (2 * h) = 2 * (d * b)) ∧ (2 * b + 2 ≤ 2 * h → 2 * (d * b) + 2 * d ≤ d * (2 * h)) := by
    intro _
    refine ⟨fun h1 => ?_, fun h1 => ?_, fun h1 => ?_⟩
    · rw [Nat.mul_left_comm 2 d b]
      exact Nat.mul_lt_mul_of_pos_left h1 hd
    · rw [h1, Nat.mul_left_comm]
    · have h2 := Nat.mul_le_mul_left d h1
      rw [Nat.mul_add, Nat.mul_left_comm d 2 b] at h2
      omega
  obtain ⟨k1, k2, k3⟩ := c1 0
  clear c1
  by_cases hr : R = 0
  · subst hr
    rw [if_pos rfl, (e1 0 (by omega)).1, (e1 0 (by omega)).2]
    refine congrArg (a + ·) (if_iff ?_)
    rcases Nat.lt_trichotomy (2 * h) (2 * b) with h1 | h1 | h1
    · have := k1 h1; omega
    · have := k2 h1; omega
    · have := k3 (by omega); omega
  · rw [if_neg hr, (e1 1 (Nat.le_refl _)).1, (e1 1 (Nat.le_refl _)).2]
    refine congrArg (a + ·) (if_iff ?_)
    rcases Nat.lt_trichotomy (2 * h) (2 * b) with h1 | h1 | h1
    · have := k1 h1; omega
    · have := k2 h1; omega
    · have := k3 (by omega); omega
open Ieee in
/-- The quotient of two numbers, as the next rung. -/
theorem div_num (s t : Bool) (m n : Nat) (i j : Int) (hn : n ≠ 0) : ((Datum.number s m i).quotient 54 (.number t n j)).map double.write =
    some (word (s ^^ t) (rungOf (sticky (m * 2 ^ (54 + n.log2 - m.log2)) n) (i - j - ((54 + n.log2 - m.log2 : Nat) : Int) - 1))) := by
  have e : (2 * (m * 2 ^ (54 + n.log2 - m.log2) / n) + (m * 2 ^ (54 + n.log2 - m.log2) % n != 0).toNat) = sticky (m * 2 ^ (54 + n.log2 - m.log2)) n := by
    unfold sticky
    by_cases h : m * 2 ^ (54 + n.log2 - m.log2) % n = 0
    · rw [h]
      rfl
    · rw [if_neg h, show (m * 2 ^ (54 + n.log2 - m.log2) % n != 0) = true from bne_iff_ne.2 h]
      rfl
  unfold Datum.quotient
  simp only [hn, if_false, Nat.shiftLeft_eq, e, Option.map_some]
  rw [← nearest_eq]
  rfl
end Go.Proofs.Ytkkapajpgfjomaa.Flt
