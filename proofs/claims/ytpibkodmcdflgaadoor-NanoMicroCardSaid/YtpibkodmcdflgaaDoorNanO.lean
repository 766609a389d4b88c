/- The volume of a float: plain. No condition. -/
import Derived.Test.YtpibkodmcdflgaaDoorNanR
import Derived.Test.YtpibkodmcdflgaaDoorFltS
namespace Go.Proofs.YtpibkodmcdflgaaDoor.Nano
open Go.ChangeShapes Go.WideShapes Go.ChangeAt Go.RowKit Go.Proofs.YtpibkodmcdflgaaDoor.Kit Go.Proofs.YtpibkodmcdflgaaDoor.Flt Go.Proofs.YtpibkodmcdflgaaDoor.Real Go.Deep
set_option linter.unusedVariables false
def nV (x : Nat) : Nat := oddM x * 1000
def pE (x : Nat) : Nat := expE x + tzM x
def vV (x : Nat) : Nat := if pE x < 1074 then rnd (nV x) (2 ^ (1074 - pE x)) else nV x * 2 ^ (pE x - 1074)
def ofV (x : Nat) : Int × Int :=
  if classS x = 1 then (0, 20) else if classS x = 2 then (0, 21) else if classS x = 3 then (0, 0) else if NEG x = true then (0, 22) else if 1099511627776 < vV x then (0, 4) else ((vV x : Int), 0)
theorem mag_odd {x : Nat} (h : rg x ≠ 0) : magR (rg x) = oddM x * 2 ^ pE x := by
  obtain ⟨m, h1, h2, _⟩ := man_split h
  have e : magR (rg x) = manM x * 2 ^ expE x := by
    unfold magR manM expE
    by_cases h3 : rg x < 4503599627370496
    · rw [if_pos h3, if_pos h3, if_pos h3, Nat.pow_zero, Nat.mul_one]
    · rw [if_neg h3, if_neg h3, if_neg h3]
  rw [e, h1, h2]
  unfold pE
  rw [Nat.pow_add, Nat.mul_comm (2 ^ tzM x), Nat.mul_assoc, Nat.mul_comm (2 ^ tzM x)]
theorem mag_most : magR 4787326403894837248 = 2 ^ 1114 := by decide +kernel
theorem gt_most {x : Nat} (h : rg x ≠ 0) : 4787326403894837248 < rg x ↔ 2 ^ 1114 < oddM x * 2 ^ pE x := by
  rw [← magR_iff, mag_odd h, mag_most]
theorem odd_lt {x : Nat} (h : rg x ≠ 0) : 0 < oddM x ∧ oddM x < 9007199254740992 := by
  obtain ⟨m, h1, h2, _⟩ := man_split h
  obtain ⟨_, p2⟩ := man_pos h
  refine ⟨by omega, Nat.lt_of_le_of_lt (Nat.div_le_self _ _) p2⟩
theorem pow_cut (a b c : Nat) (h : a = b + c) : (2 : Nat) ^ a = 2 ^ b * 2 ^ c := by rw [h, Nat.pow_add]
theorem pow_pos2 (k : Nat) : 0 < (2 : Nat) ^ k := Nat.pow_pos (by decide)
theorem cancel {a b c : Nat} (h : a * c < b * c) : a < b := Nat.lt_of_mul_lt_mul_right h
theorem cancel_le {a b c : Nat} (hc : 0 < c) (h : a * c ≤ b * c) : a ≤ b := Nat.le_of_mul_le_mul_right h hc
/-- Beyond the greatest volume as microlitres, all the more as nanolitres. -/
theorem far_over {x : Nat} (h : 2 ^ 1114 < oddM x * 2 ^ pE x) : 1099511627776 < vV x := by
  have h40 : (2 : Nat) ^ 40 = 1099511627776 := by decide
  unfold vV nV
  generalize oddM x = o at *
  generalize pE x = p at *
  split
  · rename_i hp
    have hg : 0 < 2 ^ (1074 - p) := Nat.pow_pos (by decide)
    have h1 : 2 ^ 40 * 2 ^ (1074 - p) < o := by
      have e : (2 : Nat) ^ 1114 = 2 ^ 40 * 2 ^ (1074 - p) * 2 ^ p := by
        rw [Nat.mul_assoc, ← Nat.pow_add, ← Nat.pow_add, show 40 + (1074 - p + p) = 1114 by omega]
      rw [e] at h
      exact Nat.lt_of_mul_lt_mul_right h
    generalize 2 ^ (1074 - p) = g at *
    have h2 : 2 ^ 40 * 1000 ≤ o * 1000 / g := by
      rw [Nat.le_div_iff_mul_le hg, Nat.mul_assoc, Nat.mul_comm 1000, ← Nat.mul_assoc]
      exact Nat.mul_le_mul_right _ (Nat.le_of_lt h1)
    have h3 : o * 1000 / g ≤ rnd (o * 1000) g := Nat.le_add_right _ _
    omega
  · rename_i hp
    have h1 : 2 ^ 40 < o * 2 ^ (p - 1074) := by
      have e := pow_cut p (p - 1074) 1074 (by omega)
      rw [e, pow_cut 1114 40 1074 rfl, ← Nat.mul_assoc] at h
      exact cancel h
    rw [Nat.mul_right_comm]
    omega
theorem near_fit {x : Nat} (h : ¬ 2 ^ 1114 < oddM x * 2 ^ pE x) (hp : ¬ pE x < 1074) : oddM x * 2 ^ (pE x - 1074) ≤ 1099511627776 := by
  generalize oddM x = o at *
  generalize pE x = p at *
  have e := pow_cut p (p - 1074) 1074 (by omega)
  rw [e, pow_cut 1114 40 1074 rfl, ← Nat.mul_assoc] at h
  have h2 : o * 2 ^ (p - 1074) ≤ 2 ^ 40 := cancel_le (pow_pos2 _) (Nat.le_of_not_lt h)
  have h40 : (2 : Nat) ^ 40 = 1099511627776 := by decide
  omega
theorem rnd_none (n s : Nat) (hn : n < 9223372036854775808) (hs : 64 ≤ s) : rnd n (2 ^ s) = 0 := by
  have hp : (2 : Nat) ^ 64 ≤ 2 ^ s := Nat.pow_le_pow_right (by decide) hs
  have hp2 : (2 : Nat) ^ 64 = 18446744073709551616 := by decide
  have h3 : n / 2 ^ s = 0 := Nat.div_eq_of_lt (by omega)
  have h4 : n % 2 ^ s = n := Nat.mod_eq_of_lt (by omega)
  unfold rnd
  rw [h3, h4, if_neg (by omega)]
theorem rnd_le (n g : Nat) (hg : 0 < g) : rnd n g ≤ n + 1 := by
  have := Nat.div_le_self n g
  unfold rnd
  split <;> omega
/-- What the comparisons with 0 and with the greatest volume tell. -/
theorem lt_zero {x : Nat} (h : nanB x = false) (h0 : rg x ≠ 0) : fltB x 0 = NEG x := by
  rw [flt_zero x h]
  unfold key sg
  cases NEG x
  · exact decide_eq_false (by simp)
  · exact decide_eq_true (by simp; omega)
theorem gt_lit {x : Nat} (h : nanB x = false) (hn : NEG x = false) : fltB 4787326403894837248 x = decide (4787326403894837248 < rg x) := by
  have k1 : key 4787326403894837248 = 4787326403894837248 := by decide
  have k2 : nanB 4787326403894837248 = false := by decide
  unfold fltB
  rw [h, k2, k1]
  unfold key sg
  rw [hn]
  simp only [Bool.not_false, Bool.true_and, Bool.false_eq_true, if_false]
  by_cases h1 : 4787326403894837248 < rg x
  · rw [decide_eq_true h1, decide_eq_true (by omega)]
  · rw [decide_eq_false h1, decide_eq_false (by omega)]
end Go.Proofs.YtpibkodmcdflgaaDoor.Nano
