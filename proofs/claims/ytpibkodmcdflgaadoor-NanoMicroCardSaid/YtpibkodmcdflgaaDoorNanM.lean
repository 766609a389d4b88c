/- A greater float has no smaller volume: plain. No condition. -/
import Derived.Test.YtpibkodmcdflgaaDoorNanL
namespace Go.Proofs.YtpibkodmcdflgaaDoor.Nano
open Go.ChangeShapes Go.WideShapes Go.ChangeAt Go.RowKit Go.Proofs.YtpibkodmcdflgaaDoor.Kit Go.Proofs.YtpibkodmcdflgaaDoor.Flt Go.Proofs.YtpibkodmcdflgaaDoor.Real Go.Deep
set_option linter.unusedVariables false
theorem vV_gen (o p E : Nat) : (if p < E then rnd (o * 1000) (2 ^ (E - p)) else o * 1000 * 2 ^ (p - E)) = rnd (o * 2 ^ p * 1000) (2 ^ E) := by
  by_cases hp : p < E
  · rw [if_pos hp, pow_cut E (E - p) p (by omega), Nat.mul_right_comm, rnd_scale _ _ _ (pow_pos2 _)]
  · rw [if_neg hp, pow_cut p (p - E) E (by omega), Nat.mul_right_comm o _ 1000, ← Nat.mul_assoc, rnd_exact _ _ (pow_pos2 _)]
theorem rnd_pow {n m : Nat} (E : Nat) (h : n ≤ m) : rnd n (2 ^ E) ≤ rnd m (2 ^ E) := rnd_mono h (pow_pos2 _)
theorem vV_mag : ∃ E : Nat, ∀ x, rg x ≠ 0 → vV x = rnd (magR (rg x) * 1000) (2 ^ E) := ⟨1074, fun x h => by
  rw [mag_odd h]
  exact vV_gen (oddM x) (pE x) 1074⟩
theorem vV_mono {a b : Nat} (ha : rg a ≠ 0) (h : rg a ≤ rg b) : vV a ≤ vV b := by
  have hb : rg b ≠ 0 := by omega
  obtain ⟨E, hE⟩ := vV_mag
  rw [hE a ha, hE b hb]
  refine rnd_pow _ (Nat.mul_le_mul_right _ ?_)
  rcases Nat.lt_or_eq_of_le h with h1 | h1
  · exact Nat.le_of_lt ((magR_iff _ _).2 h1)
  · rw [h1]
    exact Nat.le_refl _
/-- A float has no volume, and 0 is told; or one within its bounds. -/
theorem ofV_cases (x : Nat) : ((ofV x).1 = 0 ∧ ((ofV x).2 = 20 ∨ (ofV x).2 = 21 ∨ (ofV x).2 = 22 ∨ (ofV x).2 = 4)) ∨ (∃ v : Nat, ofV x = ((v : Int), 0) ∧ v ≤ 1099511627776) := by
  unfold ofV
  split
  · exact .inl ⟨rfl, .inl rfl⟩
  · split
    · exact .inl ⟨rfl, .inr (.inl rfl)⟩
    · split
      · exact .inr ⟨0, rfl, by omega⟩
      · split
        · exact .inl ⟨rfl, .inr (.inr (.inl rfl))⟩
        · split
          · exact .inl ⟨rfl, .inr (.inr (.inr rfl))⟩
          · exact .inr ⟨vV x, rfl, by omega⟩
theorem ofV_ok {x : Nat} (h : (ofV x).2 = 0) : (classS x = 3 ∧ ofV x = (0, 0)) ∨ (¬ classS x < 4 ∧ NEG x = false ∧ ofV x = ((vV x : Int), 0)) := by
  rcases class_cases x with h1 | h1 | h1 | h1 | h1
  · rw [show ofV x = (0, 20) from if_pos h1] at h
    cases h
  · rw [show ofV x = (0, 21) by unfold ofV; rw [if_neg (by omega), if_pos h1]] at h
    cases h
  · exact .inl ⟨h1, by unfold ofV; rw [if_neg (by omega), if_neg (by omega), if_pos h1]⟩
  all_goals
    right
    have hc : ¬ classS x < 4 := by omega
    cases hs : NEG x
    · rw [ofV_fin hc hs] at h ⊢
      by_cases hm : 1099511627776 < vV x
      · rw [if_pos hm] at h
        cases h
      · exact ⟨hc, rfl, if_neg hm⟩
    · rw [show ofV x = (0, 22) by unfold ofV; rw [if_neg (by omega), if_neg (by omega), if_neg (by omega), if_pos hs]] at h
      cases h
theorem ofV_mono {a b : Nat} (ha : (ofV a).2 = 0) (hb : (ofV b).2 = 0) (h : fleB a b = true) : (ofV a).1 ≤ (ofV b).1 := by
  unfold fleB at h
  rw [Bool.and_eq_true, Bool.and_eq_true] at h
  have hk := of_decide_eq_true h.2
  rcases ofV_ok ha with ⟨h1, e1⟩ | ⟨h1, n1, e1⟩
  · rw [e1]
    rcases ofV_ok hb with ⟨h2, e2⟩ | ⟨h2, n2, e2⟩
    · rw [e2]
      exact Int.le_refl _
    · rw [e2]
      exact Int.natCast_nonneg _
  · obtain ⟨_, a2, _⟩ := class_full h1
    rcases ofV_ok hb with ⟨h2, e2⟩ | ⟨h2, n2, e2⟩
    · exfalso
      have h3 := class_three b h2
      unfold key sg at hk
      rw [n1, h3] at hk
      simp only [Bool.false_eq_true, if_false] at hk
      split at hk <;> omega
    · rw [e1, e2]
      unfold key sg at hk
      rw [n1, n2] at hk
      simp only [Bool.false_eq_true, if_false] at hk
      have := vV_mono a2 (show rg a ≤ rg b by omega)
      show ((vV a : Nat) : Int) ≤ ((vV b : Nat) : Int)
      omega
end Go.Proofs.YtpibkodmcdflgaaDoor.Nano
