/- The plain law of rails, over what the program says: lanes and reaches. No condition. -/
import Derived.Test.YtoombjndcegggaaRailH
namespace Go.Proofs.Ytoombjndcegggaa.Rail
open Go.Proofs.Ytoombjndcegggaa.Flt
set_option linter.unusedVariables false
theorem laneS_ok {l : List Nat} {x : Nat} (h : (laneS l x).2 = 0) : chkS l = 0 ∧ nanB x = false ∧ ¬ fltB x (B l 0) = true ∧ ¬ fltB (B l (l.length - 1)) x = true ∧ laneS l x = ((behS l x : Int) - 1, 0) := by
  unfold laneS at h ⊢
  by_cases h0 : chkS l = 0
  · rw [if_neg (by simp [h0])] at h ⊢
    by_cases h1 : nanB x = true
    · rw [if_pos h1] at h; cases h
    · rw [if_neg h1] at h ⊢
      by_cases h2 : fltB x (B l 0) = true ∨ fltB (B l (l.length - 1)) x = true
      · rw [if_pos h2] at h; cases h
      · rw [if_neg h2]
        exact ⟨h0, by simpa using h1, fun h => h2 (.inl h), fun h => h2 (.inr h), rfl⟩
  · rw [if_pos h0] at h
    exact absurd h h0
theorem lane_law {l : List Nat} {x : Nat} (h : (laneS l x).2 = 0) : ∃ k : Nat, laneS l x = ((k : Int), 0) ∧ k + 1 < l.length ∧ k + 1 = behS l x ∧ fleB (B l k) x = true ∧
    (fltB x (B l (k + 1)) = true ∨ (k + 2 = l.length ∧ fltB x (B l (k + 1)) = false ∧ feqB x (B l (k + 1)) = true)) := by
  obtain ⟨h0, h1, h2, h3, h4⟩ := laneS_ok h
  have hg := good_of l h0
  have htwo := hg.two
  have hp := beh_pos hg h1 h2
  have hle := beh_le l x
  refine ⟨behS l x - 1, by rw [h4]; congr 1; omega, by omega, by omega, ?_, ?_⟩
  · have := (beh_iff hg h1 (behS l x - 1) (by omega)).1 (by omega)
    unfold fleB
    rw [hg.num _ (by omega), h1]
    simpa using this
  · rw [show behS l x - 1 + 1 = behS l x by omega]
    by_cases hl : behS l x < l.length - 1
    · left
      have := mt (beh_iff hg h1 (behS l x) hl).2 (by omega)
      unfold fltB
      rw [hg.num _ (by omega), h1]
      simp
      omega
    · have e : behS l x = l.length - 1 := by omega
      rw [e]
      have hn := hg.num (l.length - 1) (by omega)
      by_cases hlt : fltB x (B l (l.length - 1)) = true
      · exact .inl hlt
      · refine .inr ⟨by omega, by simpa using hlt, ?_⟩
        unfold fltB at h3 hlt
        unfold feqB
        rw [hn, h1] at h3 hlt ⊢
        simp at h3 hlt ⊢
        omega
theorem reachS_ok {l : List Nat} {x r : Nat} (h : (reachS l x r).2.2 = 0) : ∃ a b, Ieee.double.sub x r = some a ∧ Ieee.double.add x r = some b ∧ chkS l = 0 ∧ nanB x = false ∧ nanB r = false ∧ 0 ≤ key r ∧
    ¬ fltB b (B l 0) = true ∧ ¬ fltB (B l (l.length - 1)) a = true ∧ reachS l x r = ((loS l a : Int), (hiS l b : Int), 0) := by
  by_cases h0 : chkS l = 0
  · by_cases h1 : nanB x = true ∨ nanB r = true
    · unfold reachS at h
      rw [if_neg (by simp [h0]), if_pos h1] at h
      cases h
    · have n1 : nanB x = false := by cases hh : nanB x; rfl; exact absurd (.inl hh) h1
      have n2 : nanB r = false := by cases hh : nanB r; rfl; exact absurd (.inr hh) h1
      by_cases h2 : fltB r 0 = true
      · unfold reachS at h
        rw [if_neg (by simp [h0]), if_neg h1, if_pos h2] at h
        cases h
      · obtain ⟨M1, M2, M3⟩ := reachS_mid h0 n1 n2 h2
        have hk : 0 ≤ key r := by have := flt_zero r n2; rw [this] at h2; simp at h2; omega
        rcases hs : Ieee.double.sub x r with _ | a
        · rw [M1 hs] at h; cases h
        · rcases ha : Ieee.double.add x r with _ | b
          · rw [M2 ha] at h; cases h
          · have e := M3 a b hs ha
            by_cases h3 : fltB b (B l 0) = true ∨ fltB (B l (l.length - 1)) a = true
            · rw [e, if_pos h3] at h; cases h
            · rw [if_neg h3] at e
              exact ⟨a, b, rfl, rfl, h0, n1, n2, hk, fun h => h3 (.inl h), fun h => h3 (.inr h), e⟩
  · unfold reachS at h
    rw [if_pos h0] at h
    exact absurd h h0
theorem own_lane {l : List Nat} {x r a b : Nat} {k : Nat} (hg : Good l) (ha : Ieee.double.sub x r = some a) (hb : Ieee.double.add x r = some b) (nx : nanB x = false) (hr : 0 ≤ key r) (hk : k + 1 = behS l x) : loS l a ≤ k ∧ k ≤ hiS l b := by
  have h1 := beh_mono hg (sub_ok ha).nz nx (sub_le ha hr)
  have h2 := beh_mono hg nx (add_ok hb).nz (le_add hb hr)
  unfold loS hiS
  omega
theorem grows {l : List Nat} {x r s : Nat} (hrs : fleB r s = true) (h : (reachS l x r).2.2 = 0) : (reachS l x s).2.2 ≠ 71 ∧ ((reachS l x s).2.2 = 0 → (reachS l x s).1 ≤ (reachS l x r).1 ∧ (reachS l x r).2.1 ≤ (reachS l x s).2.1) := by
  obtain ⟨a, b, ha, hb, h0, n1, n2, hk, h1, h2, e⟩ := reachS_ok h
  have hg := good_of l h0
  have htwo := hg.two
  unfold fleB at hrs
  simp at hrs
  obtain ⟨⟨_, n3⟩, hks⟩ := hrs
  have h3 : ¬ fltB s 0 = true := by rw [flt_zero s n3]; simp; omega
  obtain ⟨M1, M2, M3⟩ := reachS_mid h0 n1 n3 h3
  rcases hs : Ieee.double.sub x s with _ | a2
  · rw [M1 hs]; exact ⟨by decide, fun h => by cases h⟩
  · rcases hd : Ieee.double.add x s with _ | b2
    · rw [M2 hd]; exact ⟨by decide, fun h => by cases h⟩
    · have k1 := sub_mono ha hs hk hks
      have k2 := add_mono hb hd hk hks
      have na := (sub_ok ha).nz
      have nb := (add_ok hb).nz
      have na2 := (sub_ok hs).nz
      have nb2 := (add_ok hd).nz
      have g0 := hg.num 0 (by omega)
      have g1 := hg.num (l.length - 1) (by omega)
      have hno : ¬ (fltB b2 (B l 0) = true ∨ fltB (B l (l.length - 1)) a2 = true) := by
        unfold fltB at h1 h2 ⊢
        rw [g0, nb] at h1
        rw [g1, na] at h2
        rw [g0, g1, na2, nb2]
        simp at h1 h2 ⊢
        omega
      rw [M3 a2 b2 hs hd, if_neg hno, e]
      refine ⟨by show (0 : Int) ≠ 71; decide, fun _ => ?_⟩
      have m1 := beh_mono hg na2 na k1
      have m2 := beh_mono hg nb nb2 k2
      unfold loS hiS
      dsimp only
      omega
end Go.Proofs.Ytoombjndcegggaa.Rail
