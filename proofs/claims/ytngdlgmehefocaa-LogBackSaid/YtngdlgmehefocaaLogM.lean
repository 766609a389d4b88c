/- The plain law of logs that are kept up: each volume that is kept can be told. No condition. -/
import Derived.Test.YtngdlgmehefocaaLogL
namespace Go.Proofs.Ytngdlgmehefocaa.Log
set_option linter.unusedVariables false
/-- A log (last, cs) of a well that holds vol, and all volumes that it had. -/
def BackI (room last vol : Int) (cs : List Chg) (had : List Int) : Prop :=
  rightL room last cs = true ∧ last = (had.length : Int) - 1 ∧ ((cs.length : Int) = room ∧ room ≤ last ∨ (cs.length : Int) = last ∧ last ≤ room) ∧
  (∀ ver : Nat, ver < had.length → last - cs.length ≤ ver → vol - sumL (cs.drop ((ver : Int) - (last - cs.length)).toNat) = had.getD ver 0) ∧
  (∀ ver : Nat, ver < had.length → -1099511627776 * (had.length : Int) ≤ had.getD ver 0 ∧ had.getD ver 0 ≤ 1099511627776 * (had.length : Int))
theorem back_vol {room last vol : Int} {cs : List Chg} {had : List Int} (h : BackI room last vol cs had) : 0 < had.length ∧ vol = had.getD (had.length - 1) 0 := by
  obtain ⟨h1, h2, h3, h4, h5⟩ := h
  have hp := right_pre h1
  obtain ⟨p1, p2, p3, p4, p5, p6⟩ := hp
  have h0 : 0 < had.length := by omega
  refine ⟨h0, ?_⟩
  have := h4 (had.length - 1) (by omega) (by omega)
  rw [← this, List.drop_of_length_le (by omega)]
  simp [sumL]
theorem back_start {room vol : Int} (h1 : 1 ≤ room) (h2 : room ≤ 64) (h3 : 0 ≤ vol) (h4 : vol ≤ 1099511627776) : BackI room 0 vol [] [vol] := by
  refine ⟨right_yes ⟨h1, h2, by omega, by omega, by simp; omega, by simp⟩ rfl, by simp, .inr ⟨rfl, by omega⟩, fun ver hv _ => ?_, fun ver hv => ?_⟩
  · obtain rfl : ver = 0 := by simpa using hv
    simp [sumL]
  · obtain rfl : ver = 0 := by simpa using hv
    simp
    omega
theorem sumL_append (a b : List Chg) : sumL (a ++ b) = sumL a + sumL b := by simp [sumL]
theorem back_step {room last vol b n : Int} {cs : List Chg} {had : List Int} (h : BackI room last vol cs had) (hm : mayB b n = true) (hl : last ≠ 2147483647) : BackI room (last + 1) (vol + n) (cutL room cs ++ [(last + 1, b, n)]) (had ++ [vol + n]) := by
  obtain ⟨hv0, hvol⟩ := back_vol h
  obtain ⟨h1, h2, h3, h4, h5⟩ := h
  obtain ⟨p1, p2, p3, p4, p5, p6⟩ := right_pre h1
  obtain ⟨m1, m2, m3, m4, m5⟩ := may_bd hm
  have hcut : ((cutL room cs).length : Int) = if (cs.length : Int) = room then (cs.length : Int) - 1 else cs.length := by
    unfold cutL
    rw [List.length_drop]
    split <;> omega
  have hlen : ((cutL room cs ++ [(last + 1, b, n)]).length : Int) = (cutL room cs).length + 1 := by simp
  have hhad : ((had ++ [vol + n]).length : Int) = had.length + 1 := by simp
  refine ⟨note_right h1 hm hl, by rw [hhad]; omega, ?_, fun ver hv hle => ?_, fun ver hv => ?_⟩
  · rw [hlen, hcut]
    split <;> omega
  · rw [hlen] at hle ⊢
    rw [List.length_append, List.length_singleton] at hv
    by_cases hvl : ver < had.length
    · have hge : last - cs.length ≤ ver := by rw [hcut] at hle; split at hle <;> omega
      have e := h4 ver hvl hge
      have e2 : (cutL room cs ++ [(last + 1, b, n)]).drop ((ver : Int) - (last + 1 - ((cutL room cs).length + 1))).toNat = cs.drop ((ver : Int) - (last - cs.length)).toNat ++ [(last + 1, b, n)] := by
        rw [List.drop_append_of_le_length (by rw [hcut] at hle; omega)]
        congr 1
        unfold cutL
        rw [List.drop_drop]
        congr 1
        unfold cutL at hcut hle
        rw [hcut] at hle ⊢
        split <;> rename_i hc
        · rw [if_pos hc] at hle; omega
        · rw [if_neg hc] at hle; omega
      rw [e2, sumL_append, List.getD_eq_getElem?_getD, List.getElem?_append_left hvl, ← List.getD_eq_getElem?_getD, ← e]
      simp [sumL]
      omega
    · obtain rfl : ver = had.length := by omega
      rw [List.drop_of_length_le (by omega), List.getD_eq_getElem?_getD, List.getElem?_append_right (Nat.le_refl _), Nat.sub_self]
      simp [sumL]
  · rw [hhad]
    rw [List.length_append, List.length_singleton] at hv
    by_cases hvl : ver < had.length
    · rw [List.getD_eq_getElem?_getD, List.getElem?_append_left hvl, ← List.getD_eq_getElem?_getD]
      have := h5 ver hvl
      omega
    · obtain rfl : ver = had.length := by omega
      rw [List.getD_eq_getElem?_getD, List.getElem?_append_right (Nat.le_refl _), Nat.sub_self]
      have := h5 (had.length - 1) (by omega)
      rw [← hvol] at this
      simp
      omega
theorem back_gone {room last vol : Int} {cs : List Chg} {had : List Int} (h : BackI room last vol cs had) {ver : Nat} (hv : ver < had.length) (hr : room < last - ver) : atL room last cs vol ver = (0, 111) := by
  obtain ⟨h1, h2, h3, h4, h5⟩ := h
  obtain ⟨p1, p2, p3, p4, p5, p6⟩ := right_pre h1
  have e : sinceL room last cs ver = ([], 111) := by
    unfold sinceL oldL
    rw [if_neg (by simp [h1]), if_neg (by omega), if_pos (by omega)]
  unfold atL
  rw [e]
  rfl
theorem back_kept {room last vol : Int} {cs : List Chg} {had : List Int} (h : BackI room last vol cs had) {ver : Nat} (hv : ver < had.length) (hr : ¬ room < last - ver) (hb : had.length ≤ 1000) : atL room last cs vol ver = (had.getD ver 0, 0) := by
  obtain ⟨h1, h2, h3, h4, h5⟩ := h
  obtain ⟨p1, p2, p3, p4, p5, p6⟩ := right_pre h1
  have e : sinceL room last cs ver = (cs.drop ((ver : Int) - (last - cs.length)).toNat, 0) := by
    unfold sinceL oldL
    rw [if_neg (by simp [h1]), if_neg (by omega), if_neg (by omega)]
  have e4 := h4 ver hv (by omega)
  have e5 := h5 ver hv
  unfold atL
  rw [e]
  dsimp only
  rw [if_neg (by simp)]
  unfold subL
  rw [e4, if_pos (by omega)]
end Go.Proofs.Ytngdlgmehefocaa.Log
