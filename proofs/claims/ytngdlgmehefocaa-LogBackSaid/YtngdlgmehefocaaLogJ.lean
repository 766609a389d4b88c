/- What came since a version, by the document; what a well held then. No condition. -/
import Derived.Test.YtngdlgmehefocaaLogI
import Derived.Test.YtngdlgmehefocaaLogC
namespace Go.Proofs.Ytngdlgmehefocaa.Log
open Go.ChangeShapes Go.WideShapes Go.ChangeAt Go.RowKit Go.Proofs.Ytngdlgmehefocaa.Kit Go.Proofs.Ytngdlgmehefocaa.Mem Go.Proofs.Ytngdlgmehefocaa.Mix Go.Deep
set_option linter.unusedVariables false
set_option linter.unusedSimpArgs false
def aboveL (cs : List Chg) (ver : Int) : List Chg := cs.filter fun c => decide (ver < c.1)
theorem above_snoc (cs : List Chg) (ver : Int) (k : Nat) (hk : k < cs.length) : aboveL (cs.take (k + 1)) ver = if ver < (cs.getD k (0, 0, 0)).1 then aboveL (cs.take k) ver ++ [cs.getD k (0, 0, 0)] else aboveL (cs.take k) ver := by
  unfold aboveL
  rw [List.take_succ_eq_append_getElem hk, List.filter_append]
  simp only [List.getD_eq_getElem?_getD, List.getElem?_eq_getElem hk, Option.getD_some, List.filter_cons]
  split <;> rename_i h
  · rw [if_pos (by simpa using h)]; simp
  · rw [if_neg (by simpa using h)]; simp
theorem above_len (cs : List Chg) (ver : Int) (k : Nat) : (aboveL (cs.take k) ver).length ≤ k := Nat.le_trans (List.length_filter_le _ _) (List.length_take_le _ _)
set_option maxHeartbeats 2000000 in
theorem rsince_in {w : World} {A : Option Addr} {B n c : Nat} {room last ver : Int} {cs : List Chg} (h : LRow w B A n cs) (hB : B ≤ w.heap.size) (hn : n ≤ c) (hnm : c ≤ maxLen) (hr : rightL room last cs = true) (h1 : 0 ≤ ver) (h2 : ver ≤ last) :
    Calls Try.prog 14 #[.agg #[.int .i64 room, .int .i64 last, .slice A n c], .int .i64 ver] w (SincePost w (sinceL room last cs ver)) := by
  obtain ⟨i0, hi0, hz0, hz1, hz2⟩ := info_parts info_chg
  have e1 := h.1
  subst e1
  obtain ⟨q1, q2, q3, q4, q5, q6⟩ := right_pre hr
  have q7 : cs.length ≤ 64 := by omega
  have R1 := rright_any (c := c) (srow_alloc h hB (.cells #[.int .i64 room, .int .i64 last, .slice A cs.length c] 24)) (by simp; omega) (by omega) (room := room) (last := last)
  have HRES := hide (since_other hr h1 h2)
  rw [hr] at R1
  have HR := hide h
  clear hr h
  go_enter Try.func14, Try.ntmps14
  go_wp2_with (first | (go_at_call 11; refine (R1).mono ?_; rintro e w1 ⟨rfl, hb⟩; obtain ⟨hS, hE, hz, hc, hf⟩ := bcell hb; (try simp only [go_sem] at hE); subst hE) | (refine wp_region_quiet_below (by kernel_rfl) (by kernel_rfl) ?_; (repeat (first | go_big_quiet_step ((first | (go_at_call 11; exact Calls.regrown_of (R1)))) | quiet_step ((first | (go_at_call 11; exact Calls.regrown_of (R1)))))); refine wpQuiet_nil ?_; intro w1 hw1; have hb := below_of_regrown hw1; clear hw1; obtain ⟨hS, hE, hz, hc, hf⟩ := bcell hb; (try simp only [go_sem] at hE); subst hE))
  have HW1 := hide (show Below w.heap.size w w1 from (by repeat' (first | (with_reducible exact Below.refl _ _) | (with_reducible refine below_drewN ?_ _) | (with_reducible refine Below.drew ?_) | (with_reducible refine Below.alloc ?_ ?_ _) | (with_reducible refine Below.setCell ?_ ?_ _) | (with_reducible refine below_step ?_ (by assumption) ?_) | go_size)))
  have hz0' : w.heap.size + 1 ≤ w1.heap.size := by omega
  have c2 : w1.cell? ⟨w.heap.size, 2, none⟩ = some (.slice A cs.length c) := by rw [hc _ _ (by unfold ltA; omega), World.cell?_alloc_new]; rfl
  have c1 : w1.cell? ⟨w.heap.size, 1, none⟩ = some (.int .i64 last) := by rw [hc _ _ (by unfold ltA; omega), World.cell?_alloc_new]; rfl
  obtain ⟨wo, rfl⟩ : ∃ wo : World, wo = w1 := ⟨_, rfl⟩
  clear hc hf hb R1
  have own0 : wo.ownsRow wo.heap.size 32 3 (.slice none 0 0) 0 (SV encC []) := World.ownsRow_nil _ _ _ _
  go_loopw [6, 7] (fun s i wr => ∃ (k : Nat) (A2 : Option Addr) (n2 c2 : Nat), k ≤ cs.length ∧ i = .int .i64 k ∧ s = .slice A2 n2 c2 ∧ n2 = (aboveL (cs.take k) ver).length ∧ n2 ≤ c2 ∧ c2 ≤ maxLen ∧ wr.ownsRow wo.heap.size 32 3 (.slice A2 n2 c2) n2 (SV encC (aboveL (cs.take k) ver)) ∧ Below wo.heap.size wo wr) (fun _ i _ => cs.length - (intOf i).toNat)
  case atStart => exact ⟨0, none, 0, 0, Nat.zero_le _, rfl, rfl, rfl, Nat.le_refl _, Nat.zero_le _, own0, Below.refl _ _⟩
  case round =>
    obtain ⟨k, A2, n2, cc2, hk, rfl, rfl, hn2, hcap, hcm, hown, hbw⟩ := hrel
    have hz2' := hbw.size
    have hw0 : Below w.heap.size w wr := HW1.out.trans (hbw.mono (by omega))
    have d5 := (hbw.cell (p := ⟨w.heap.size, 2, none⟩) (by dsimp only; omega)).trans c2
    have d6 := (hbw.cell (p := ⟨w.heap.size, 1, none⟩) (by dsimp only; omega)).trans c1
    have hnk := above_len cs ver k
    rw [← hn2] at hnk
    have HN2 := hide hn2
    have HO := hide hown
    clear hn2 hown
    by_cases hlt : k < cs.length
    · obtain ⟨b, off, rfl, hbB, hcell⟩ := lrow_cells HR.out (by omega)
      obtain ⟨e0, e1, e2⟩ := hcell k hlt
      have d0 := (hw0.cell (p := ⟨b, off + k * 3, none⟩) (by dsimp only; omega)).trans e0
      have d1 := (hw0.cell (p := ⟨b, off + k * 3 + 1, none⟩) (by dsimp only; omega)).trans e1
      have d2 := (hw0.cell (p := ⟨b, off + k * 3 + 2, none⟩) (by dsimp only; omega)).trans e2
      have HS := hide (above_snoc cs ver k hlt)
      clear hcell e0 e1 e2
      generalize cs.getD k (0, 0, 0) = ch at *
      obtain ⟨v, a, m⟩ := ch
      dsimp only at *
      by_cases hv : ver < v
      · go_wp2_with (at_builtin; go_loud (refine wp_append_srow (wr.alloc (.cells #[.int .i64 v, .int .i64 a, .int .i64 m] 32)) rfl (.tmp 34) (.tmp 40) 22 rfl encC_len encC_one (by decide) wo.heap.size 32 i0 _ 24 Try.underlying22 hi0 hz0 hz1 hz2 rfl A2 n2 cc2 _ rfl (HO.out.alloc _) _ _ 1 1 [(v, a, m)] rfl (srow_one encC_len wr (v, a, m) 32) (by unfold maxLen; omega) (by omega) (by simp; omega) ?_); intro A5 c5 w5 hown5 hgrow5 hbel5 hcap5 hcm5)
        refine ⟨⟨k + 1, A5, n2 + 1, c5, by omega, by go_num, rfl, by rw [HS.out, if_pos hv, List.length_append, ← HN2.out]; rfl, hcap5, hcm5, by rw [HS.out, if_pos hv]; exact hown5, (hbw.alloc (by omega) _).trans hbel5⟩, by simp [intOf]; omega⟩
      · go_wp2
        refine ⟨⟨k + 1, A2, n2, cc2, by omega, by go_num, rfl, by rw [HS.out, if_neg hv]; exact HN2.out, hcap, hcm, by rw [HS.out, if_neg hv]; exact HO.out, hbw⟩, by simp [intOf]; omega⟩
    · obtain rfl : k = cs.length := by omega
      have HO3 : Hid (wr.ownsRow wo.heap.size 32 3 (.slice A2 n2 cc2) n2 (SV encC (aboveL cs ver))) := hide (by have := HO.out; rwa [List.take_length] at this)
      have HN3 : Hid (n2 = (aboveL cs ver).length) := hide (by have := HN2.out; rwa [List.take_length] at this)
      clear HO HN2
      by_cases hq : (n2 : Int) = last - ver
      · have gq : ((n2 : Int) != last - ver) = false := by simpa using hq
        have HQ : Hid (sinceL room last cs ver = (aboveL cs ver, 0)) := hide (by rw [← HRES.out]; exact if_pos (by rw [← hq, HN3.out]; rfl))
        clear hq
        go_wp2
        go_ret2
        rw [HQ.out]
        exact ⟨A2, cc2, by rw [← HN3.out]; rfl, by rw [← HN3.out]; exact hcap, hcm, by rw [← HN3.out]; exact srow_of_own encC_len (by decide) HO3.out, hw0⟩
      · have gq : ((n2 : Int) != last - ver) = true := by simpa using hq
        have HQ : Hid (sinceL room last cs ver = ([], 111)) := hide (by rw [← HRES.out]; exact if_neg (by rw [HN3.out] at hq; exact hq))
        clear hq
        go_wp2
        go_ret2
        exact since_no (A := A) (c := c) (k := 0) _ _ _ _ HQ.out hw0
theorem rsince_any {w : World} {A : Option Addr} {B n c : Nat} {room last ver : Int} {cs : List Chg} (h : LRow w B A n cs) (hB : B ≤ w.heap.size) (hn : n ≤ c) (hnm : c ≤ maxLen) (h47 : n ≤ 140737488351232) :
    Calls Try.prog 14 #[.agg #[.int .i64 room, .int .i64 last, .slice A n c], .int .i64 ver] w (SincePost w (sinceL room last cs ver)) := by
  have e1 := h.1
  subst e1
  have R1 := rright_any (c := c) (srow_alloc h hB (.cells #[.int .i64 room, .int .i64 last, .slice A cs.length c] 24)) (by simp; omega) (by omega) (room := room) (last := last)
  by_cases hr : rightL room last cs = true
  · by_cases h0 : ver < 0 ∨ last < ver
    · have HS : Hid (sinceL room last cs ver = ([], 1)) := hide (by unfold sinceL; rw [if_neg (by simp [hr]), if_pos h0])
      rw [hr] at R1
      clear hr
      rcases h0 with h0 | h0
      · go_enter Try.func14, Try.ntmps14
        go_wp2_with (first | (go_at_call 11; refine (R1).mono ?_; rintro e w1 ⟨rfl, hb⟩; obtain ⟨hS, hE, hz, hc, hf⟩ := bcell hb; (try simp only [go_sem] at hE); subst hE) | (refine wp_region_quiet_below (by kernel_rfl) (by kernel_rfl) ?_; (repeat (first | go_big_quiet_step ((first | (go_at_call 11; exact Calls.regrown_of (R1)))) | quiet_step ((first | (go_at_call 11; exact Calls.regrown_of (R1)))))); refine wpQuiet_nil ?_; intro w1 hw1; have hb := below_of_regrown hw1; clear hw1; obtain ⟨hS, hE, hz, hc, hf⟩ := bcell hb; (try simp only [go_sem] at hE); subst hE))
        go_ret2
        exact since_no (A := A) (c := c) (k := 0) _ _ _ _ HS.out (by repeat' (first | (with_reducible exact Below.refl _ _) | (with_reducible refine below_drewN ?_ _) | (with_reducible refine Below.drew ?_) | (with_reducible refine Below.alloc ?_ ?_ _) | (with_reducible refine Below.setCell ?_ ?_ _) | (with_reducible refine below_step ?_ (by assumption) ?_) | go_size))
      · by_cases h00 : ver < 0
        all_goals
          go_enter Try.func14, Try.ntmps14
          go_wp2_with (first | (go_at_call 11; refine (R1).mono ?_; rintro e w1 ⟨rfl, hb⟩; obtain ⟨hS, hE, hz, hc, hf⟩ := bcell hb; (try simp only [go_sem] at hE); subst hE) | (refine wp_region_quiet_below (by kernel_rfl) (by kernel_rfl) ?_; (repeat (first | go_big_quiet_step ((first | (go_at_call 11; exact Calls.regrown_of (R1)))) | quiet_step ((first | (go_at_call 11; exact Calls.regrown_of (R1)))))); refine wpQuiet_nil ?_; intro w1 hw1; have hb := below_of_regrown hw1; clear hw1; obtain ⟨hS, hE, hz, hc, hf⟩ := bcell hb; (try simp only [go_sem] at hE); subst hE))
          go_ret2
          exact since_no (A := A) (c := c) (k := 0) _ _ _ _ HS.out (by repeat' (first | (with_reducible exact Below.refl _ _) | (with_reducible refine below_drewN ?_ _) | (with_reducible refine Below.drew ?_) | (with_reducible refine Below.alloc ?_ ?_ _) | (with_reducible refine Below.setCell ?_ ?_ _) | (with_reducible refine below_step ?_ (by assumption) ?_) | go_size))
    · exact rsince_in h hB hn hnm hr (by omega) (by omega)
  · rw [Bool.not_eq_true] at hr
    have HS : Hid (sinceL room last cs ver = ([], 110)) := hide (by unfold sinceL; rw [if_pos hr])
    rw [hr] at R1
    clear hr
    go_enter Try.func14, Try.ntmps14
    go_wp2_with (first | (go_at_call 11; refine (R1).mono ?_; rintro e w1 ⟨rfl, hb⟩; obtain ⟨hS, hE, hz, hc, hf⟩ := bcell hb; (try simp only [go_sem] at hE); subst hE) | (refine wp_region_quiet_below (by kernel_rfl) (by kernel_rfl) ?_; (repeat (first | go_big_quiet_step ((first | (go_at_call 11; exact Calls.regrown_of (R1)))) | quiet_step ((first | (go_at_call 11; exact Calls.regrown_of (R1)))))); refine wpQuiet_nil ?_; intro w1 hw1; have hb := below_of_regrown hw1; clear hw1; obtain ⟨hS, hE, hz, hc, hf⟩ := bcell hb; (try simp only [go_sem] at hE); subst hE))
    go_ret2
    exact since_no (A := A) (c := c) (k := 0) _ _ _ _ HS.out (by repeat' (first | (with_reducible exact Below.refl _ _) | (with_reducible refine below_drewN ?_ _) | (with_reducible refine Below.drew ?_) | (with_reducible refine Below.alloc ?_ ?_ _) | (with_reducible refine Below.setCell ?_ ?_ _) | (with_reducible refine below_step ?_ (by assumption) ?_) | go_size))
end Go.Proofs.Ytngdlgmehefocaa.Log
