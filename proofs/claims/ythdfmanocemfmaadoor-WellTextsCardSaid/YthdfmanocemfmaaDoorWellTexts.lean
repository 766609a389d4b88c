/- WellTexts: the names of any places, which are read as them. Condition: none beyond the row's own. -/
import Derived.Test.YthdfmanocemfmaaDoorWellP
import Derived.Test.YthdfmanocemfmaaDoorWellQ
import Derived.Test.YthdfmanocemfmaaDoorDoorS
namespace Go.Proofs.YthdfmanocemfmaaDoor.WellTexts
open Go.ChangeShapes Go.WideShapes Go.ChangeAt Go.RowKit Go.Joins Go.Proofs.YthdfmanocemfmaaDoor.Kit Go.Proofs.YthdfmanocemfmaaDoor.Num Go.Proofs.YthdfmanocemfmaaDoor.Mem Go.Proofs.YthdfmanocemfmaaDoor.Well Go.Proofs.YthdfmanocemfmaaDoor.Door Go.Deep Go.PlainAid
set_option linter.unusedVariables false
set_option linter.unusedSimpArgs false
theorem okL_get {ps : List Pl} {n : Nat} (h : okL ps n = false) (k : Nat) (hk : okL ps k = true) (hkn : k ≤ n) : k < n := by
  rcases Nat.lt_or_eq_of_le hkn with h1 | rfl
  · exact h1
  · rw [h] at hk; cases hk
set_option maxHeartbeats 4000000 in
theorem walk {w : World} {B n c : Nat} {A : Option Addr} {ps : List Pl} (hr : PRow w B A n ps) (hB : B ≤ w.heap.size) (hnc : n ≤ c) (hcm : c ≤ maxLen) (h : Env w) : Calls Tryd.prog 5 #[.slice A n c] w fun e w' => e = .returned (.bool true) ∧ Below w.heap.size w w' := by
  have HE := hide h
  have HR := hide hr
  have hL := fun w h => lives_any w h
  have e1 := hr.1
  subst e1
  clear h hr
  by_cases h5 : 500 < ps.length
  · go_enter Tryd.func5, Tryd.ntmps5
    go_wp2_with (first | (go_at_call 9; refine (hL _ (HE.out.below (B := w.heap.size) (by repeat' (first | (with_reducible exact Below.refl _ _) | (with_reducible refine below_drewN ?_ _) | (with_reducible refine Below.drew ?_) | (with_reducible refine Below.alloc ?_ ?_ _) | (with_reducible refine Below.setCell ?_ ?_ _) | (with_reducible refine below_step ?_ (by assumption) ?_) | (with_reducible refine below_step ?_ (below_regrown _ _ _) ?_) | go_size)) (by omega))).mono ?_; rintro e w1 ⟨rfl, hb⟩; obtain ⟨hS, hE, hz, hc, hf⟩ := bcell hb; (try simp only [go_sem] at hE); subst hE) | ((with_reducible change Code.wp _ (Code.region _ _ _) _ _ _); refine wp_region_quiet_below (by kernel_rfl) (by kernel_rfl) ?_; (repeat (first | go_big_quiet_step ((first | (go_at_call 9; exact Calls.regrown_of (hL _ (HE.out.below (B := w.heap.size) (by repeat' (first | (with_reducible exact Below.refl _ _) | (with_reducible refine below_drewN ?_ _) | (with_reducible refine Below.drew ?_) | (with_reducible refine Below.alloc ?_ ?_ _) | (with_reducible refine Below.setCell ?_ ?_ _) | (with_reducible refine below_step ?_ (by assumption) ?_) | (with_reducible refine below_step ?_ (below_regrown _ _ _) ?_) | go_size)) (by omega)))))) | quiet_step ((first | (go_at_call 9; exact Calls.regrown_of (hL _ (HE.out.below (B := w.heap.size) (by repeat' (first | (with_reducible exact Below.refl _ _) | (with_reducible refine below_drewN ?_ _) | (with_reducible refine Below.drew ?_) | (with_reducible refine Below.alloc ?_ ?_ _) | (with_reducible refine Below.setCell ?_ ?_ _) | (with_reducible refine below_step ?_ (by assumption) ?_) | (with_reducible refine below_step ?_ (below_regrown _ _ _) ?_) | go_size)) (by omega)))))))); refine wpQuiet_nil ?_; intro w1 hw1; have hb := below_of_regrown hw1; clear hw1; obtain ⟨hS, hE, hz, hc, hf⟩ := bcell hb; (try simp only [go_sem] at hE); subst hE))
    go_ret
    exact ⟨rfl, (by repeat' (first | (with_reducible exact Below.refl _ _) | (with_reducible refine below_drewN ?_ _) | (with_reducible refine Below.drew ?_) | (with_reducible refine Below.alloc ?_ ?_ _) | (with_reducible refine Below.setCell ?_ ?_ _) | (with_reducible refine below_step ?_ (by assumption) ?_) | (with_reducible refine below_step ?_ (below_regrown _ _ _) ?_) | go_size))⟩
  have T1 := fun (w : World) h hB he => text_walk (w := w) (B := B) (n := ps.length) (c := c) (A := A) (ps := ps) h hB (by omega) he
  have T2 := fun (w : World) h hB => rtext_walk (w := w) (B := B) (n := ps.length) (c := c) (A := A) (ps := ps) h hB (by omega)
  by_cases hok : okL ps ps.length = true
  · have hts : textS ps = ⟨(accL ps ps.length).toArray⟩ := if_pos hok
    have hsz : (⟨(accL ps ps.length).toArray⟩ : ByteArray).size ≤ 2500 := by
      rw [size_len]
      have := acc_len ps ps.length hok
      show (accL ps ps.length).length ≤ _
      omega
    have L1 := fun w h => list_any (textS ps) w (by rw [hts]; omega) h
    have htl := text_list ps hok
    rw [hts] at L1
    rw [show (⟨(accL ps ps.length).toArray⟩ : ByteArray).data.toList = accL ps ps.length from rfl, htl, ← hts] at L1
    have HOK := hide hok
    clear hts hsz htl hok
    generalize textS ps = T at *
    go_enter Tryd.func5, Tryd.ntmps5
    go_wp2_with (first | (go_at_call 9; refine (hL _ (HE.out.below (B := w.heap.size) (by repeat' (first | (with_reducible exact Below.refl _ _) | (with_reducible refine below_drewN ?_ _) | (with_reducible refine Below.drew ?_) | (with_reducible refine Below.alloc ?_ ?_ _) | (with_reducible refine Below.setCell ?_ ?_ _) | (with_reducible refine below_step ?_ (by assumption) ?_) | (with_reducible refine below_step ?_ (below_regrown _ _ _) ?_) | go_size)) (by omega))).mono ?_; rintro e w1 ⟨rfl, hb⟩; obtain ⟨hS, hE, hz, hc, hf⟩ := bcell hb; (try simp only [go_sem] at hE); subst hE) | (go_at_call 16; refine (T1 _ (srow_below HR.out (B1 := w.heap.size) (by repeat' (first | (with_reducible exact Below.refl _ _) | (with_reducible refine below_drewN ?_ _) | (with_reducible refine Below.drew ?_) | (with_reducible refine Below.alloc ?_ ?_ _) | (with_reducible refine Below.setCell ?_ ?_ _) | (with_reducible refine below_step ?_ (by assumption) ?_) | (with_reducible refine below_step ?_ (below_regrown _ _ _) ?_) | go_size)) hB) (by omega) (HE.out.below (B := w.heap.size) (by repeat' (first | (with_reducible exact Below.refl _ _) | (with_reducible refine below_drewN ?_ _) | (with_reducible refine Below.drew ?_) | (with_reducible refine Below.alloc ?_ ?_ _) | (with_reducible refine Below.setCell ?_ ?_ _) | (with_reducible refine below_step ?_ (by assumption) ?_) | (with_reducible refine below_step ?_ (below_regrown _ _ _) ?_) | go_size)) (by omega))).mono ?_; rintro e w1 ⟨rfl, hb⟩; obtain ⟨hS, hE, hz, hc, hf⟩ := bcell hb; (try simp only [go_sem] at hE); subst hE) | (go_at_call 17; refine (T2 _ (srow_below HR.out (B1 := w.heap.size) (by repeat' (first | (with_reducible exact Below.refl _ _) | (with_reducible refine below_drewN ?_ _) | (with_reducible refine Below.drew ?_) | (with_reducible refine Below.alloc ?_ ?_ _) | (with_reducible refine Below.setCell ?_ ?_ _) | (with_reducible refine below_step ?_ (by assumption) ?_) | (with_reducible refine below_step ?_ (below_regrown _ _ _) ?_) | go_size)) hB) (by omega)).mono ?_; rintro e w1 ⟨rfl, hb⟩; obtain ⟨hS, hE, hz, hc, hf⟩ := bcell hb; (try simp only [go_sem] at hE); subst hE) | ((with_reducible change Code.wp _ (Code.region _ _ _) _ _ _); refine wp_region_quiet_below (by kernel_rfl) (by kernel_rfl) ?_; (repeat (first | go_big_quiet_step ((first | (go_at_call 9; exact Calls.regrown_of (hL _ (HE.out.below (B := w.heap.size) (by repeat' (first | (with_reducible exact Below.refl _ _) | (with_reducible refine below_drewN ?_ _) | (with_reducible refine Below.drew ?_) | (with_reducible refine Below.alloc ?_ ?_ _) | (with_reducible refine Below.setCell ?_ ?_ _) | (with_reducible refine below_step ?_ (by assumption) ?_) | (with_reducible refine below_step ?_ (below_regrown _ _ _) ?_) | go_size)) (by omega)))) | (go_at_call 16; exact Calls.regrown_of (T1 _ (srow_below HR.out (B1 := w.heap.size) (by repeat' (first | (with_reducible exact Below.refl _ _) | (with_reducible refine below_drewN ?_ _) | (with_reducible refine Below.drew ?_) | (with_reducible refine Below.alloc ?_ ?_ _) | (with_reducible refine Below.setCell ?_ ?_ _) | (with_reducible refine below_step ?_ (by assumption) ?_) | (with_reducible refine below_step ?_ (below_regrown _ _ _) ?_) | go_size)) hB) (by omega) (HE.out.below (B := w.heap.size) (by repeat' (first | (with_reducible exact Below.refl _ _) | (with_reducible refine below_drewN ?_ _) | (with_reducible refine Below.drew ?_) | (with_reducible refine Below.alloc ?_ ?_ _) | (with_reducible refine Below.setCell ?_ ?_ _) | (with_reducible refine below_step ?_ (by assumption) ?_) | (with_reducible refine below_step ?_ (below_regrown _ _ _) ?_) | go_size)) (by omega)))) | (go_at_call 17; exact Calls.regrown_of (T2 _ (srow_below HR.out (B1 := w.heap.size) (by repeat' (first | (with_reducible exact Below.refl _ _) | (with_reducible refine below_drewN ?_ _) | (with_reducible refine Below.drew ?_) | (with_reducible refine Below.alloc ?_ ?_ _) | (with_reducible refine Below.setCell ?_ ?_ _) | (with_reducible refine below_step ?_ (by assumption) ?_) | (with_reducible refine below_step ?_ (below_regrown _ _ _) ?_) | go_size)) hB) (by omega))))) | quiet_step ((first | (go_at_call 9; exact Calls.regrown_of (hL _ (HE.out.below (B := w.heap.size) (by repeat' (first | (with_reducible exact Below.refl _ _) | (with_reducible refine below_drewN ?_ _) | (with_reducible refine Below.drew ?_) | (with_reducible refine Below.alloc ?_ ?_ _) | (with_reducible refine Below.setCell ?_ ?_ _) | (with_reducible refine below_step ?_ (by assumption) ?_) | (with_reducible refine below_step ?_ (below_regrown _ _ _) ?_) | go_size)) (by omega)))) | (go_at_call 16; exact Calls.regrown_of (T1 _ (srow_below HR.out (B1 := w.heap.size) (by repeat' (first | (with_reducible exact Below.refl _ _) | (with_reducible refine below_drewN ?_ _) | (with_reducible refine Below.drew ?_) | (with_reducible refine Below.alloc ?_ ?_ _) | (with_reducible refine Below.setCell ?_ ?_ _) | (with_reducible refine below_step ?_ (by assumption) ?_) | (with_reducible refine below_step ?_ (below_regrown _ _ _) ?_) | go_size)) hB) (by omega) (HE.out.below (B := w.heap.size) (by repeat' (first | (with_reducible exact Below.refl _ _) | (with_reducible refine below_drewN ?_ _) | (with_reducible refine Below.drew ?_) | (with_reducible refine Below.alloc ?_ ?_ _) | (with_reducible refine Below.setCell ?_ ?_ _) | (with_reducible refine below_step ?_ (by assumption) ?_) | (with_reducible refine below_step ?_ (below_regrown _ _ _) ?_) | go_size)) (by omega)))) | (go_at_call 17; exact Calls.regrown_of (T2 _ (srow_below HR.out (B1 := w.heap.size) (by repeat' (first | (with_reducible exact Below.refl _ _) | (with_reducible refine below_drewN ?_ _) | (with_reducible refine Below.drew ?_) | (with_reducible refine Below.alloc ?_ ?_ _) | (with_reducible refine Below.setCell ?_ ?_ _) | (with_reducible refine below_step ?_ (by assumption) ?_) | (with_reducible refine below_step ?_ (below_regrown _ _ _) ?_) | go_size)) hB) (by omega))))))); refine wpQuiet_nil ?_; intro w1 hw1; have hb := below_of_regrown hw1; clear hw1; obtain ⟨hS, hE, hz, hc, hf⟩ := bcell hb; (try simp only [go_sem] at hE); subst hE))
    have hw := HE.out
    have HB1 : Hid (Below w.heap.size w w1) := hide (by repeat' (first | (with_reducible exact Below.refl _ _) | (with_reducible refine below_drewN ?_ _) | (with_reducible refine Below.drew ?_) | (with_reducible refine Below.alloc ?_ ?_ _) | (with_reducible refine Below.setCell ?_ ?_ _) | (with_reducible refine below_step ?_ (by assumption) ?_) | (with_reducible refine below_step ?_ (below_regrown _ _ _) ?_) | go_size))
    obtain ⟨wo, rfl⟩ : ∃ wo : World, wo = w1 := ⟨_, rfl⟩
    have hz1 : w.heap.size ≤ wo.heap.size := HB1.out.size
    go_loopw [4] (fun i wr => ∃ k : Nat, k ≤ ps.length ∧ i = .int .i64 k ∧ Below wo.heap.size wo wr) (fun i _ => ps.length - (intOf i).toNat)
    case atStart => exact ⟨0, Nat.zero_le _, rfl, Below.refl _ _⟩
    case round =>
      obtain ⟨k, hk, rfl, hbr⟩ := hrel
      have hbw : Below w.heap.size w wr := HB1.out.trans (hbr.mono hz1)
      have hz2 := hbr.size
      by_cases hlt : k < ps.length
      · obtain ⟨b, off, rfl, hbB, hcell⟩ := prow_cells HR.out (by omega)
        obtain ⟨e0, e1⟩ := hcell k hlt
        have d0 := (hbw.cell (p := ⟨b, off + k * 2, none⟩) (by dsimp only; omega)).trans e0
        have d1 := (hbw.cell (p := ⟨b, off + k * 2 + 1, none⟩) (by dsimp only; omega)).trans e1
        have hbr2 : b < wr.heap.size := by omega
        have hrt := okL_all HOK.out k hlt
        clear hcell e0 e1 hw
        generalize ps.getD k (0, 0) = p at *
        obtain ⟨x, y⟩ := p
        dsimp only at *
        have R1 := fun w => rright_any x y w
        rw [hrt] at R1
        go_wp2_with (first | (go_at_call 12; refine (R1 _).mono ?_; rintro e w1 ⟨rfl, hb⟩; obtain ⟨hS, hE, hz, hc, hf⟩ := bcell hb; (try simp only [go_sem] at hE); subst hE) | ((with_reducible change Code.wp _ (Code.region _ _ _) _ _ _); refine wp_region_quiet_below (by kernel_rfl) (by kernel_rfl) ?_; (repeat (first | go_big_quiet_step ((first | (go_at_call 12; exact Calls.regrown_of (R1 _)))) | quiet_step ((first | (go_at_call 12; exact Calls.regrown_of (R1 _)))))); refine wpQuiet_nil ?_; intro w1 hw1; have hb := below_of_regrown hw1; clear hw1; obtain ⟨hS, hE, hz, hc, hf⟩ := bcell hb; (try simp only [go_sem] at hE); subst hE))
        exact ⟨⟨k + 1, by omega, by go_num, hbr.trans ((show Below wr.heap.size wr w1 from (by repeat' (first | (with_reducible exact Below.refl _ _) | (with_reducible refine below_drewN ?_ _) | (with_reducible refine Below.drew ?_) | (with_reducible refine Below.alloc ?_ ?_ _) | (with_reducible refine Below.setCell ?_ ?_ _) | (with_reducible refine below_step ?_ (by assumption) ?_) | (with_reducible refine below_step ?_ (below_regrown _ _ _) ?_) | go_size))).mono (by omega))⟩, by simp [intOf]; omega⟩
      · obtain rfl : k = ps.length := by omega
        have L2 := L1 wr (hw.below hbw (Nat.le_refl _))
        by_cases hl : ps.length ≤ 384
        · rw [if_pos hl] at L2
          unfold ListPost at L2
          dsimp only at L2
          clear L1 T1 T2
          go_wp2_with (first | (go_at_call 13; refine L2.mono ?_; rintro e wl ⟨A1, c1, rfl, k1, k2, k3, hbl⟩; obtain ⟨hSl, hEl, hzl, hcl, hfl⟩ := bcell hbl; (try simp only [go_sem] at hEl); subst hEl) | (go_at_call 15; refine (same_yes (srow_below HR.out (B1 := w.heap.size) (hbw.trans (hbl.mono (by omega))) hB) k3 (by omega)).mono ?_; rintro e w1 ⟨rfl, hb⟩; obtain ⟨hS, hE, hz, hc, hf⟩ := bcell hb; (try simp only [go_sem] at hE); subst hE))
          go_ret
          exact ⟨rfl, hbw.trans ((show Below wr.heap.size wr w1 from (by repeat' (first | (with_reducible exact Below.refl _ _) | (with_reducible refine below_drewN ?_ _) | (with_reducible refine Below.drew ?_) | (with_reducible refine Below.alloc ?_ ?_ _) | (with_reducible refine Below.setCell ?_ ?_ _) | (with_reducible refine below_step ?_ (by assumption) ?_) | (with_reducible refine below_step ?_ (below_regrown _ _ _) ?_) | go_size))).mono (by omega))⟩
        · rw [if_neg hl] at L2
          unfold ListPost at L2
          dsimp only at L2
          clear L1 T1 T2
          go_wp2_with (go_at_call 13; refine L2.mono ?_; rintro e wl ⟨A1, c1, rfl, k1, k2, k3, hbl⟩; obtain ⟨hSl, hEl, hzl, hcl, hfl⟩ := bcell hbl; (try simp only [go_sem] at hEl); subst hEl)
          go_ret
          exact ⟨rfl, hbw.trans (hbl.mono (by omega))⟩
  · rw [Bool.not_eq_true] at hok
    have hts : textS ps = ⟨#[]⟩ := if_neg (by rw [hok]; decide)
    have HOK := hide hok
    rw [hts] at T1 T2
    clear hts hok
    go_enter Tryd.func5, Tryd.ntmps5
    go_wp2_with (first | (go_at_call 9; refine (hL _ (HE.out.below (B := w.heap.size) (by repeat' (first | (with_reducible exact Below.refl _ _) | (with_reducible refine below_drewN ?_ _) | (with_reducible refine Below.drew ?_) | (with_reducible refine Below.alloc ?_ ?_ _) | (with_reducible refine Below.setCell ?_ ?_ _) | (with_reducible refine below_step ?_ (by assumption) ?_) | (with_reducible refine below_step ?_ (below_regrown _ _ _) ?_) | go_size)) (by omega))).mono ?_; rintro e w1 ⟨rfl, hb⟩; obtain ⟨hS, hE, hz, hc, hf⟩ := bcell hb; (try simp only [go_sem] at hE); subst hE) | (go_at_call 16; refine (T1 _ (srow_below HR.out (B1 := w.heap.size) (by repeat' (first | (with_reducible exact Below.refl _ _) | (with_reducible refine below_drewN ?_ _) | (with_reducible refine Below.drew ?_) | (with_reducible refine Below.alloc ?_ ?_ _) | (with_reducible refine Below.setCell ?_ ?_ _) | (with_reducible refine below_step ?_ (by assumption) ?_) | (with_reducible refine below_step ?_ (below_regrown _ _ _) ?_) | go_size)) hB) (by omega) (HE.out.below (B := w.heap.size) (by repeat' (first | (with_reducible exact Below.refl _ _) | (with_reducible refine below_drewN ?_ _) | (with_reducible refine Below.drew ?_) | (with_reducible refine Below.alloc ?_ ?_ _) | (with_reducible refine Below.setCell ?_ ?_ _) | (with_reducible refine below_step ?_ (by assumption) ?_) | (with_reducible refine below_step ?_ (below_regrown _ _ _) ?_) | go_size)) (by omega))).mono ?_; rintro e w1 ⟨rfl, hb⟩; obtain ⟨hS, hE, hz, hc, hf⟩ := bcell hb; (try simp only [go_sem] at hE); subst hE) | (go_at_call 17; refine (T2 _ (srow_below HR.out (B1 := w.heap.size) (by repeat' (first | (with_reducible exact Below.refl _ _) | (with_reducible refine below_drewN ?_ _) | (with_reducible refine Below.drew ?_) | (with_reducible refine Below.alloc ?_ ?_ _) | (with_reducible refine Below.setCell ?_ ?_ _) | (with_reducible refine below_step ?_ (by assumption) ?_) | (with_reducible refine below_step ?_ (below_regrown _ _ _) ?_) | go_size)) hB) (by omega)).mono ?_; rintro e w1 ⟨rfl, hb⟩; obtain ⟨hS, hE, hz, hc, hf⟩ := bcell hb; (try simp only [go_sem] at hE); subst hE) | ((with_reducible change Code.wp _ (Code.region _ _ _) _ _ _); refine wp_region_quiet_below (by kernel_rfl) (by kernel_rfl) ?_; (repeat (first | go_big_quiet_step ((first | (go_at_call 9; exact Calls.regrown_of (hL _ (HE.out.below (B := w.heap.size) (by repeat' (first | (with_reducible exact Below.refl _ _) | (with_reducible refine below_drewN ?_ _) | (with_reducible refine Below.drew ?_) | (with_reducible refine Below.alloc ?_ ?_ _) | (with_reducible refine Below.setCell ?_ ?_ _) | (with_reducible refine below_step ?_ (by assumption) ?_) | (with_reducible refine below_step ?_ (below_regrown _ _ _) ?_) | go_size)) (by omega)))) | (go_at_call 16; exact Calls.regrown_of (T1 _ (srow_below HR.out (B1 := w.heap.size) (by repeat' (first | (with_reducible exact Below.refl _ _) | (with_reducible refine below_drewN ?_ _) | (with_reducible refine Below.drew ?_) | (with_reducible refine Below.alloc ?_ ?_ _) | (with_reducible refine Below.setCell ?_ ?_ _) | (with_reducible refine below_step ?_ (by assumption) ?_) | (with_reducible refine below_step ?_ (below_regrown _ _ _) ?_) | go_size)) hB) (by omega) (HE.out.below (B := w.heap.size) (by repeat' (first | (with_reducible exact Below.refl _ _) | (with_reducible refine below_drewN ?_ _) | (with_reducible refine Below.drew ?_) | (with_reducible refine Below.alloc ?_ ?_ _) | (with_reducible refine Below.setCell ?_ ?_ _) | (with_reducible refine below_step ?_ (by assumption) ?_) | (with_reducible refine below_step ?_ (below_regrown _ _ _) ?_) | go_size)) (by omega)))) | (go_at_call 17; exact Calls.regrown_of (T2 _ (srow_below HR.out (B1 := w.heap.size) (by repeat' (first | (with_reducible exact Below.refl _ _) | (with_reducible refine below_drewN ?_ _) | (with_reducible refine Below.drew ?_) | (with_reducible refine Below.alloc ?_ ?_ _) | (with_reducible refine Below.setCell ?_ ?_ _) | (with_reducible refine below_step ?_ (by assumption) ?_) | (with_reducible refine below_step ?_ (below_regrown _ _ _) ?_) | go_size)) hB) (by omega))))) | quiet_step ((first | (go_at_call 9; exact Calls.regrown_of (hL _ (HE.out.below (B := w.heap.size) (by repeat' (first | (with_reducible exact Below.refl _ _) | (with_reducible refine below_drewN ?_ _) | (with_reducible refine Below.drew ?_) | (with_reducible refine Below.alloc ?_ ?_ _) | (with_reducible refine Below.setCell ?_ ?_ _) | (with_reducible refine below_step ?_ (by assumption) ?_) | (with_reducible refine below_step ?_ (below_regrown _ _ _) ?_) | go_size)) (by omega)))) | (go_at_call 16; exact Calls.regrown_of (T1 _ (srow_below HR.out (B1 := w.heap.size) (by repeat' (first | (with_reducible exact Below.refl _ _) | (with_reducible refine below_drewN ?_ _) | (with_reducible refine Below.drew ?_) | (with_reducible refine Below.alloc ?_ ?_ _) | (with_reducible refine Below.setCell ?_ ?_ _) | (with_reducible refine below_step ?_ (by assumption) ?_) | (with_reducible refine below_step ?_ (below_regrown _ _ _) ?_) | go_size)) hB) (by omega) (HE.out.below (B := w.heap.size) (by repeat' (first | (with_reducible exact Below.refl _ _) | (with_reducible refine below_drewN ?_ _) | (with_reducible refine Below.drew ?_) | (with_reducible refine Below.alloc ?_ ?_ _) | (with_reducible refine Below.setCell ?_ ?_ _) | (with_reducible refine below_step ?_ (by assumption) ?_) | (with_reducible refine below_step ?_ (below_regrown _ _ _) ?_) | go_size)) (by omega)))) | (go_at_call 17; exact Calls.regrown_of (T2 _ (srow_below HR.out (B1 := w.heap.size) (by repeat' (first | (with_reducible exact Below.refl _ _) | (with_reducible refine below_drewN ?_ _) | (with_reducible refine Below.drew ?_) | (with_reducible refine Below.alloc ?_ ?_ _) | (with_reducible refine Below.setCell ?_ ?_ _) | (with_reducible refine below_step ?_ (by assumption) ?_) | (with_reducible refine below_step ?_ (below_regrown _ _ _) ?_) | go_size)) hB) (by omega))))))); refine wpQuiet_nil ?_; intro w1 hw1; have hb := below_of_regrown hw1; clear hw1; obtain ⟨hS, hE, hz, hc, hf⟩ := bcell hb; (try simp only [go_sem] at hE); subst hE))
    have hw := HE.out
    have HB1 : Hid (Below w.heap.size w w1) := hide (by repeat' (first | (with_reducible exact Below.refl _ _) | (with_reducible refine below_drewN ?_ _) | (with_reducible refine Below.drew ?_) | (with_reducible refine Below.alloc ?_ ?_ _) | (with_reducible refine Below.setCell ?_ ?_ _) | (with_reducible refine below_step ?_ (by assumption) ?_) | (with_reducible refine below_step ?_ (below_regrown _ _ _) ?_) | go_size))
    obtain ⟨wo, rfl⟩ : ∃ wo : World, wo = w1 := ⟨_, rfl⟩
    have hz1 : w.heap.size ≤ wo.heap.size := HB1.out.size
    go_loopw [4] (fun i wr => ∃ k : Nat, k ≤ ps.length ∧ i = .int .i64 k ∧ Hid (okL ps k = true) ∧ Below wo.heap.size wo wr) (fun i _ => ps.length - (intOf i).toNat)
    case atStart => exact ⟨0, Nat.zero_le _, rfl, hide rfl, Below.refl _ _⟩
    case round =>
      obtain ⟨k, hk, rfl, hokk, hbr⟩ := hrel
      have hbw : Below w.heap.size w wr := HB1.out.trans (hbr.mono hz1)
      have hz2 := hbr.size
      have hlt := okL_get HOK.out k hokk.out hk
      obtain ⟨b, off, rfl, hbB, hcell⟩ := prow_cells HR.out (by omega)
      obtain ⟨e0, e1⟩ := hcell k hlt
      have d0 := (hbw.cell (p := ⟨b, off + k * 2, none⟩) (by dsimp only; omega)).trans e0
      have d1 := (hbw.cell (p := ⟨b, off + k * 2 + 1, none⟩) (by dsimp only; omega)).trans e1
      have hbr2 : b < wr.heap.size := by omega
      have HOK2 := hide (show okL ps (k + 1) = (okL ps k && rightP (ps.getD k (0, 0)).1 (ps.getD k (0, 0)).2) from rfl)
      clear hcell e0 e1 hw
      generalize ps.getD k (0, 0) = p at *
      obtain ⟨x, y⟩ := p
      dsimp only at *
      have R1 := fun w => rright_any x y w
      by_cases hrt : rightP x y = true
      · rw [hrt] at R1
        have HS := hide (HOK2.out.trans (by rw [hokk.out, hrt, Bool.and_self]))
        clear hrt
        go_wp2_with (first | (go_at_call 12; refine (R1 _).mono ?_; rintro e w1 ⟨rfl, hb⟩; obtain ⟨hS, hE, hz, hc, hf⟩ := bcell hb; (try simp only [go_sem] at hE); subst hE) | ((with_reducible change Code.wp _ (Code.region _ _ _) _ _ _); refine wp_region_quiet_below (by kernel_rfl) (by kernel_rfl) ?_; (repeat (first | go_big_quiet_step ((first | (go_at_call 12; exact Calls.regrown_of (R1 _)))) | quiet_step ((first | (go_at_call 12; exact Calls.regrown_of (R1 _)))))); refine wpQuiet_nil ?_; intro w1 hw1; have hb := below_of_regrown hw1; clear hw1; obtain ⟨hS, hE, hz, hc, hf⟩ := bcell hb; (try simp only [go_sem] at hE); subst hE))
        exact ⟨⟨k + 1, by omega, by go_num, HS, hbr.trans ((show Below wr.heap.size wr w1 from (by repeat' (first | (with_reducible exact Below.refl _ _) | (with_reducible refine below_drewN ?_ _) | (with_reducible refine Below.drew ?_) | (with_reducible refine Below.alloc ?_ ?_ _) | (with_reducible refine Below.setCell ?_ ?_ _) | (with_reducible refine below_step ?_ (by assumption) ?_) | (with_reducible refine below_step ?_ (below_regrown _ _ _) ?_) | go_size))).mono (by omega))⟩, by simp [intOf]; omega⟩
      · rw [Bool.not_eq_true] at hrt
        rw [hrt] at R1
        clear hrt HOK2
        go_wp2_with (first | (go_at_call 12; refine (R1 _).mono ?_; rintro e w1 ⟨rfl, hb⟩; obtain ⟨hS, hE, hz, hc, hf⟩ := bcell hb; (try simp only [go_sem] at hE); subst hE) | ((with_reducible change Code.wp _ (Code.region _ _ _) _ _ _); refine wp_region_quiet_below (by kernel_rfl) (by kernel_rfl) ?_; (repeat (first | go_big_quiet_step ((first | (go_at_call 12; exact Calls.regrown_of (R1 _)))) | quiet_step ((first | (go_at_call 12; exact Calls.regrown_of (R1 _)))))); refine wpQuiet_nil ?_; intro w1 hw1; have hb := below_of_regrown hw1; clear hw1; obtain ⟨hS, hE, hz, hc, hf⟩ := bcell hb; (try simp only [go_sem] at hE); subst hE))
        go_ret
        exact ⟨rfl, hbw.trans ((show Below wr.heap.size wr w1 from (by repeat' (first | (with_reducible exact Below.refl _ _) | (with_reducible refine below_drewN ?_ _) | (with_reducible refine Below.drew ?_) | (with_reducible refine Below.alloc ?_ ?_ _) | (with_reducible refine Below.setCell ?_ ?_ _) | (with_reducible refine below_step ?_ (by assumption) ?_) | (with_reducible refine below_step ?_ (below_regrown _ _ _) ?_) | go_size))).mono (by omega))⟩
theorem pl_rd {H : Type} {enc : TypeId × Value → H} {w : World} {cs : List Value} (h : RdS enc Tryd.prog w 23 cs) : ∃ x : Pl, cs = encP x ∧ True := by
  obtain ⟨hl, hf⟩ := rdS_struct Tryd.underlying23 h
  obtain ⟨a, b, rfl⟩ : ∃ a b, cs = [a, b] := by
    have hl2 : cs.length = 2 := hl.trans (by kernel_rfl)
    match cs, hl2 with
    | [a, b], _ => exact ⟨a, b, rfl⟩
  obtain ⟨n0, e0, _⟩ := rdS_i64 (cs := [a]) Tryd.underlying3 (hf 0 _ rfl)
  obtain ⟨n1, e1, _⟩ := rdS_i64 (cs := [b]) Tryd.underlying3 (hf 1 _ rfl)
  simp only [List.cons.injEq, and_true] at e0 e1
  subst e0 e1
  exact ⟨(n0, n1), rfl, trivial⟩
theorem law : LawS Tryd.checked Rows.wellTextsRow.laid 5 Tryd.f5 := by
  intro H enc W base args ds ps hval hA hsz hL hS
  have hA1 : DataW.TrodAll enc Tryd.prog W 0 (fun _ => true) true Tryd.f5.params.toList args.toList ds ps := hA
  have hw := weightsEach_at (sized_args hsz)
  have hw : ∀ (j : Nat) (t : TypeId) (d : DataW H), Tryd.f5.params.toList[j]? = some t → ds[j]? = some d → ∀ n ∈ d.weights Tryd.prog t, n ≤ 140737488351232 := hw
  rw [Tryd.params5] at hA1 hval hw
  obtain ⟨v0, vs0, d0, ds0, p0, q0, hargs, rfl, rfl, h0, r0⟩ := trodAll_cons hA1
  obtain ⟨rfl, rfl, rfl⟩ := trodAll_nil r0
  obtain rfl : args = #[v0] := by cases args; simp_all
  obtain ⟨A, len, cap, rfl⟩ := okWide_slice Tryd.underlying31 (hval 0 _ v0 rfl rfl)
  obtain ⟨A', len', cap', ls, e, h1, h2, h3, h4, _⟩ := rdS_srow (enc := encP) (good := fun _ => True) (bytes := 16) Tryd.underlying31 (by kernel_rfl) (by kernel_rfl) (by decide) encP_len (fun cs hcs => pl_rd hcs) (rdS_of h0 (hw 0 _ _ rfl rfl))
  simp only [Value.cells, List.cons.injEq, Value.slice.injEq, and_true] at e
  obtain ⟨rfl, rfl, rfl⟩ := e
  exact walk h4 (Nat.le_refl _) h1 h2 (env_laid hL hS)

set_option maxRecDepth 100000 in
theorem met : Door.Met Rows.wellTextsRow.laid := fun os args =>
  laidMetH_of_parts3 (fuel := 8) (laidMet_of_run' 8 (by kernel_rfl) (by kernel_rfl)) (by kernel_rfl) (by kernel_rfl)
set_option maxRecDepth 100000 in
theorem step (os : Os) (started : os.Started) (H : Type) (enc : TypeId × Value → H) :
    ReturnsInHanded {} Tryd.checked os 5 .any (fun w args => (Rows.wellTextsSpec.pre enc Tryd.prog Tryd.f5 Rows.wellTextsRow.domain false w args ∧ laidMetH Tryd.prog Rows.wellTextsRow.laid w) ∧ sizedMet enc Tryd.prog Tryd.f5 (OpenSpec.ofChange Rows.wellTextsSpec) false w args) (Rows.wellTextsSpec.post enc Tryd.prog Tryd.f5 false true false false) :=
  Door.liftedS (C := Tryd.checked) (L := Rows.wellTextsRow.laid) (s := Rows.wellTextsSpec) own started (by kernel_rfl) Tryd.func5
    (ChangeSpec.witness_shaped (enc := enc) (C := Tryd.checked) (os := os) (X := fun w _ => laidMetH Tryd.prog Rows.wellTextsRow.laid w) false (World.doorLaid Tryd.prog 400 os) #[.slice none 0 0] 8 rfl (World.shaped_of_RefB (by kernel_rfl) (by kernel_rfl)) (by kernel_rfl) (by kernel_rfl) (by kernel_rfl) (met os _))
    laidOut (by kernel_rfl) (by kernel_rfl) Tryd.underlying4 rfl (fun ds h => by match ds, h with | [d0], _ => rfl) law
set_option maxRecDepth 100000 in
theorem over : Rows.wellTextsRow.holds Tryd.pinned (OpenSpec.ofChange Rows.wellTextsSpec) :=
  OpenClaim.holds_of_wide 5 Tryd.f5 rfl rfl rfl rfl rfl rfl rfl ⟨rfl, rfl, rfl, rfl, rfl⟩ rfl rfl rfl rfl rfl (by kernel_rfl) Tryd.func5 (by kernel_rfl)
    (of_decide_eq_true (by kernel_rfl)) (by unfold Func.isWrapper; first | (rw [if_pos (by decide +kernel)]; kernel_rfl) | (rw [if_neg (by decide +kernel)]; exact ⟨rfl, rfl⟩))
    (fun os started H enc _ => step os started H enc)
theorem proved : Rows.WellTextsCardSaid :=
  Claim7.holds_tied_plain_at .later [] Rows.wellTextsCard.laidKinds true Rows.wellTextsCard.stood.harness Rows.wellTextsCard.stood.looks
    over (fun _ h => by cases h) (by kernel_rfl) (fun _ h => by cases h) wellTexts_row_tie rfl ⟨rfl, rfl⟩ (by kernel_rfl) rfl
    (fun f fn hf hfn => by
      obtain rfl : f = 5 := Option.some.inj ((show Tryd.prog.funcNamed Rows.wellTextsRow.func = some 5 by kernel_rfl).symm.trans hf) |>.symm
      obtain rfl : fn = Tryd.f5 := (Option.some.inj (Tryd.func5.symm.trans hfn)).symm
      exact ⟨by kernel_rfl, fun j t ht => by
        have hall : (Tryd.f5.params.toList.all fun u => !Tryd.prog.wantsStandIn u) = true := by kernel_rfl
        exact (show Tryd.prog.wantsStandIn t = false by simpa using List.all_eq_true.1 hall t (Array.mem_toList_iff.2 (Array.mem_of_getElem? ht)))⟩)
    (by kernel_rfl)
#print axioms proved

end Go.Proofs.YthdfmanocemfmaaDoor.WellTexts
