/- What is wrong with a deck, by the program. No condition. -/
import Derived.Test.YtfckciblnojniaaDoorDkD
import Derived.Deep.RegionWith
import Derived.Deep.DeepCutAuto
namespace Go.Proofs.YtfckciblnojniaaDoor.Dk
open Go.ChangeShapes Go.WideShapes Go.ChangeAt Go.RowKit Go.Proofs.YtfckciblnojniaaDoor.Kit Go.Proofs.YtfckciblnojniaaDoor.Flt Go.Proofs.YtfckciblnojniaaDoor.Mem Go.Proofs.YtfckciblnojniaaDoor.Rail Go.Deep
set_option linter.unusedVariables false
set_option linter.unusedSimpArgs false
def goodP (p : Plt) : Bool := mayB p.r p.c && holdsB p.r p.c p.cap p.l
def goodR (p : Rck) : Bool := mayB p.r p.c
def overB (D : Dck) : Bool := decide (384 < sumN (D.ps.map Plt.box)) || decide (384 < sumN (D.rs.map Rck.box))
def chkV (D : Dck) : Int := if overB D = true then 2 else 0
def chkU (D : Dck) : Int := if D.rs.all goodR = false then 82 else chkV D
def chkT (D : Dck) : Int := if D.ps.all goodP = false then 81 else chkU D
/-- What is wrong with a deck. -/
def chkD (D : Dck) : Int := if chkS D.bs ≠ 0 then chkS D.bs else if D.arms < 1 ∨ 8 < D.arms then 80 else if 4 < D.ps.length ∨ 4 < D.rs.length then 2 else chkT D
theorem all_nextP (l : List Plt) (k : Nat) (d : Plt) (h : k < l.length) : (l.drop k).all goodP = (goodP (l.getD k d) && (l.drop (k + 1)).all goodP) := by
  rw [List.drop_eq_getElem_cons h, List.all_cons, List.getD_eq_getElem?_getD, List.getElem?_eq_getElem h]
  rfl
theorem all_nextR (l : List Rck) (k : Nat) (d : Rck) (h : k < l.length) : (l.drop k).all goodR = (goodR (l.getD k d) && (l.drop (k + 1)).all goodR) := by
  rw [List.drop_eq_getElem_cons h, List.all_cons, List.getD_eq_getElem?_getD, List.getElem?_eq_getElem h]
  rfl
theorem allmay_P {l : List Plt} (h : l.all goodP = true) : AllMay (l.map Plt.box) := by
  intro k hk
  rw [List.length_map] at hk
  have h2 := List.all_eq_true.1 h l[k] (List.getElem_mem hk)
  unfold goodP at h2
  rw [Bool.and_eq_true] at h2
  rw [List.getD_eq_getElem?_getD, List.getElem?_map, List.getElem?_eq_getElem hk]
  exact h2.1
theorem allmay_R {l : List Rck} (h : l.all goodR = true) : AllMay (l.map Rck.box) := by
  intro k hk
  rw [List.length_map] at hk
  have h2 := List.all_eq_true.1 h l[k] (List.getElem_mem hk)
  rw [List.getD_eq_getElem?_getD, List.getElem?_map, List.getElem?_eq_getElem hk]
  exact h2
theorem sumN_le {l : List Bx} (h : AllMay l) : sumN l ≤ 1536 * l.length := by
  have H : ∀ k, k ≤ l.length → sumN (l.take k) ≤ 1536 * k := by
    intro k
    induction k with
    | zero => intro _; simp [sumN]
    | succ k ih =>
      intro hk
      rw [sum_next l k (by omega)]
      obtain ⟨m1, m2, m3, m4⟩ := may_iff.1 (h k (by omega))
      have := Nat.mul_le_mul (show (l.getD k default).1.toNat ≤ 32 by omega) (show (l.getD k default).2.toNat ≤ 48 by omega)
      have := ih (by omega)
      omega
  have := H l.length (Nat.le_refl _)
  rwa [List.take_length] at this
theorem map_box (l : List Plt) (k : Nat) (h : k < l.length) (d : Plt) : (l.map Plt.box).getD k default = ((l.getD k d).r, (l.getD k d).c) := by
  simp [List.getD_eq_getElem?_getD, h, Plt.box]
theorem map_boxR (l : List Rck) (k : Nat) (h : k < l.length) (d : Rck) : (l.map Rck.box).getD k default = ((l.getD k d).r, (l.getD k d).c) := by
  simp [List.getD_eq_getElem?_getD, h, Rck.box]
/-- The boxes of both, made. -/
def Boxes (B1 : Nat) (W0 : World) (ps : List Plt) (rs : List Rck) (p r : Value) (wx : World) : Prop :=
  ∃ A1 c1 A2 c2, p = .slice A1 ps.length c1 ∧ r = .slice A2 rs.length c2 ∧ SRow encB 2 wx wx.heap.size A1 ps.length (ps.map Plt.box) ∧ SRow encB 2 wx wx.heap.size A2 rs.length (rs.map Rck.box) ∧ Below B1 W0 wx
theorem bx_a {W0 w5 w6 : World} {B1 : Nat} {ps : List Plt} {rs : List Rck} {A5 A6 : Option Addr} {c5 c6 : Nat} (hB : B1 = W0.heap.size) (h5 : SRow encB 2 w5 w5.heap.size A5 ps.length (ps.map Plt.box)) (b5 : Below W0.drew.heap.size W0.drew w5)
    (h6 : SRow encB 2 w6 w6.heap.size A6 rs.length (rs.map Rck.box)) (b6 : Below w5.heap.size w5 w6) : Boxes B1 W0 ps rs (.slice A5 ps.length c5) (.slice A6 rs.length c6) w6 := by
  subst hB
  exact ⟨A5, c5, A6, c6, rfl, rfl, srow_more (srow_below h5 b6 (Nat.le_refl _)) b6.size, h6, (((Below.refl _ _).drew).trans b5).trans (b6.mono b5.size)⟩
theorem bx_b {W0 w5 w6 : World} {B1 : Nat} {ps : List Plt} {rs : List Rck} {A5 A6 : Option Addr} {c5 c6 : Nat} (hB : B1 = W0.heap.size) (h5 : SRow encB 2 w5 w5.heap.size A5 ps.length (ps.map Plt.box)) (b5 : Below w6.heap.size w6 w5)
    (h6 : SRow encB 2 w6 w6.heap.size A6 rs.length (rs.map Rck.box)) (b6 : Below W0.drew.heap.size W0.drew w6) : Boxes B1 W0 ps rs (.slice A5 ps.length c5) (.slice A6 rs.length c6) w5 := by
  subst hB
  exact ⟨A5, c5, A6, c6, rfl, rfl, h5, srow_more (srow_below h6 b5 (Nat.le_refl _)) b5.size, (((Below.refl _ _).drew).trans b6).trans (b5.mono b6.size)⟩
def SmallD (D : Dck) : Prop := ∀ p ∈ D.ps, p.l.length ≤ 500
set_option maxHeartbeats 8000000 in
set_option maxRecDepth 20000 in
theorem check_deck {w : World} {B0 : Nat} {D : Dck} (h : DeckI w B0 D) (hB : B0 ≤ w.heap.size) (hl : SmallD D) :
    Calls Tryd.prog 10 #[D.val] w fun e w' => e = .returned (.int .i64 (chkD D)) ∧ Below w.heap.size w w' := by
  have hbs := h.bs
  have HD := hide h
  have HL := hide hl
  clear h hl
  obtain ⟨bA, bc, bs, pA, pc, ps, rA, rc, rs, arms⟩ := D
  have cR : Calls Tryd.prog 29 #[.slice bA bs.length bc] (w.alloc (.cells #[.slice bA bs.length bc, .slice pA ps.length pc, .slice rA rs.length rc, .int .i64 arms] 26)) fun e w' => e = .returned (.int .i64 (chkS bs)) ∧ w.alloc (.cells #[.slice bA bs.length bc, .slice pA ps.length pc, .slice rA rs.length rc, .int .i64 arms] 26) = w' := check_any ⟨row_alloc hbs.row hB _, hbs.len, hbs.fit⟩ bc
  unfold Dck.val
  clear hbs
  dsimp only at HD HL ⊢
  have HV : Hid (chkD ⟨bA, bc, bs, pA, pc, ps, rA, rc, rs, arms⟩ = if chkS bs ≠ 0 then chkS bs else if arms < 1 ∨ 8 < arms then 80 else if 4 < ps.length ∨ 4 < rs.length then 2 else chkT ⟨bA, bc, bs, pA, pc, ps, rA, rc, rs, arms⟩) := hide rfl
  generalize chkS bs = e0 at cR HV
  by_cases h0 : e0 = 0
  case neg =>
    have hv : Hid (chkD ⟨bA, bc, bs, pA, pc, ps, rA, rc, rs, arms⟩ = e0) := hide (by rw [HV.out, if_pos h0])
    have g1 : (e0 == 0) = false := beq_false_of_ne h0
    have g2 : (e0 != 0) = true := bne_iff_ne.2 h0
    clear HV
    go_enter Tryd.func10, Tryd.ntmps10
    go_wp2_with (first | (go_at_call 29; refine (cR).mono ?_; rintro e w1 ⟨rfl, rfl⟩) | ((with_reducible change Code.wp _ (Code.region _ _ _) _ _ _); refine wp_region_quiet_below (by kernel_rfl) (by kernel_rfl) ?_; (repeat (first | go_big_quiet_step ((first | (go_at_call 29; exact Calls.regrown_of (below_of_same (cR))))) | quiet_step ((first | (go_at_call 29; exact Calls.regrown_of (below_of_same (cR))))))); refine wpQuiet_nil ?_; intro w1 hw1; have hb := below_of_regrown hw1; clear hw1; obtain ⟨hS, hE, hz, hc, hf⟩ := bcell hb; (try simp only [go_sem] at hE); subst hE))
    go_ret
    exact ⟨by rw [hv.out]; rfl, (by repeat' (first | (with_reducible exact Below.refl _ _) | (with_reducible refine below_drewN ?_ _) | (with_reducible refine Below.drew ?_) | (with_reducible refine Below.alloc ?_ ?_ _) | (with_reducible refine Below.setCell ?_ ?_ _) | (with_reducible refine below_step ?_ (by assumption) ?_) | (with_reducible refine below_step ?_ (below_regrown _ _ _) ?_) | go_size))⟩
  subst h0
  by_cases h1 : arms < 1 ∨ 8 < arms
  case pos =>
    have hv : Hid (chkD ⟨bA, bc, bs, pA, pc, ps, rA, rc, rs, arms⟩ = 80) := hide (by rw [HV.out, if_neg (by simp), if_pos h1])
    clear HV
    rcases h1 with h1 | h1
    · go_enter Tryd.func10, Tryd.ntmps10
      go_wp2_with (first | (go_at_call 29; refine (cR).mono ?_; rintro e w1 ⟨rfl, rfl⟩) | ((with_reducible change Code.wp _ (Code.region _ _ _) _ _ _); refine wp_region_quiet_below (by kernel_rfl) (by kernel_rfl) ?_; (repeat (first | go_big_quiet_step ((first | (go_at_call 29; exact Calls.regrown_of (below_of_same (cR))))) | quiet_step ((first | (go_at_call 29; exact Calls.regrown_of (below_of_same (cR))))))); refine wpQuiet_nil ?_; intro w1 hw1; have hb := below_of_regrown hw1; clear hw1; obtain ⟨hS, hE, hz, hc, hf⟩ := bcell hb; (try simp only [go_sem] at hE); subst hE))
      go_ret
      exact ⟨by rw [hv.out]; rfl, (by repeat' (first | (with_reducible exact Below.refl _ _) | (with_reducible refine below_drewN ?_ _) | (with_reducible refine Below.drew ?_) | (with_reducible refine Below.alloc ?_ ?_ _) | (with_reducible refine Below.setCell ?_ ?_ _) | (with_reducible refine below_step ?_ (by assumption) ?_) | (with_reducible refine below_step ?_ (below_regrown _ _ _) ?_) | go_size))⟩
    · have g1 : ¬ arms < 1 := by omega
      go_enter Tryd.func10, Tryd.ntmps10
      go_wp2_with (first | (go_at_call 29; refine (cR).mono ?_; rintro e w1 ⟨rfl, rfl⟩) | ((with_reducible change Code.wp _ (Code.region _ _ _) _ _ _); refine wp_region_quiet_below (by kernel_rfl) (by kernel_rfl) ?_; (repeat (first | go_big_quiet_step ((first | (go_at_call 29; exact Calls.regrown_of (below_of_same (cR))))) | quiet_step ((first | (go_at_call 29; exact Calls.regrown_of (below_of_same (cR))))))); refine wpQuiet_nil ?_; intro w1 hw1; have hb := below_of_regrown hw1; clear hw1; obtain ⟨hS, hE, hz, hc, hf⟩ := bcell hb; (try simp only [go_sem] at hE); subst hE))
      go_ret
      exact ⟨by rw [hv.out]; rfl, (by repeat' (first | (with_reducible exact Below.refl _ _) | (with_reducible refine below_drewN ?_ _) | (with_reducible refine Below.drew ?_) | (with_reducible refine Below.alloc ?_ ?_ _) | (with_reducible refine Below.setCell ?_ ?_ _) | (with_reducible refine below_step ?_ (by assumption) ?_) | (with_reducible refine below_step ?_ (below_regrown _ _ _) ?_) | go_size))⟩
  have f1 : ¬ arms < 1 := by omega
  have f2 : ¬ 8 < arms := by omega
  by_cases h2 : 4 < ps.length ∨ 4 < rs.length
  case pos =>
    have hv : Hid (chkD ⟨bA, bc, bs, pA, pc, ps, rA, rc, rs, arms⟩ = 2) := hide (by rw [HV.out, if_neg (by simp), if_neg h1, if_pos h2])
    clear HV h1
    by_cases h3 : 4 < ps.length
    · go_enter Tryd.func10, Tryd.ntmps10
      go_wp2_with (first | (go_at_call 29; refine (cR).mono ?_; rintro e w1 ⟨rfl, rfl⟩) | ((with_reducible change Code.wp _ (Code.region _ _ _) _ _ _); refine wp_region_quiet_below (by kernel_rfl) (by kernel_rfl) ?_; (repeat (first | go_big_quiet_step ((first | (go_at_call 29; exact Calls.regrown_of (below_of_same (cR))))) | quiet_step ((first | (go_at_call 29; exact Calls.regrown_of (below_of_same (cR))))))); refine wpQuiet_nil ?_; intro w1 hw1; have hb := below_of_regrown hw1; clear hw1; obtain ⟨hS, hE, hz, hc, hf⟩ := bcell hb; (try simp only [go_sem] at hE); subst hE))
      go_ret
      exact ⟨by rw [hv.out]; rfl, (by repeat' (first | (with_reducible exact Below.refl _ _) | (with_reducible refine below_drewN ?_ _) | (with_reducible refine Below.drew ?_) | (with_reducible refine Below.alloc ?_ ?_ _) | (with_reducible refine Below.setCell ?_ ?_ _) | (with_reducible refine below_step ?_ (by assumption) ?_) | (with_reducible refine below_step ?_ (below_regrown _ _ _) ?_) | go_size))⟩
    · have h4 : 4 < rs.length := by omega
      clear h2
      go_enter Tryd.func10, Tryd.ntmps10
      go_wp2_with (first | (go_at_call 29; refine (cR).mono ?_; rintro e w1 ⟨rfl, rfl⟩) | ((with_reducible change Code.wp _ (Code.region _ _ _) _ _ _); refine wp_region_quiet_below (by kernel_rfl) (by kernel_rfl) ?_; (repeat (first | go_big_quiet_step ((first | (go_at_call 29; exact Calls.regrown_of (below_of_same (cR))))) | quiet_step ((first | (go_at_call 29; exact Calls.regrown_of (below_of_same (cR))))))); refine wpQuiet_nil ?_; intro w1 hw1; have hb := below_of_regrown hw1; clear hw1; obtain ⟨hS, hE, hz, hc, hf⟩ := bcell hb; (try simp only [go_sem] at hE); subst hE))
      go_ret
      exact ⟨by rw [hv.out]; rfl, (by repeat' (first | (with_reducible exact Below.refl _ _) | (with_reducible refine below_drewN ?_ _) | (with_reducible refine Below.drew ?_) | (with_reducible refine Below.alloc ?_ ?_ _) | (with_reducible refine Below.setCell ?_ ?_ _) | (with_reducible refine below_step ?_ (by assumption) ?_) | (with_reducible refine below_step ?_ (below_regrown _ _ _) ?_) | go_size))⟩
  have f3 : ¬ 4 < ps.length := by omega
  have f4 : ¬ 4 < rs.length := by omega
  have hv : Hid (chkD ⟨bA, bc, bs, pA, pc, ps, rA, rc, rs, arms⟩ = chkT ⟨bA, bc, bs, pA, pc, ps, rA, rc, rs, arms⟩) := hide (by rw [HV.out, if_neg (by simp), if_neg h1, if_neg h2])
  clear HV h1 h2
  have HP : ∀ W, Below w.heap.size w W → Calls Tryd.prog 26 #[.agg #[.slice bA bs.length bc, .slice pA ps.length pc, .slice rA rs.length rc, .int .i64 arms]] W fun e w' => ∃ A c, e = .returned (.slice A ps.length c) ∧ SRow encB 2 w' w'.heap.size A ps.length (ps.map Plt.box) ∧ Below W.heap.size W w' :=
    fun W hb => by
    have h := plates_any (HD.out.below hb hB) (by have := hb.size; omega) (by show ps.length ≤ 8; omega)
    unfold BxPost at h
    rw [List.length_map] at h
    exact h
  have HQ : ∀ W, Below w.heap.size w W → Calls Tryd.prog 27 #[.agg #[.slice bA bs.length bc, .slice pA ps.length pc, .slice rA rs.length rc, .int .i64 arms]] W fun e w' => ∃ A c, e = .returned (.slice A rs.length c) ∧ SRow encB 2 w' w'.heap.size A rs.length (rs.map Rck.box) ∧ Below W.heap.size W w' :=
    fun W hb => by
    have h := racks_any (HD.out.below hb hB) (by have := hb.size; omega) (by show rs.length ≤ 8; omega)
    unfold BxPost at h
    rw [List.length_map] at h
    exact h
  go_enter Tryd.func10, Tryd.ntmps10
  go_wp2_with (first | (go_at_call 29; refine (cR).mono ?_; rintro e w1 ⟨rfl, rfl⟩) | ((with_reducible change Code.wp _ (Code.region _ _ _) _ _ _); refine wp_region_quiet_below (by kernel_rfl) (by kernel_rfl) ?_; (repeat (first | go_big_quiet_step ((first | (go_at_call 29; exact Calls.regrown_of (below_of_same (cR))))) | quiet_step ((first | (go_at_call 29; exact Calls.regrown_of (below_of_same (cR))))))); refine wpQuiet_nil ?_; intro w1 hw1; have hb := below_of_regrown hw1; clear hw1; obtain ⟨hS, hE, hz, hc, hf⟩ := bcell hb; (try simp only [go_sem] at hE); subst hE))
  go_cut [4, 5] (fun p r wx => Boxes (w.heap.size + 1) (w.alloc (.cells #[.slice bA bs.length bc, .slice pA ps.length pc, .slice rA rs.length rc, .int .i64 arms] 26)) ps rs p r wx)
  case first =>
    have B1 : Below w.heap.size w (w.alloc (.cells #[.slice bA bs.length bc, .slice pA ps.length pc, .slice rA rs.length rc, .int .i64 arms] 26)).drew := ((Below.refl _ _).alloc (Nat.le_refl _) _).drew
    have T1 := HP _ B1
    have T2 := HQ _ B1
    have B1 := hide B1
    have hsz1 : w.heap.size ≤ (w.alloc (.cells #[.slice bA bs.length bc, .slice pA ps.length pc, .slice rA rs.length rc, .int .i64 arms] 26)).drew.heap.size := by simp
    have hsz1 := hide hsz1
    go_region_with (first | (go_at_call 26; (first | with_reducible refine T1.mono ?_ | (with_reducible refine (HP _ ?_).mono ?_; exact below_step B1.out hb6 hsz1.out)); rintro e w5 ⟨A5, c5, rfl, hr5, hb5⟩; obtain ⟨hS5, hE5, hz5, hc5, hf5⟩ := bcell hb5; (try simp only [go_sem] at hE5); subst hE5) | (go_at_call 27; (first | with_reducible refine T2.mono ?_ | (with_reducible refine (HQ _ ?_).mono ?_; exact below_step B1.out hb5 hsz1.out)); rintro e w6 ⟨A6, c6, rfl, hr6, hb6⟩; obtain ⟨hS6, hE6, hz6, hc6, hf6⟩ := bcell hb6; (try simp only [go_sem] at hE6); subst hE6))
    all_goals
      go_wp2_with fail
      go_meet
      first
        | exact bx_a (by simp) hr5 hb5 hr6 hb6
        | exact bx_b (by simp) hr5 hb5 hr6 hb6
  case rest =>
    obtain ⟨A1, c1, A2, c2, rfl, rfl, hr1, hr2, hbx⟩ := hcut
    have HR1 := hide hr1
    have HR2 := hide hr2
    have hbw0 : Below w.heap.size w wc := ((Below.refl _ _).alloc (Nat.le_refl _) _).trans (hbx.mono (by omega))
    have q1 : wc.cell? ⟨w.heap.size, 1, none⟩ = some (.slice pA ps.length pc) := (hbx.cell (p := ⟨w.heap.size, 1, none⟩) (by simp)).trans (by rw [World.cell?_alloc_new]; rfl)
    have hq0 : w.heap.size < wc.heap.size := by have := hbx.size; simp at this; omega
    have HQ1 := hide q1
    have HBX := hide hbw0
    clear hr1 hr2 hbx hbw0 cR q1 HP HQ
    go_wp2_with fail
    go_loopw [42] (fun i wr => ∃ k : Nat, k ≤ ps.length ∧ i = .int .i64 k ∧ Hid (ps.all goodP = (ps.drop k).all goodP) ∧ Below wc.heap.size wc wr) (fun i _ => ps.length - (intOf i).toNat)
    case atStart => exact ⟨0, Nat.zero_le _, rfl, hide rfl, Below.refl _ _⟩
    case round =>
      obtain ⟨k, hk, rfl, HS, hbr⟩ := hrel
      have hzr := hbr.size
      have HBE : Hid (Below w.heap.size w wr) := hide (HBX.out.trans (hbr.mono (by omega)))
      by_cases hlt : k < ps.length
      · obtain ⟨b1, o1, rfl, hb1, hcell⟩ := box_cells HR1.out (by omega) default
        obtain ⟨p0, p1⟩ := hcell k hlt
        rw [map_box ps k hlt (⟨0, 0, 0, 0, 0, 0, none, 0, []⟩ : Plt)] at p0 p1
        have d0 := (hbr.cell (p := ⟨b1, o1 + k * 2, none⟩) hb1).trans p0
        have d1 := (hbr.cell (p := ⟨b1, o1 + k * 2 + 1, none⟩) hb1).trans p1
        have d2 := (hbr.cell (p := ⟨w.heap.size, 1, none⟩) hq0).trans HQ1.out
        have hb1r : b1 < wr.heap.size := by omega
        have hqr : w.heap.size < wr.heap.size := by omega
        clear hcell p0 p1
        obtain ⟨b, off, hpA, hbB, hcell⟩ := plt_cells HD.out.ps (show 0 < ps.length by omega) (⟨0, 0, 0, 0, 0, 0, none, 0, []⟩ : Plt)
        dsimp only at hpA hcell
        subst hpA
        obtain ⟨p0, p1, p2, p3, p4, p5, p6⟩ := hcell k hlt
        have hbw : b < w.heap.size := by omega
        have e0 := (HBE.out.cell (p := ⟨b, off + k * 7, none⟩) hbw).trans p0
        have e1 := (HBE.out.cell (p := ⟨b, off + k * 7 + 1, none⟩) hbw).trans p1
        have e2 := (HBE.out.cell (p := ⟨b, off + k * 7 + 2, none⟩) hbw).trans p2
        have e3 := (HBE.out.cell (p := ⟨b, off + k * 7 + 3, none⟩) hbw).trans p3
        have e4 := (HBE.out.cell (p := ⟨b, off + k * 7 + 4, none⟩) hbw).trans p4
        have e5 := (HBE.out.cell (p := ⟨b, off + k * 7 + 5, none⟩) hbw).trans p5
        have e6 := (HBE.out.cell (p := ⟨b, off + k * 7 + 6, none⟩) hbw).trans p6
        have hbwr : b < wr.heap.size := by omega
        clear hcell p0 p1 p2 p3 p4 p5 p6
        have HT := hide (HS.out.trans (all_nextP ps k (⟨0, 0, 0, 0, 0, 0, none, 0, []⟩ : Plt) hlt))
        have hmem : ps.getD k (⟨0, 0, 0, 0, 0, 0, none, 0, []⟩ : Plt) ∈ ps := by rw [List.getD_eq_getElem?_getD, List.getElem?_eq_getElem hlt]; exact List.getElem_mem hlt
        have HI := hide (HD.out.st _ hmem)
        have HLn := hide (HL.out _ hmem)
        have HBR := hide hbr
        clear hmem HS hbr
        generalize ps.getD k (⟨0, 0, 0, 0, 0, 0, none, 0, []⟩ : Plt) = q at *
        obtain ⟨r, c, x, y, z, cap, A, kk, l⟩ := q
        dsimp only at d0 d1 e0 e1 e2 e3 e4 e5 e6 HI HLn
        have HM := fun W => may_any r c W
        cases gm : mayB r c with
        | false =>
          have HT2 : Hid (ps.all goodP = false) := hide (by rw [HT.out]; unfold goodP; rw [gm]; rfl)
          rw [gm] at HM
          clear HT gm HI HLn
          go_wp2_with (first | (go_at_call 30; refine (HM _).mono ?_; rintro e w1 ⟨rfl, hb⟩; obtain ⟨hS, hE, hz, hc, hf⟩ := bcell hb; (try simp only [go_sem] at hE); subst hE) | ((with_reducible change Code.wp _ (Code.region _ _ _) _ _ _); refine wp_region_quiet_below (by kernel_rfl) (by kernel_rfl) ?_; (repeat (first | go_big_quiet_step ((first | (go_at_call 30; exact Calls.regrown_of (HM _)))) | quiet_step ((first | (go_at_call 30; exact Calls.regrown_of (HM _)))))); refine wpQuiet_nil ?_; intro w1 hw1; have hb := below_of_regrown hw1; clear hw1; obtain ⟨hS, hE, hz, hc, hf⟩ := bcell hb; (try simp only [go_sem] at hE); subst hE))
          go_ret
          exact ⟨by rw [hv.out]; unfold chkT; rw [HT2.out]; rfl, HBE.out.trans (by repeat' (first | (with_reducible exact Below.refl _ _) | (with_reducible refine below_drewN ?_ _) | (with_reducible refine Below.drew ?_) | (with_reducible refine Below.alloc ?_ ?_ _) | (with_reducible refine Below.setCell ?_ ?_ _) | (with_reducible refine below_step ?_ (by assumption) ?_) | (with_reducible refine below_step ?_ (below_regrown _ _ _) ?_) | go_size))⟩
        | true =>
          have HH : ∀ W, Below w.heap.size w W → Calls Tryd.prog 31 #[.agg #[.int .i64 r, .int .i64 c, .float .f64 x, .float .f64 y, .float .f64 z, .int .i64 cap, .slice A l.length kk]] W fun e w' => e = .returned (.bool (holdsB r c cap l)) ∧ Below W.heap.size W w' :=
            fun W hb => holds_any (B0 := B0) ⟨r, c, x, y, z, cap, A, kk, l⟩ (ints_below HI.out hb hB) (by have := hb.size; omega) gm (Nat.le_trans HLn.out (by decide))
          rw [gm] at HM
          clear HI HLn
          cases gh : holdsB r c cap l with
          | false =>
            have HT2 : Hid (ps.all goodP = false) := hide (by rw [HT.out]; unfold goodP; rw [gh]; simp)
            rw [gh] at HH
            clear HT gm gh
            go_wp2_with (first | (go_at_call 30; refine (HM _).mono ?_; rintro e w1 ⟨rfl, hb⟩; obtain ⟨hS, hE, hz, hc, hf⟩ := bcell hb; (try simp only [go_sem] at hE); subst hE) | (go_at_call 31; (with_reducible refine (HH _ (HBE.out.trans (by repeat' (first | (with_reducible exact Below.refl _ _) | (with_reducible refine below_drewN ?_ _) | (with_reducible refine Below.drew ?_) | (with_reducible refine Below.alloc ?_ ?_ _) | (with_reducible refine Below.setCell ?_ ?_ _) | (with_reducible refine below_step ?_ (by assumption) ?_) | (with_reducible refine below_step ?_ (below_regrown _ _ _) ?_) | go_size)))).mono ?_); rintro e w1 ⟨rfl, hb⟩; obtain ⟨hS, hE, hz, hc, hf⟩ := bcell hb; (try simp only [go_sem] at hE); subst hE) | ((with_reducible change Code.wp _ (Code.region _ _ _) _ _ _); refine wp_region_quiet_below (by kernel_rfl) (by kernel_rfl) ?_; (repeat (first | go_big_quiet_step ((first | (go_at_call 30; exact Calls.regrown_of (HM _)) | (go_at_call 31; (with_reducible refine Calls.regrown_of (HH _ (HBE.out.trans (by repeat' (first | (with_reducible exact Below.refl _ _) | (with_reducible refine below_drewN ?_ _) | (with_reducible refine Below.drew ?_) | (with_reducible refine Below.alloc ?_ ?_ _) | (with_reducible refine Below.setCell ?_ ?_ _) | (with_reducible refine below_step ?_ (by assumption) ?_) | (with_reducible refine below_step ?_ (below_regrown _ _ _) ?_) | go_size)))));))) | quiet_step ((first | (go_at_call 30; exact Calls.regrown_of (HM _)) | (go_at_call 31; (with_reducible refine Calls.regrown_of (HH _ (HBE.out.trans (by repeat' (first | (with_reducible exact Below.refl _ _) | (with_reducible refine below_drewN ?_ _) | (with_reducible refine Below.drew ?_) | (with_reducible refine Below.alloc ?_ ?_ _) | (with_reducible refine Below.setCell ?_ ?_ _) | (with_reducible refine below_step ?_ (by assumption) ?_) | (with_reducible refine below_step ?_ (below_regrown _ _ _) ?_) | go_size)))));))))); refine wpQuiet_nil ?_; intro w1 hw1; have hb := below_of_regrown hw1; clear hw1; obtain ⟨hS, hE, hz, hc, hf⟩ := bcell hb; (try simp only [go_sem] at hE); subst hE))
            go_ret
            exact ⟨by rw [hv.out]; unfold chkT; rw [HT2.out]; rfl, HBE.out.trans (by repeat' (first | (with_reducible exact Below.refl _ _) | (with_reducible refine below_drewN ?_ _) | (with_reducible refine Below.drew ?_) | (with_reducible refine Below.alloc ?_ ?_ _) | (with_reducible refine Below.setCell ?_ ?_ _) | (with_reducible refine below_step ?_ (by assumption) ?_) | (with_reducible refine below_step ?_ (below_regrown _ _ _) ?_) | go_size))⟩
          | true =>
            have HT2 : Hid (ps.all goodP = (ps.drop (k + 1)).all goodP) := hide (by rw [HT.out]; unfold goodP; rw [gh, gm]; rfl)
            rw [gh] at HH
            clear HT gm gh
            go_wp2_with (first | (go_at_call 30; refine (HM _).mono ?_; rintro e w1 ⟨rfl, hb⟩; obtain ⟨hS, hE, hz, hc, hf⟩ := bcell hb; (try simp only [go_sem] at hE); subst hE) | (go_at_call 31; (with_reducible refine (HH _ (HBE.out.trans (by repeat' (first | (with_reducible exact Below.refl _ _) | (with_reducible refine below_drewN ?_ _) | (with_reducible refine Below.drew ?_) | (with_reducible refine Below.alloc ?_ ?_ _) | (with_reducible refine Below.setCell ?_ ?_ _) | (with_reducible refine below_step ?_ (by assumption) ?_) | (with_reducible refine below_step ?_ (below_regrown _ _ _) ?_) | go_size)))).mono ?_); rintro e w1 ⟨rfl, hb⟩; obtain ⟨hS, hE, hz, hc, hf⟩ := bcell hb; (try simp only [go_sem] at hE); subst hE) | ((with_reducible change Code.wp _ (Code.region _ _ _) _ _ _); refine wp_region_quiet_below (by kernel_rfl) (by kernel_rfl) ?_; (repeat (first | go_big_quiet_step ((first | (go_at_call 30; exact Calls.regrown_of (HM _)) | (go_at_call 31; (with_reducible refine Calls.regrown_of (HH _ (HBE.out.trans (by repeat' (first | (with_reducible exact Below.refl _ _) | (with_reducible refine below_drewN ?_ _) | (with_reducible refine Below.drew ?_) | (with_reducible refine Below.alloc ?_ ?_ _) | (with_reducible refine Below.setCell ?_ ?_ _) | (with_reducible refine below_step ?_ (by assumption) ?_) | (with_reducible refine below_step ?_ (below_regrown _ _ _) ?_) | go_size)))));))) | quiet_step ((first | (go_at_call 30; exact Calls.regrown_of (HM _)) | (go_at_call 31; (with_reducible refine Calls.regrown_of (HH _ (HBE.out.trans (by repeat' (first | (with_reducible exact Below.refl _ _) | (with_reducible refine below_drewN ?_ _) | (with_reducible refine Below.drew ?_) | (with_reducible refine Below.alloc ?_ ?_ _) | (with_reducible refine Below.setCell ?_ ?_ _) | (with_reducible refine below_step ?_ (by assumption) ?_) | (with_reducible refine below_step ?_ (below_regrown _ _ _) ?_) | go_size)))));))))); refine wpQuiet_nil ?_; intro w1 hw1; have hb := below_of_regrown hw1; clear hw1; obtain ⟨hS, hE, hz, hc, hf⟩ := bcell hb; (try simp only [go_sem] at hE); subst hE))
            exact ⟨⟨k + 1, by omega, by go_num, HT2, HBR.out.trans (by repeat' (first | (with_reducible exact Below.refl _ _) | (with_reducible refine below_drewN ?_ _) | (with_reducible refine Below.drew ?_) | (with_reducible refine Below.alloc ?_ ?_ _) | (with_reducible refine Below.setCell ?_ ?_ _) | (with_reducible refine below_step ?_ (by assumption) ?_) | (with_reducible refine below_step ?_ (below_regrown _ _ _) ?_) | go_size))⟩, by simp [intOf]; omega⟩
      · obtain rfl : k = ps.length := by omega
        have HAP : Hid (ps.all goodP = true) := hide (by rw [HS.out, List.drop_length]; rfl)
        have hv2 : Hid (chkD ⟨bA, bc, bs, pA, pc, ps, rA, rc, rs, arms⟩ = chkU ⟨bA, bc, bs, pA, pc, ps, rA, rc, rs, arms⟩) := hide (by rw [hv.out]; unfold chkT; rw [if_neg (by rw [HAP.out]; simp)])
        have HR1b := hide (srow_below HR1.out hbr (Nat.le_refl _))
        have HR2b := hide (srow_below HR2.out hbr (Nat.le_refl _))
        have hq2 : w.heap.size ≤ wr.heap.size := by omega
        have hbx1 : wc.heap.size ≤ wr.heap.size := hzr
        clear HS hv HR1 HR2 HBX HQ1 hbr hq0
        go_wp2_with fail
        obtain ⟨wv, rfl⟩ : ∃ wv : World, wv = wr := ⟨_, rfl⟩
        go_loopw [62] (fun i wr => ∃ k : Nat, k ≤ rs.length ∧ i = .int .i64 k ∧ Hid (rs.all goodR = (rs.drop k).all goodR) ∧ Below wv.heap.size wv wr) (fun i _ => rs.length - (intOf i).toNat)
        case atStart => exact ⟨0, Nat.zero_le _, rfl, hide rfl, Below.refl _ _⟩
        case round =>
          obtain ⟨k, hk, rfl, HS, hbr⟩ := hrel
          have hzr := hbr.size
          have HBF : Hid (Below w.heap.size w wr) := hide (HBE.out.trans (hbr.mono (by omega)))
          by_cases hlt : k < rs.length
          · obtain ⟨b1, o1, rfl, hb1, hcell⟩ := box_cells HR2b.out (by omega) default
            obtain ⟨p0, p1⟩ := hcell k hlt
            rw [map_boxR rs k hlt (⟨0, 0, 0, 0, 0⟩ : Rck)] at p0 p1
            have hb1v : b1 < wv.heap.size := by omega
            have d0 := (hbr.cell (p := ⟨b1, o1 + k * 2, none⟩) hb1v).trans p0
            have d1 := (hbr.cell (p := ⟨b1, o1 + k * 2 + 1, none⟩) hb1v).trans p1
            have hb1r : b1 < wr.heap.size := by omega
            clear hcell p0 p1
            have HT := hide (HS.out.trans (all_nextR rs k (⟨0, 0, 0, 0, 0⟩ : Rck) hlt))
            have HBR := hide hbr
            clear HS hbr
            generalize rs.getD k (⟨0, 0, 0, 0, 0⟩ : Rck) = q at *
            obtain ⟨r, c, x, y, z⟩ := q
            dsimp only at d0 d1
            have HM := fun W => may_any r c W
            cases gm : mayB r c with
            | false =>
              have HT2 : Hid (rs.all goodR = false) := hide (by rw [HT.out]; unfold goodR; rw [gm]; rfl)
              rw [gm] at HM
              clear HT gm
              go_wp2_with (first | (go_at_call 30; refine (HM _).mono ?_; rintro e w1 ⟨rfl, hb⟩; obtain ⟨hS, hE, hz, hc, hf⟩ := bcell hb; (try simp only [go_sem] at hE); subst hE) | ((with_reducible change Code.wp _ (Code.region _ _ _) _ _ _); refine wp_region_quiet_below (by kernel_rfl) (by kernel_rfl) ?_; (repeat (first | go_big_quiet_step ((first | (go_at_call 30; exact Calls.regrown_of (HM _)))) | quiet_step ((first | (go_at_call 30; exact Calls.regrown_of (HM _)))))); refine wpQuiet_nil ?_; intro w1 hw1; have hb := below_of_regrown hw1; clear hw1; obtain ⟨hS, hE, hz, hc, hf⟩ := bcell hb; (try simp only [go_sem] at hE); subst hE))
              go_ret
              exact ⟨by rw [hv2.out]; unfold chkU; rw [HT2.out]; rfl, HBF.out.trans (by repeat' (first | (with_reducible exact Below.refl _ _) | (with_reducible refine below_drewN ?_ _) | (with_reducible refine Below.drew ?_) | (with_reducible refine Below.alloc ?_ ?_ _) | (with_reducible refine Below.setCell ?_ ?_ _) | (with_reducible refine below_step ?_ (by assumption) ?_) | (with_reducible refine below_step ?_ (below_regrown _ _ _) ?_) | go_size))⟩
            | true =>
              have HT2 : Hid (rs.all goodR = (rs.drop (k + 1)).all goodR) := hide (by rw [HT.out]; unfold goodR; rw [gm]; rfl)
              rw [gm] at HM
              clear HT gm
              go_wp2_with (first | (go_at_call 30; refine (HM _).mono ?_; rintro e w1 ⟨rfl, hb⟩; obtain ⟨hS, hE, hz, hc, hf⟩ := bcell hb; (try simp only [go_sem] at hE); subst hE) | ((with_reducible change Code.wp _ (Code.region _ _ _) _ _ _); refine wp_region_quiet_below (by kernel_rfl) (by kernel_rfl) ?_; (repeat (first | go_big_quiet_step ((first | (go_at_call 30; exact Calls.regrown_of (HM _)))) | quiet_step ((first | (go_at_call 30; exact Calls.regrown_of (HM _)))))); refine wpQuiet_nil ?_; intro w1 hw1; have hb := below_of_regrown hw1; clear hw1; obtain ⟨hS, hE, hz, hc, hf⟩ := bcell hb; (try simp only [go_sem] at hE); subst hE))
              exact ⟨⟨k + 1, by omega, by go_num, HT2, HBR.out.trans (by repeat' (first | (with_reducible exact Below.refl _ _) | (with_reducible refine below_drewN ?_ _) | (with_reducible refine Below.drew ?_) | (with_reducible refine Below.alloc ?_ ?_ _) | (with_reducible refine Below.setCell ?_ ?_ _) | (with_reducible refine below_step ?_ (by assumption) ?_) | (with_reducible refine below_step ?_ (below_regrown _ _ _) ?_) | go_size))⟩, by simp [intOf]; omega⟩
          · obtain rfl : k = rs.length := by omega
            have HAR : Hid (rs.all goodR = true) := hide (by rw [HS.out, List.drop_length]; rfl)
            have hv3 : Hid (chkD ⟨bA, bc, bs, pA, pc, ps, rA, rc, rs, arms⟩ = if (decide (384 < sumN (ps.map Plt.box)) || decide (384 < sumN (rs.map Rck.box))) = true then 2 else 0) := hide (by rw [hv2.out]; unfold chkU; rw [if_neg (by rw [HAR.out]; simp)]; rfl)
            have hs1 := sumN_le (allmay_P HAP.out)
            have hs2 := sumN_le (allmay_R HAR.out)
            rw [List.length_map] at hs1 hs2
            have HS1 : ∀ W, Below wr.heap.size wr W → Calls Tryd.prog 25 #[.slice A1 ps.length c1] W fun e w' => e = .returned (.int .i64 (sumN (ps.map Plt.box) : Nat)) ∧ Below W.heap.size W w' :=
              fun W hb => sum_any (srow_below HR1b.out (hbr.trans (hb.mono hzr)) (by omega)) (by have := hb.size; omega) (by omega) (allmay_P HAP.out)
            have HS2 : ∀ W, Below wr.heap.size wr W → Calls Tryd.prog 25 #[.slice A2 rs.length c2] W fun e w' => e = .returned (.int .i64 (sumN (rs.map Rck.box) : Nat)) ∧ Below W.heap.size W w' :=
              fun W hb => sum_any (srow_below HR2b.out (hbr.trans (hb.mono hzr)) (by omega)) (by have := hb.size; omega) (by omega) (allmay_R HAR.out)
            clear hv2 HS hbr HR1b HR2b HAR HAP
            generalize sumN (ps.map Plt.box) = n1 at *
            generalize sumN (rs.map Rck.box) = n2 at *
            by_cases g1 : 384 < n1
            · have hv4 : Hid (chkD ⟨bA, bc, bs, pA, pc, ps, rA, rc, rs, arms⟩ = 2) := hide (by rw [hv3.out, decide_eq_true g1]; rfl)
              clear hv3
              go_wp2_with (first | (go_at_call 25; (with_reducible refine (HS1 _ (by repeat' (first | (with_reducible exact Below.refl _ _) | (with_reducible refine below_drewN ?_ _) | (with_reducible refine Below.drew ?_) | (with_reducible refine Below.alloc ?_ ?_ _) | (with_reducible refine Below.setCell ?_ ?_ _) | (with_reducible refine below_step ?_ (by assumption) ?_) | (with_reducible refine below_step ?_ (below_regrown _ _ _) ?_) | go_size))).mono ?_); rintro e w1 ⟨rfl, hb⟩; obtain ⟨hS, hE, hz, hc, hf⟩ := bcell hb; (try simp only [go_sem] at hE); subst hE) | (go_at_call 25; (with_reducible refine (HS2 _ (by repeat' (first | (with_reducible exact Below.refl _ _) | (with_reducible refine below_drewN ?_ _) | (with_reducible refine Below.drew ?_) | (with_reducible refine Below.alloc ?_ ?_ _) | (with_reducible refine Below.setCell ?_ ?_ _) | (with_reducible refine below_step ?_ (by assumption) ?_) | (with_reducible refine below_step ?_ (below_regrown _ _ _) ?_) | go_size))).mono ?_); rintro e w1 ⟨rfl, hb⟩; obtain ⟨hS, hE, hz, hc, hf⟩ := bcell hb; (try simp only [go_sem] at hE); subst hE) | ((with_reducible change Code.wp _ (Code.region _ _ _) _ _ _); refine wp_region_quiet_below (by kernel_rfl) (by kernel_rfl) ?_; (repeat (first | go_big_quiet_step ((first | (go_at_call 25; (with_reducible refine Calls.regrown_of (HS1 _ (by repeat' (first | (with_reducible exact Below.refl _ _) | (with_reducible refine below_drewN ?_ _) | (with_reducible refine Below.drew ?_) | (with_reducible refine Below.alloc ?_ ?_ _) | (with_reducible refine Below.setCell ?_ ?_ _) | (with_reducible refine below_step ?_ (by assumption) ?_) | (with_reducible refine below_step ?_ (below_regrown _ _ _) ?_) | go_size))));) | (go_at_call 25; (with_reducible refine Calls.regrown_of (HS2 _ (by repeat' (first | (with_reducible exact Below.refl _ _) | (with_reducible refine below_drewN ?_ _) | (with_reducible refine Below.drew ?_) | (with_reducible refine Below.alloc ?_ ?_ _) | (with_reducible refine Below.setCell ?_ ?_ _) | (with_reducible refine below_step ?_ (by assumption) ?_) | (with_reducible refine below_step ?_ (below_regrown _ _ _) ?_) | go_size))));))) | quiet_step ((first | (go_at_call 25; (with_reducible refine Calls.regrown_of (HS1 _ (by repeat' (first | (with_reducible exact Below.refl _ _) | (with_reducible refine below_drewN ?_ _) | (with_reducible refine Below.drew ?_) | (with_reducible refine Below.alloc ?_ ?_ _) | (with_reducible refine Below.setCell ?_ ?_ _) | (with_reducible refine below_step ?_ (by assumption) ?_) | (with_reducible refine below_step ?_ (below_regrown _ _ _) ?_) | go_size))));) | (go_at_call 25; (with_reducible refine Calls.regrown_of (HS2 _ (by repeat' (first | (with_reducible exact Below.refl _ _) | (with_reducible refine below_drewN ?_ _) | (with_reducible refine Below.drew ?_) | (with_reducible refine Below.alloc ?_ ?_ _) | (with_reducible refine Below.setCell ?_ ?_ _) | (with_reducible refine below_step ?_ (by assumption) ?_) | (with_reducible refine below_step ?_ (below_regrown _ _ _) ?_) | go_size))));))))); refine wpQuiet_nil ?_; intro w1 hw1; have hb := below_of_regrown hw1; clear hw1; obtain ⟨hS, hE, hz, hc, hf⟩ := bcell hb; (try simp only [go_sem] at hE); subst hE))
              go_ret
              exact ⟨by rw [hv4.out]; rfl, HBF.out.trans (by repeat' (first | (with_reducible exact Below.refl _ _) | (with_reducible refine below_drewN ?_ _) | (with_reducible refine Below.drew ?_) | (with_reducible refine Below.alloc ?_ ?_ _) | (with_reducible refine Below.setCell ?_ ?_ _) | (with_reducible refine below_step ?_ (by assumption) ?_) | (with_reducible refine below_step ?_ (below_regrown _ _ _) ?_) | go_size))⟩
            by_cases g2 : 384 < n2
            · have hv4 : Hid (chkD ⟨bA, bc, bs, pA, pc, ps, rA, rc, rs, arms⟩ = 2) := hide (by rw [hv3.out, decide_eq_true g2]; simp)
              clear hv3
              go_wp2_with (first | (go_at_call 25; (with_reducible refine (HS1 _ (by repeat' (first | (with_reducible exact Below.refl _ _) | (with_reducible refine below_drewN ?_ _) | (with_reducible refine Below.drew ?_) | (with_reducible refine Below.alloc ?_ ?_ _) | (with_reducible refine Below.setCell ?_ ?_ _) | (with_reducible refine below_step ?_ (by assumption) ?_) | (with_reducible refine below_step ?_ (below_regrown _ _ _) ?_) | go_size))).mono ?_); rintro e w1 ⟨rfl, hb⟩; obtain ⟨hS, hE, hz, hc, hf⟩ := bcell hb; (try simp only [go_sem] at hE); subst hE) | (go_at_call 25; (with_reducible refine (HS2 _ (by repeat' (first | (with_reducible exact Below.refl _ _) | (with_reducible refine below_drewN ?_ _) | (with_reducible refine Below.drew ?_) | (with_reducible refine Below.alloc ?_ ?_ _) | (with_reducible refine Below.setCell ?_ ?_ _) | (with_reducible refine below_step ?_ (by assumption) ?_) | (with_reducible refine below_step ?_ (below_regrown _ _ _) ?_) | go_size))).mono ?_); rintro e w1 ⟨rfl, hb⟩; obtain ⟨hS, hE, hz, hc, hf⟩ := bcell hb; (try simp only [go_sem] at hE); subst hE) | ((with_reducible change Code.wp _ (Code.region _ _ _) _ _ _); refine wp_region_quiet_below (by kernel_rfl) (by kernel_rfl) ?_; (repeat (first | go_big_quiet_step ((first | (go_at_call 25; (with_reducible refine Calls.regrown_of (HS1 _ (by repeat' (first | (with_reducible exact Below.refl _ _) | (with_reducible refine below_drewN ?_ _) | (with_reducible refine Below.drew ?_) | (with_reducible refine Below.alloc ?_ ?_ _) | (with_reducible refine Below.setCell ?_ ?_ _) | (with_reducible refine below_step ?_ (by assumption) ?_) | (with_reducible refine below_step ?_ (below_regrown _ _ _) ?_) | go_size))));) | (go_at_call 25; (with_reducible refine Calls.regrown_of (HS2 _ (by repeat' (first | (with_reducible exact Below.refl _ _) | (with_reducible refine below_drewN ?_ _) | (with_reducible refine Below.drew ?_) | (with_reducible refine Below.alloc ?_ ?_ _) | (with_reducible refine Below.setCell ?_ ?_ _) | (with_reducible refine below_step ?_ (by assumption) ?_) | (with_reducible refine below_step ?_ (below_regrown _ _ _) ?_) | go_size))));))) | quiet_step ((first | (go_at_call 25; (with_reducible refine Calls.regrown_of (HS1 _ (by repeat' (first | (with_reducible exact Below.refl _ _) | (with_reducible refine below_drewN ?_ _) | (with_reducible refine Below.drew ?_) | (with_reducible refine Below.alloc ?_ ?_ _) | (with_reducible refine Below.setCell ?_ ?_ _) | (with_reducible refine below_step ?_ (by assumption) ?_) | (with_reducible refine below_step ?_ (below_regrown _ _ _) ?_) | go_size))));) | (go_at_call 25; (with_reducible refine Calls.regrown_of (HS2 _ (by repeat' (first | (with_reducible exact Below.refl _ _) | (with_reducible refine below_drewN ?_ _) | (with_reducible refine Below.drew ?_) | (with_reducible refine Below.alloc ?_ ?_ _) | (with_reducible refine Below.setCell ?_ ?_ _) | (with_reducible refine below_step ?_ (by assumption) ?_) | (with_reducible refine below_step ?_ (below_regrown _ _ _) ?_) | go_size))));))))); refine wpQuiet_nil ?_; intro w1 hw1; have hb := below_of_regrown hw1; clear hw1; obtain ⟨hS, hE, hz, hc, hf⟩ := bcell hb; (try simp only [go_sem] at hE); subst hE))
              go_ret
              exact ⟨by rw [hv4.out]; rfl, HBF.out.trans (by repeat' (first | (with_reducible exact Below.refl _ _) | (with_reducible refine below_drewN ?_ _) | (with_reducible refine Below.drew ?_) | (with_reducible refine Below.alloc ?_ ?_ _) | (with_reducible refine Below.setCell ?_ ?_ _) | (with_reducible refine below_step ?_ (by assumption) ?_) | (with_reducible refine below_step ?_ (below_regrown _ _ _) ?_) | go_size))⟩
            have hv4 : Hid (chkD ⟨bA, bc, bs, pA, pc, ps, rA, rc, rs, arms⟩ = 0) := hide (by rw [hv3.out, decide_eq_false g1, decide_eq_false g2]; rfl)
            clear hv3
            go_wp2_with (first | (go_at_call 25; (with_reducible refine (HS1 _ (by repeat' (first | (with_reducible exact Below.refl _ _) | (with_reducible refine below_drewN ?_ _) | (with_reducible refine Below.drew ?_) | (with_reducible refine Below.alloc ?_ ?_ _) | (with_reducible refine Below.setCell ?_ ?_ _) | (with_reducible refine below_step ?_ (by assumption) ?_) | (with_reducible refine below_step ?_ (below_regrown _ _ _) ?_) | go_size))).mono ?_); rintro e w1 ⟨rfl, hb⟩; obtain ⟨hS, hE, hz, hc, hf⟩ := bcell hb; (try simp only [go_sem] at hE); subst hE) | (go_at_call 25; (with_reducible refine (HS2 _ (by repeat' (first | (with_reducible exact Below.refl _ _) | (with_reducible refine below_drewN ?_ _) | (with_reducible refine Below.drew ?_) | (with_reducible refine Below.alloc ?_ ?_ _) | (with_reducible refine Below.setCell ?_ ?_ _) | (with_reducible refine below_step ?_ (by assumption) ?_) | (with_reducible refine below_step ?_ (below_regrown _ _ _) ?_) | go_size))).mono ?_); rintro e w1 ⟨rfl, hb⟩; obtain ⟨hS, hE, hz, hc, hf⟩ := bcell hb; (try simp only [go_sem] at hE); subst hE) | ((with_reducible change Code.wp _ (Code.region _ _ _) _ _ _); refine wp_region_quiet_below (by kernel_rfl) (by kernel_rfl) ?_; (repeat (first | go_big_quiet_step ((first | (go_at_call 25; (with_reducible refine Calls.regrown_of (HS1 _ (by repeat' (first | (with_reducible exact Below.refl _ _) | (with_reducible refine below_drewN ?_ _) | (with_reducible refine Below.drew ?_) | (with_reducible refine Below.alloc ?_ ?_ _) | (with_reducible refine Below.setCell ?_ ?_ _) | (with_reducible refine below_step ?_ (by assumption) ?_) | (with_reducible refine below_step ?_ (below_regrown _ _ _) ?_) | go_size))));) | (go_at_call 25; (with_reducible refine Calls.regrown_of (HS2 _ (by repeat' (first | (with_reducible exact Below.refl _ _) | (with_reducible refine below_drewN ?_ _) | (with_reducible refine Below.drew ?_) | (with_reducible refine Below.alloc ?_ ?_ _) | (with_reducible refine Below.setCell ?_ ?_ _) | (with_reducible refine below_step ?_ (by assumption) ?_) | (with_reducible refine below_step ?_ (below_regrown _ _ _) ?_) | go_size))));))) | quiet_step ((first | (go_at_call 25; (with_reducible refine Calls.regrown_of (HS1 _ (by repeat' (first | (with_reducible exact Below.refl _ _) | (with_reducible refine below_drewN ?_ _) | (with_reducible refine Below.drew ?_) | (with_reducible refine Below.alloc ?_ ?_ _) | (with_reducible refine Below.setCell ?_ ?_ _) | (with_reducible refine below_step ?_ (by assumption) ?_) | (with_reducible refine below_step ?_ (below_regrown _ _ _) ?_) | go_size))));) | (go_at_call 25; (with_reducible refine Calls.regrown_of (HS2 _ (by repeat' (first | (with_reducible exact Below.refl _ _) | (with_reducible refine below_drewN ?_ _) | (with_reducible refine Below.drew ?_) | (with_reducible refine Below.alloc ?_ ?_ _) | (with_reducible refine Below.setCell ?_ ?_ _) | (with_reducible refine below_step ?_ (by assumption) ?_) | (with_reducible refine below_step ?_ (below_regrown _ _ _) ?_) | go_size))));))))); refine wpQuiet_nil ?_; intro w1 hw1; have hb := below_of_regrown hw1; clear hw1; obtain ⟨hS, hE, hz, hc, hf⟩ := bcell hb; (try simp only [go_sem] at hE); subst hE))
            go_ret
            exact ⟨by rw [hv4.out]; rfl, HBF.out.trans (by repeat' (first | (with_reducible exact Below.refl _ _) | (with_reducible refine below_drewN ?_ _) | (with_reducible refine Below.drew ?_) | (with_reducible refine Below.alloc ?_ ?_ _) | (with_reducible refine Below.setCell ?_ ?_ _) | (with_reducible refine below_step ?_ (by assumption) ?_) | (with_reducible refine below_step ?_ (below_regrown _ _ _) ?_) | go_size))⟩
end Go.Proofs.YtfckciblnojniaaDoor.Dk
