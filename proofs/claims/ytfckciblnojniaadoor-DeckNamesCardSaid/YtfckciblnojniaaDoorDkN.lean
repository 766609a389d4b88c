/- All parts of a deck, by the reference. No condition. -/
import Derived.Test.YtfckciblnojniaaDoorDkF
import Derived.Test.YtfckciblnojniaaDoorDkM
namespace Go.Proofs.YtfckciblnojniaaDoor.Dk
open Go.ChangeShapes Go.WideShapes Go.ChangeAt Go.RowKit Go.Proofs.YtfckciblnojniaaDoor.Kit Go.Proofs.YtfckciblnojniaaDoor.Flt Go.Proofs.YtfckciblnojniaaDoor.Mem Go.Proofs.YtfckciblnojniaaDoor.Rail Go.Proofs.YtfckciblnojniaaDoor.Mix Go.Deep
set_option linter.unusedVariables false
set_option linter.unusedSimpArgs false
theorem partsFrom_add (kind : Int) : ∀ (l m : List Bx) (u : Nat), partsFrom kind u (l ++ m) = partsFrom kind u l ++ partsFrom kind (u + l.length) m
  | [], m, u => rfl
  | b :: t, m, u => by
    rw [List.cons_append, partsFrom, partsFrom, partsFrom_add kind t m, List.append_assoc, List.length_cons, show u + 1 + t.length = u + (t.length + 1) by omega]
theorem from_next (kind : Int) (l : List Bx) (k : Nat) (h : k < l.length) : partsFrom kind 0 (l.take (k + 1)) = partsFrom kind 0 (l.take k) ++ boxParts kind k (l.getD k default).1.toNat (l.getD k default).2.toNat := by
  have e : l.take (k + 1) = l.take k ++ [l.getD k default] := by
    rw [List.take_add_one, List.getElem?_eq_getElem h, List.getD_eq_getElem?_getD, List.getElem?_eq_getElem h]; rfl
  rw [e, partsFrom_add, Nat.zero_add, List.length_take, Nat.min_eq_left (by omega), partsFrom, partsFrom, List.append_nil]
theorem sumN_take (l : List Bx) (k : Nat) : sumN (l.take k) ≤ sumN l := by
  conv => rhs; rw [← List.take_append_drop k l]
  unfold sumN
  rw [List.map_append, List.sum_append]
  omega
theorem lanes_next (k : Nat) : lanesL (k + 1) = lanesL k ++ [⟨3, (k : Nat), 0, 0⟩] := by
  unfold lanesL
  rw [List.range_succ, List.map_append]
  rfl
theorem lanes_len (k : Nat) : (lanesL k).length = k := by simp [lanesL]
theorem own_drew {w : World} {base n size : Nat} {e : TypeId} {v : Value} {xs : List Value} (h : w.ownsRow base e size v n xs) : w.drew.ownsRow base e size v n xs := own_under h ((Below.refl w.heap.size w).drew) (Nat.le_refl _)
set_option maxHeartbeats 16000000 in
set_option maxRecDepth 20000 in
theorem parts_any {w : World} {B0 : Nat} {D : Dck} (h : DeckI w B0 D) (hB : B0 ≤ w.heap.size) (hl : SmallD D) :
    Calls Tryd.prog 28 #[D.val] w (PtPost w (partsD D)) := by
  obtain ⟨i0, hi0, hz0, hz1, hz2⟩ := info_parts info_part
  have cC : ∀ W, Below w.heap.size w W → Calls Tryd.prog 11 #[D.val] W fun e w' => e = .returned (.int .i64 (chkD D)) ∧ Below W.heap.size W w' :=
    fun W hb => rcheck_deck (h.below hb hB) (by have := hb.size; omega) hl
  by_cases h0 : chkD D = 0
  case neg =>
    have hv : partsD D = [] := if_neg h0
    rw [hv]
    generalize chkD D = e0 at *
    have g1 : (e0 == 0) = false := beq_false_of_ne h0
    have g2 : (e0 != 0) = true := bne_iff_ne.2 h0
    clear h hl hv
    obtain ⟨bA, bc, bs, pA, pc, ps, rA, rc, rs, arms⟩ := D
    unfold Dck.val at cC ⊢
    dsimp only at cC ⊢
    go_enter Tryd.func28, Tryd.ntmps28
    go_wp2_with (first | (go_at_call 11; (with_reducible refine (cC _ (by repeat' (first | (with_reducible exact Below.refl _ _) | (with_reducible refine below_drewN ?_ _) | (with_reducible refine Below.drew ?_) | (with_reducible refine Below.alloc ?_ ?_ _) | (with_reducible refine Below.setCell ?_ ?_ _) | (with_reducible refine below_step ?_ (by assumption) ?_) | (with_reducible refine below_step ?_ (below_regrown _ _ _) ?_) | go_size))).mono ?_); rintro e w1 ⟨rfl, hb⟩; obtain ⟨hS, hE, hz, hc, hf⟩ := bcell hb; (try simp only [go_sem] at hE); subst hE) | ((with_reducible change Code.wp _ (Code.region _ _ _) _ _ _); refine wp_region_quiet_below (by kernel_rfl) (by kernel_rfl) ?_; (repeat (first | go_big_quiet_step ((first | (go_at_call 11; (with_reducible refine Calls.regrown_of (cC _ (by repeat' (first | (with_reducible exact Below.refl _ _) | (with_reducible refine below_drewN ?_ _) | (with_reducible refine Below.drew ?_) | (with_reducible refine Below.alloc ?_ ?_ _) | (with_reducible refine Below.setCell ?_ ?_ _) | (with_reducible refine below_step ?_ (by assumption) ?_) | (with_reducible refine below_step ?_ (below_regrown _ _ _) ?_) | go_size))));))) | quiet_step ((first | (go_at_call 11; (with_reducible refine Calls.regrown_of (cC _ (by repeat' (first | (with_reducible exact Below.refl _ _) | (with_reducible refine below_drewN ?_ _) | (with_reducible refine Below.drew ?_) | (with_reducible refine Below.alloc ?_ ?_ _) | (with_reducible refine Below.setCell ?_ ?_ _) | (with_reducible refine below_step ?_ (by assumption) ?_) | (with_reducible refine below_step ?_ (below_regrown _ _ _) ?_) | go_size))));))))); refine wpQuiet_nil ?_; intro w1 hw1; have hb := below_of_regrown hw1; clear hw1; obtain ⟨hS, hE, hz, hc, hf⟩ := bcell hb; (try simp only [go_sem] at hE); subst hE))
    go_ret
    exact ⟨none, 0, rfl, World.ownsRow_nil _ _ _ _, (by repeat' (first | (with_reducible exact Below.refl _ _) | (with_reducible refine below_drewN ?_ _) | (with_reducible refine Below.drew ?_) | (with_reducible refine Below.alloc ?_ ?_ _) | (with_reducible refine Below.setCell ?_ ?_ _) | (with_reducible refine below_step ?_ (by assumption) ?_) | (with_reducible refine below_step ?_ (below_regrown _ _ _) ?_) | go_size))⟩
  have hv : partsD D = partsFrom 1 0 (D.ps.map Plt.box) ++ partsFrom 2 0 (D.rs.map Rck.box) ++ lanesL (D.bs.length - 1) := if_pos h0
  rw [hv]
  rw [h0] at cC
  have hg := good_of h0
  have AP := hide (allmay_P hg.gp)
  have AR := hide (allmay_R hg.gr)
  have hp4 := hg.p4
  have hr4 := hg.r4
  have hb2 := hg.b2
  have hb25 := hg.b25
  have hsp := hg.sp
  have hsr := hg.sr
  have HPS := hide h.ps
  have HRS := hide h.rs
  clear h hl hg hv h0
  obtain ⟨bA, bc, bs, pA, pc, ps, rA, rc, rs, arms⟩ := D
  unfold Dck.val at cC ⊢
  unfold PtPost
  dsimp only at cC hp4 hr4 hb2 hb25 hsp hsr HPS HRS AP AR ⊢
  have HMP := hide (fun k hk => map_box ps k hk (⟨0, 0, 0, 0, 0, 0, none, 0, []⟩ : Plt))
  have HMR := hide (fun k hk => map_boxR rs k hk (⟨0, 0, 0, 0, 0⟩ : Rck))
  have hlp : (ps.map Plt.box).length = ps.length := List.length_map _
  have hlr : (rs.map Rck.box).length = rs.length := List.length_map _
  generalize ps.map Plt.box = pb at *
  generalize rs.map Rck.box = rb at *
  obtain ⟨nb, hnb⟩ : ∃ nb, bs.length = nb + 1 := ⟨bs.length - 1, by omega⟩
  have hnb2 : bs.length - 1 = nb := by omega
  rw [hnb2]
  have hn1 : ((bs.length : Nat) : Int) - 1 = (nb : Int) := by omega
  have hnb24 : nb ≤ 24 := by omega
  clear hnb2 hnb hb2 hb25
  have HP1 : Hid ((partsFrom 1 0 pb).length ≤ 384) := hide (by rw [partsFrom_len]; omega)
  have HP2 : Hid ((partsFrom 2 0 rb).length ≤ 384) := hide (by rw [partsFrom_len]; omega)
  have HSP := hide hsp
  have HSR := hide hsr
  clear hsp hsr
  go_enter Tryd.func28, Tryd.ntmps28
  go_wp2_with (first | (go_at_call 11; (with_reducible refine (cC _ (by repeat' (first | (with_reducible exact Below.refl _ _) | (with_reducible refine below_drewN ?_ _) | (with_reducible refine Below.drew ?_) | (with_reducible refine Below.alloc ?_ ?_ _) | (with_reducible refine Below.setCell ?_ ?_ _) | (with_reducible refine below_step ?_ (by assumption) ?_) | (with_reducible refine below_step ?_ (below_regrown _ _ _) ?_) | go_size))).mono ?_); rintro e w1 ⟨rfl, hb⟩; obtain ⟨hS, hE, hz, hc, hf⟩ := bcell hb; (try simp only [go_sem] at hE); subst hE) | ((with_reducible change Code.wp _ (Code.region _ _ _) _ _ _); refine wp_region_quiet_below (by kernel_rfl) (by kernel_rfl) ?_; (repeat (first | go_big_quiet_step ((first | (go_at_call 11; (with_reducible refine Calls.regrown_of (cC _ (by repeat' (first | (with_reducible exact Below.refl _ _) | (with_reducible refine below_drewN ?_ _) | (with_reducible refine Below.drew ?_) | (with_reducible refine Below.alloc ?_ ?_ _) | (with_reducible refine Below.setCell ?_ ?_ _) | (with_reducible refine below_step ?_ (by assumption) ?_) | (with_reducible refine below_step ?_ (below_regrown _ _ _) ?_) | go_size))));))) | quiet_step ((first | (go_at_call 11; (with_reducible refine Calls.regrown_of (cC _ (by repeat' (first | (with_reducible exact Below.refl _ _) | (with_reducible refine below_drewN ?_ _) | (with_reducible refine Below.drew ?_) | (with_reducible refine Below.alloc ?_ ?_ _) | (with_reducible refine Below.setCell ?_ ?_ _) | (with_reducible refine below_step ?_ (by assumption) ?_) | (with_reducible refine below_step ?_ (below_regrown _ _ _) ?_) | go_size))));))))); refine wpQuiet_nil ?_; intro w1 hw1; have hb := below_of_regrown hw1; clear hw1; obtain ⟨hS, hE, hz, hc, hf⟩ := bcell hb; (try simp only [go_sem] at hE); subst hE))
  have hbw0 : Below (w.heap.size + 1) (w.alloc (.cells #[.slice bA bs.length bc, .slice pA ps.length pc, .slice rA rs.length rc, .int .i64 arms] 26)) w1 := Below.mono (show Below _ _ w1 from by assumption) (by simp)
  have hws : w.heap.size + 1 ≤ w1.heap.size := by omega
  have HB1 : Hid (Below w.heap.size w w1) := hide (by have h := (Below.refl w.heap.size w).alloc (Nat.le_refl _) (.cells #[.slice bA bs.length bc, .slice pA ps.length pc, .slice rA rs.length rc, .int .i64 arms] 26); exact h.trans (hbw0.mono (by omega)))
  have q0 : w1.cell? ⟨w.heap.size, 0, none⟩ = some (.slice bA bs.length bc) := by go_simp
  have q1 : w1.cell? ⟨w.heap.size, 1, none⟩ = some (.slice pA ps.length pc) := by go_simp
  have q2 : w1.cell? ⟨w.heap.size, 2, none⟩ = some (.slice rA rs.length rc) := by go_simp
  go_loopw [3, 4] (fun o i wr => (∃ (k : Nat) (X : List Pt) (A2 : Option Addr) (c2 : Nat), k ≤ ps.length ∧ Hid (X = partsFrom 1 0 (pb.take k)) ∧ o = .slice A2 X.length c2 ∧ i = .int .i64 k ∧ Hid (wr.ownsRow (w.heap.size + 1) 34 4 (.slice A2 X.length c2) X.length (SV encPt X)) ∧ Below (w.heap.size + 1) w1 wr)) (fun _ i _ => ps.length - (intOf i).toNat)
  case atStart => exact ⟨0, [], none, 0, Nat.zero_le _, hide rfl, rfl, rfl, hide (World.ownsRow_nil _ _ _ _), Below.refl _ _⟩
  case round =>
    obtain ⟨k, X, A2, c2, hk, HX, rfl, rfl, HO, hbr⟩ := hrel
    have hzr := hbr.size
    have HBR := hide hbr
    have p0 := (hbr.cell (p := ⟨w.heap.size, 0, none⟩) (by simp)).trans q0
    have p1 := (hbr.cell (p := ⟨w.heap.size, 1, none⟩) (by simp)).trans q1
    have p2 := (hbr.cell (p := ⟨w.heap.size, 2, none⟩) (by simp)).trans q2
    have hXl : X.length ≤ 384 := by rw [HX.out, partsFrom_len]; exact Nat.le_trans (sumN_take _ _) HSP.out
    have hwr : w.heap.size + 1 ≤ wr.heap.size := by omega
    have HBE : Hid (Below w.heap.size w wr) := hide (HB1.out.trans (hbr.mono (by omega)))
    clear hbr
    by_cases hlt : k < ps.length
    · obtain ⟨b, off, rfl, hbB, hcell⟩ := plt_cells HPS.out (by omega) (⟨0, 0, 0, 0, 0, 0, none, 0, []⟩ : Plt)
      obtain ⟨d0, d1, -⟩ := hcell k hlt
      have HN := hide (from_next 1 pb k (by omega))
      have hm := may_iff.1 (AP.out k (by omega))
      rw [HMP.out k hlt] at HN hm
      have d0 := (HBE.out.cell (p := ⟨b, off + k * 7, none⟩) (by dsimp only; omega)).trans d0
      have d1 := (HBE.out.cell (p := ⟨b, off + k * 7 + 1, none⟩) (by dsimp only; omega)).trans d1
      have hbr : b < wr.heap.size := by omega
      have hbr2 : b < w.heap.size + 1 := by omega
      clear hcell
      generalize ps.getD k (⟨0, 0, 0, 0, 0, 0, none, 0, []⟩ : Plt) = q at *
      obtain ⟨r, cc, x, y, z, cap, qA, kk, l⟩ := q
      dsimp only at d0 d1 HN hm
      obtain ⟨m1, m2, m3, m4⟩ := hm
      obtain ⟨a, rfl⟩ := Int.eq_ofNat_of_zero_le (show 0 ≤ r by omega)
      obtain ⟨b9, rfl⟩ := Int.eq_ofNat_of_zero_le (show 0 ≤ cc by omega)
      have hab : a * b9 ≤ 32 * 48 := Nat.mul_le_mul (by omega) (by omega)
      rw [Int.toNat_natCast, Int.toNat_natCast] at HN
      go_wp2_with fail
      (refine wp_region_mix 16 [0, 1, 2, 3, 4, 5, 6, 7, 8, 9, 10, 11, 12, 13] [14, 15] (fun w' => Below (w.heap.size + 1) wr w') (by kernel_rfl) (by kernel_rfl) ((Below.refl _ _).drew) ?_; simp only [opsOf, List.filterMap_cons, List.filterMap_nil, List.getElem?_toArray, List.getElem?_cons_zero, List.getElem?_cons_succ]; (repeat (refine wpPure_any (fun K hK => ?_); go_simp; refine hK _ ?_; clear hK K)); (refine wpPure_val (.slice (some ⟨b, off, none⟩) ps.length pc) rfl (fun w' hw => by obtain ⟨hS, hE, hz, hc, hf⟩ := bcellB hw; (try simp only [go_sem] at hE); subst hE; go_simp) ?_); (repeat (refine wpPure_any (fun K hK => ?_); go_simp; refine hK _ ?_; clear hK K)); (refine wpPure_val (.int .i64 a) rfl (fun w' hw => by obtain ⟨hS, hE, hz, hc, hf⟩ := bcellB hw; (try simp only [go_sem] at hE); subst hE; go_simp) ?_); (repeat (refine wpPure_any (fun K hK => ?_); go_simp; refine hK _ ?_; clear hK K)); (refine wpPure_val (.slice (some ⟨b, off, none⟩) ps.length pc) rfl (fun w' hw => by obtain ⟨hS, hE, hz, hc, hf⟩ := bcellB hw; (try simp only [go_sem] at hE); subst hE; go_simp) ?_); (repeat (refine wpPure_any (fun K hK => ?_); go_simp; refine hK _ ?_; clear hK K)); (refine wpPure_val (.int .i64 b9) rfl (fun w' hw => by obtain ⟨hS, hE, hz, hc, hf⟩ := bcellB hw; (try simp only [go_sem] at hE); subst hE; go_simp) ?_); (repeat (refine wpPure_any (fun K hK => ?_); go_simp; refine hK _ ?_; clear hK K)); refine wpPure_nil ?_)
      (have hd : Below (w.heap.size + 1) wr wr.drew := (Below.refl _ _).drew; have hzd : wr.drew.heap.size = wr.heap.size := rfl; refine wpMid_call rfl (f := 46) (args := #[.int .i64 1, .int .i64 k, .int .i64 a, .int .i64 b9]) (by go_simp) ?_; refine (places_any 1 k a b9 (by omega) (by omega) wr.drew).mono ?_; rintro e w5 ⟨A5, c5, rfl, ho5, hb5⟩; have hr5 := srow_of_own encPt_len (by decide) ho5; clear ho5; have h5 : Below (w.heap.size + 1) wr w5 := hd.trans (hb5.mono (by rw [hzd]; omega)); have hz5 := h5.size; refine ⟨_, rfl, h5, ?_⟩; rw [boxParts_len] at hr5 ⊢; have own5 := own_under (own_drew HO.out) hb5 (Nat.le_refl _); have hsz := sized_ownP own5; obtain ⟨A6, c6, w6, hrun, own6, grow6, bel6, hn6, hm6⟩ := run_append_srow (P := Tryd.prog) w5 encPt_len encPt_one (by decide) (w.heap.size + 1) 53 53 34 i0 _ 32 Tryd.underlying53 hi0 hz0 hz1 hz2 rfl A2 X.length c2 X own5 _ A5 (a * b9) c5 (boxParts 1 k a b9) hr5 (by unfold maxLen; omega) (by omega) (by omega); have h6 := h5.trans bel6; refine wpMid_append rfl (.tmp 18) (.tmp 32) 53 rfl (.slice A2 X.length c2) (.slice A5 (a * b9) c5) (.slice A6 (X.length + a * b9) c6) rfl rfl hrun h6 ?_; refine wpMid_nil ?_; simp only [List.drop_succ_cons, List.drop_zero]; have HO6 := hide own6; have HB6 := hide (HBR.out.trans h6); have HLn : Hid (X.length + a * b9 = (X ++ boxParts 1 k a b9).length) := hide (by rw [List.length_append, boxParts_len]); clear hd hzd h5 hz5 hb5 hr5 own5 hsz hrun own6 grow6 bel6 hn6 hm6 h6)
      go_wp2_with fail
      exact ⟨⟨k + 1, X ++ boxParts 1 k a b9, A6, c6, by omega, hide (by rw [HN.out, HX.out]), by rw [← HLn.out], by go_num, hide (by rw [← HLn.out]; exact HO6.out), HB6.out⟩, by simp [intOf]; omega⟩
    · obtain rfl : k = ps.length := by omega
      go_wp2_with fail
      obtain ⟨wv, rfl⟩ : ∃ wv : World, wv = wr := ⟨_, rfl⟩
      go_loopw [3, 5] (fun o i wr => (∃ (k : Nat) (X : List Pt) (A2 : Option Addr) (c2 : Nat), k ≤ rs.length ∧ Hid (X = partsFrom 1 0 pb ++ partsFrom 2 0 (rb.take k)) ∧ o = .slice A2 X.length c2 ∧ i = .int .i64 k ∧ Hid (wr.ownsRow (w.heap.size + 1) 34 4 (.slice A2 X.length c2) X.length (SV encPt X)) ∧ Below (w.heap.size + 1) w1 wr)) (fun _ i _ => rs.length - (intOf i).toNat)
      case atStart => exact ⟨0, X, A2, c2, Nat.zero_le _, hide (by rw [HX.out, List.take_of_length_le (by omega)]; simp [partsFrom]), rfl, rfl, HO, HBR.out⟩
      case round =>
        clear HX HO HBR hzr hwr HBE p0 p1 p2 hXl hk
        obtain ⟨k, X, A2, c2, hk, HX, rfl, rfl, HO, hbr⟩ := hrel
        have hzr := hbr.size
        have HBR := hide hbr
        have p0 := (hbr.cell (p := ⟨w.heap.size, 0, none⟩) (by simp)).trans q0
        have p1 := (hbr.cell (p := ⟨w.heap.size, 1, none⟩) (by simp)).trans q1
        have p2 := (hbr.cell (p := ⟨w.heap.size, 2, none⟩) (by simp)).trans q2
        have hXl : X.length ≤ 768 := by rw [HX.out, List.length_append, partsFrom_len 2]; have := Nat.le_trans (sumN_take rb k) HSR.out; have := HP1.out; omega
        have hwr : w.heap.size + 1 ≤ wr.heap.size := by omega
        have HBE : Hid (Below w.heap.size w wr) := hide (HB1.out.trans (hbr.mono (by omega)))
        clear hbr
        by_cases hlt : k < rs.length
        · obtain ⟨b, off, rfl, hbB, hcell⟩ := rck_cells HRS.out (by omega) (⟨0, 0, 0, 0, 0⟩ : Rck)
          obtain ⟨d0, d1, -⟩ := hcell k hlt
          have HN := hide (from_next 2 rb k (by omega))
          have hm := may_iff.1 (AR.out k (by omega))
          rw [HMR.out k hlt] at HN hm
          have d0 := (HBE.out.cell (p := ⟨b, off + k * 5, none⟩) (by dsimp only; omega)).trans d0
          have d1 := (HBE.out.cell (p := ⟨b, off + k * 5 + 1, none⟩) (by dsimp only; omega)).trans d1
          have hbr : b < wr.heap.size := by omega
          have hbr2 : b < w.heap.size + 1 := by omega
          clear hcell
          generalize rs.getD k (⟨0, 0, 0, 0, 0⟩ : Rck) = q at *
          obtain ⟨r, cc, x, y, z⟩ := q
          dsimp only at d0 d1 HN hm
          obtain ⟨m1, m2, m3, m4⟩ := hm
          obtain ⟨a, rfl⟩ := Int.eq_ofNat_of_zero_le (show 0 ≤ r by omega)
          obtain ⟨b9, rfl⟩ := Int.eq_ofNat_of_zero_le (show 0 ≤ cc by omega)
          have hab : a * b9 ≤ 32 * 48 := Nat.mul_le_mul (by omega) (by omega)
          rw [Int.toNat_natCast, Int.toNat_natCast] at HN
          go_wp2_with fail
          (refine wp_region_mix 16 [0, 1, 2, 3, 4, 5, 6, 7, 8, 9, 10, 11, 12, 13] [14, 15] (fun w' => Below (w.heap.size + 1) wr w') (by kernel_rfl) (by kernel_rfl) ((Below.refl _ _).drew) ?_; simp only [opsOf, List.filterMap_cons, List.filterMap_nil, List.getElem?_toArray, List.getElem?_cons_zero, List.getElem?_cons_succ]; (repeat (refine wpPure_any (fun K hK => ?_); go_simp; refine hK _ ?_; clear hK K)); (refine wpPure_val (.slice (some ⟨b, off, none⟩) rs.length rc) rfl (fun w' hw => by obtain ⟨hS, hE, hz, hc, hf⟩ := bcellB hw; (try simp only [go_sem] at hE); subst hE; go_simp) ?_); (repeat (refine wpPure_any (fun K hK => ?_); go_simp; refine hK _ ?_; clear hK K)); (refine wpPure_val (.int .i64 a) rfl (fun w' hw => by obtain ⟨hS, hE, hz, hc, hf⟩ := bcellB hw; (try simp only [go_sem] at hE); subst hE; go_simp) ?_); (repeat (refine wpPure_any (fun K hK => ?_); go_simp; refine hK _ ?_; clear hK K)); (refine wpPure_val (.slice (some ⟨b, off, none⟩) rs.length rc) rfl (fun w' hw => by obtain ⟨hS, hE, hz, hc, hf⟩ := bcellB hw; (try simp only [go_sem] at hE); subst hE; go_simp) ?_); (repeat (refine wpPure_any (fun K hK => ?_); go_simp; refine hK _ ?_; clear hK K)); (refine wpPure_val (.int .i64 b9) rfl (fun w' hw => by obtain ⟨hS, hE, hz, hc, hf⟩ := bcellB hw; (try simp only [go_sem] at hE); subst hE; go_simp) ?_); (repeat (refine wpPure_any (fun K hK => ?_); go_simp; refine hK _ ?_; clear hK K)); refine wpPure_nil ?_)
          (have hd : Below (w.heap.size + 1) wr wr.drew := (Below.refl _ _).drew; have hzd : wr.drew.heap.size = wr.heap.size := rfl; refine wpMid_call rfl (f := 46) (args := #[.int .i64 2, .int .i64 k, .int .i64 a, .int .i64 b9]) (by go_simp) ?_; refine (places_any 2 k a b9 (by omega) (by omega) wr.drew).mono ?_; rintro e w5 ⟨A5, c5, rfl, ho5, hb5⟩; have hr5 := srow_of_own encPt_len (by decide) ho5; clear ho5; have h5 : Below (w.heap.size + 1) wr w5 := hd.trans (hb5.mono (by rw [hzd]; omega)); have hz5 := h5.size; refine ⟨_, rfl, h5, ?_⟩; rw [boxParts_len] at hr5 ⊢; have own5 := own_under (own_drew HO.out) hb5 (Nat.le_refl _); have hsz := sized_ownP own5; obtain ⟨A6, c6, w6, hrun, own6, grow6, bel6, hn6, hm6⟩ := run_append_srow (P := Tryd.prog) w5 encPt_len encPt_one (by decide) (w.heap.size + 1) 53 53 34 i0 _ 32 Tryd.underlying53 hi0 hz0 hz1 hz2 rfl A2 X.length c2 X own5 _ A5 (a * b9) c5 (boxParts 2 k a b9) hr5 (by unfold maxLen; omega) (by omega) (by omega); have h6 := h5.trans bel6; refine wpMid_append rfl (.tmp 41) (.tmp 55) 53 rfl (.slice A2 X.length c2) (.slice A5 (a * b9) c5) (.slice A6 (X.length + a * b9) c6) rfl rfl hrun h6 ?_; refine wpMid_nil ?_; simp only [List.drop_succ_cons, List.drop_zero]; have HO6 := hide own6; have HB6 := hide (HBR.out.trans h6); have HLn : Hid (X.length + a * b9 = (X ++ boxParts 2 k a b9).length) := hide (by rw [List.length_append, boxParts_len]); clear hd hzd h5 hz5 hb5 hr5 own5 hsz hrun own6 grow6 bel6 hn6 hm6 h6)
          go_wp2_with fail
          exact ⟨⟨k + 1, X ++ boxParts 2 k a b9, A6, c6, by omega, hide (by rw [HN.out, HX.out, List.append_assoc]), by rw [← HLn.out], by go_num, hide (by rw [← HLn.out]; exact HO6.out), HB6.out⟩, by simp [intOf]; omega⟩
        · obtain rfl : k = rs.length := by omega
          go_wp2_with fail
          obtain ⟨wv, rfl⟩ : ∃ wv : World, wv = wr := ⟨_, rfl⟩
          go_loopw [3, 6] (fun o i wr => (∃ (k : Nat) (X : List Pt) (A2 : Option Addr) (c2 : Nat), k ≤ nb ∧ Hid (X = partsFrom 1 0 pb ++ partsFrom 2 0 rb ++ lanesL k) ∧ o = .slice A2 X.length c2 ∧ i = .int .i64 k ∧ Hid (wr.ownsRow (w.heap.size + 1) 34 4 (.slice A2 X.length c2) X.length (SV encPt X)) ∧ Below (w.heap.size + 1) w1 wr)) (fun _ i _ => nb - (intOf i).toNat)
          case atStart => exact ⟨0, X, A2, c2, Nat.zero_le _, hide (by rw [HX.out, List.take_of_length_le (by omega)]; simp [lanesL]), rfl, rfl, HO, HBR.out⟩
          case round =>
            clear HX HO HBR hzr hwr HBE p0 p1 p2 hXl hk
            obtain ⟨k, X, A2, c2, hk, HX, rfl, rfl, HO, hbr⟩ := hrel
            have hzr := hbr.size
            have HBR := hide hbr
            have p0 := (hbr.cell (p := ⟨w.heap.size, 0, none⟩) (by simp)).trans q0
            have p1 := (hbr.cell (p := ⟨w.heap.size, 1, none⟩) (by simp)).trans q1
            have p2 := (hbr.cell (p := ⟨w.heap.size, 2, none⟩) (by simp)).trans q2
            have hXl : X.length ≤ 1000 := by rw [HX.out, List.length_append, List.length_append, lanes_len]; have := HP2.out; have := HP1.out; omega
            have hwr : w.heap.size + 1 ≤ wr.heap.size := by omega
            have HBE : Hid (Below w.heap.size w wr) := hide (HB1.out.trans (hbr.mono (by omega)))
            clear hbr
            by_cases hlt : k < nb
            · have HR1 : Hid (SRow encPt 4 (wr.alloc (.cells #[.int .i64 3, .int .i64 k, .int .i64 0, .int .i64 0] 34)) (wr.heap.size + 1) (some ⟨wr.heap.size, 0, none⟩) 1 [⟨3, (k : Nat), 0, 0⟩]) := hide (srow_one encPt_len wr ⟨3, (k : Nat), 0, 0⟩ 34)
              have hsz := sized_ownP HO.out
              have HN := hide (lanes_next k)
              have HLn : Hid (X.length + 1 = (X ++ [(⟨3, (k : Nat), 0, 0⟩ : Pt)]).length) := hide (by simp)
              go_wp2_with (at_builtin; go_loud (refine wp_append_srow (wr.alloc (.cells #[.int .i64 3, .int .i64 k, .int .i64 0, .int .i64 0] 34)) rfl (.tmp 65) (.tmp 68) 53 rfl encPt_len encPt_one (by decide) (w.heap.size + 1) 34 i0 _ 32 Tryd.underlying53 hi0 hz0 hz1 hz2 rfl A2 X.length c2 X rfl (HO.out.alloc _) _ _ 1 1 [⟨3, (k : Nat), 0, 0⟩] rfl HR1.out (by unfold maxLen; omega) (by omega) (by simp; omega) ?_); intro A5 c5 w5 hown5 hgrow5 hbel5 hcap5 hcm5)
              exact ⟨⟨k + 1, X ++ [(⟨3, (k : Nat), 0, 0⟩ : Pt)], A5, c5, by omega, hide (by rw [HN.out, HX.out, List.append_assoc]), by rw [← HLn.out], by go_num, hide (by rw [← HLn.out]; exact hown5), (HBR.out.alloc hwr _).trans hbel5⟩, by simp [intOf]; omega⟩
            · obtain rfl : k = nb := by omega
              have HO5 := hide (own_down (base' := w.heap.size) HO.out (by omega))
              go_wp2_with fail
              go_ret
              exact ⟨A2, c2, by rw [← HX.out]; rfl, by rw [← HX.out]; exact HO5.out, HBE.out⟩
end Go.Proofs.YtfckciblnojniaaDoor.Dk
