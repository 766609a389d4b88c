/- A deck that is right; how many parts it has. No condition. -/
import Derived.Test.YtfckciblnojniaaDoorDkE
import Derived.Test.YtfckciblnojniaaDoorMix
namespace Go.Proofs.YtfckciblnojniaaDoor.Dk
open Go.ChangeShapes Go.WideShapes Go.ChangeAt Go.RowKit Go.Proofs.YtfckciblnojniaaDoor.Kit Go.Proofs.YtfckciblnojniaaDoor.Flt Go.Proofs.YtfckciblnojniaaDoor.Mem Go.Proofs.YtfckciblnojniaaDoor.Rail Go.Proofs.YtfckciblnojniaaDoor.Mix Go.Deep
set_option linter.unusedVariables false
set_option linter.unusedSimpArgs false
/-- What a deck without a fault is. -/
structure GoodD (D : Dck) : Prop where
  b2 : 2 ≤ D.bs.length
  b25 : D.bs.length ≤ 25
  p4 : D.ps.length ≤ 4
  r4 : D.rs.length ≤ 4
  gp : D.ps.all goodP = true
  gr : D.rs.all goodR = true
  sp : sumN (D.ps.map Plt.box) ≤ 384
  sr : sumN (D.rs.map Rck.box) ≤ 384
theorem good_of {D : Dck} (h : chkD D = 0) : GoodD D := by
  unfold chkD at h
  by_cases h0 : chkS D.bs = 0
  case neg => rw [if_pos h0] at h; exact absurd h h0
  rw [if_neg (by simpa using h0)] at h
  by_cases h1 : D.arms < 1 ∨ 8 < D.arms
  · rw [if_pos h1] at h; omega
  rw [if_neg h1] at h
  by_cases h2 : 4 < D.ps.length ∨ 4 < D.rs.length
  · rw [if_pos h2] at h; omega
  rw [if_neg h2] at h
  unfold chkT at h
  by_cases h3 : D.ps.all goodP = false
  · rw [if_pos h3] at h; omega
  rw [if_neg h3] at h
  unfold chkU at h
  by_cases h4 : D.rs.all goodR = false
  · rw [if_pos h4] at h; omega
  rw [if_neg h4] at h
  unfold chkV at h
  by_cases h5 : overB D = true
  · rw [if_pos h5] at h; omega
  have h6 : overB D = false := by simpa using h5
  unfold overB at h6
  rw [Bool.or_eq_false_iff, decide_eq_false_iff_not, decide_eq_false_iff_not] at h6
  have hb : 2 ≤ D.bs.length ∧ D.bs.length ≤ 25 := by
    unfold chkS at h0
    by_cases g1 : D.bs.length < 2
    · rw [if_pos g1] at h0; omega
    rw [if_neg g1] at h0
    by_cases g2 : 25 < D.bs.length
    · rw [if_pos g2] at h0; omega
    omega
  exact ⟨hb.1, hb.2, by omega, by omega, by simpa using h3, by simpa using h4, by omega, by omega⟩
def nW (D : Dck) : Nat := if chkD D = 0 then sumN (D.ps.map Plt.box) else 0
def nT (D : Dck) : Nat := if chkD D = 0 then sumN (D.rs.map Rck.box) else 0
def nL (D : Dck) : Nat := if chkD D = 0 then D.bs.length - 1 else 0
theorem plates_full {w : World} {B0 : Nat} {D : Dck} (h : DeckI w B0 D) (hB : B0 ≤ w.heap.size) (hg : GoodD D) :
    ∀ W, Below w.heap.size w W → Calls Tryd.prog 26 #[D.val] W fun e w' => ∃ A c, e = .returned (.slice A D.ps.length c) ∧ SRow encB 2 w' w'.heap.size A D.ps.length (D.ps.map Plt.box) ∧ Below W.heap.size W w' ∧ D.ps.length ≤ c := by
  intro W hb
  have h := plates_own (h.below hb hB) (by have := hb.size; omega) (Nat.le_trans hg.p4 (by decide))
  unfold BxPost2 at h
  rw [List.length_map] at h
  exact h
theorem racks_full {w : World} {B0 : Nat} {D : Dck} (h : DeckI w B0 D) (hB : B0 ≤ w.heap.size) (hg : GoodD D) :
    ∀ W, Below w.heap.size w W → Calls Tryd.prog 27 #[D.val] W fun e w' => ∃ A c, e = .returned (.slice A D.rs.length c) ∧ SRow encB 2 w' w'.heap.size A D.rs.length (D.rs.map Rck.box) ∧ Below W.heap.size W w' ∧ D.rs.length ≤ c := by
  intro W hb
  have h := racks_own (h.below hb hB) (by have := hb.size; omega) (Nat.le_trans hg.r4 (by decide))
  unfold BxPost2 at h
  rw [List.length_map] at h
  exact h
theorem plates_at {w : World} {B0 : Nat} {D : Dck} (h : DeckI w B0 D) (hB : B0 ≤ w.heap.size) (hg : GoodD D) :
    ∀ W, Below w.heap.size w W → Calls Tryd.prog 26 #[D.val] W fun e w' => ∃ A c, e = .returned (.slice A D.ps.length c) ∧ SRow encB 2 w' w'.heap.size A D.ps.length (D.ps.map Plt.box) ∧ Below W.heap.size W w' :=
  fun W hb => (plates_full h hB hg W hb).mono fun _ _ ⟨A, c, h1, h2, h3, _⟩ => ⟨A, c, h1, h2, h3⟩
theorem racks_at {w : World} {B0 : Nat} {D : Dck} (h : DeckI w B0 D) (hB : B0 ≤ w.heap.size) (hg : GoodD D) :
    ∀ W, Below w.heap.size w W → Calls Tryd.prog 27 #[D.val] W fun e w' => ∃ A c, e = .returned (.slice A D.rs.length c) ∧ SRow encB 2 w' w'.heap.size A D.rs.length (D.rs.map Rck.box) ∧ Below W.heap.size W w' :=
  fun W hb => (racks_full h hB hg W hb).mono fun _ _ ⟨A, c, h1, h2, h3, _⟩ => ⟨A, c, h1, h2, h3⟩
theorem sum_at {W : World} {l : List Bx} {n : Nat} (hn : n ≤ 4) (hm : AllMay l) {A : Option Addr} {c : Nat} (hr : SRow encB 2 W W.heap.size A n l) :
    Calls Tryd.prog 25 #[.slice A n c] W fun e w' => e = .returned (.int .i64 (sumN l : Nat)) ∧ Below W.heap.size W w' :=
  sum_any hr (Nat.le_refl _) (Nat.le_trans hn (by decide)) hm
theorem row_on {W W' : World} {l : List Bx} {n : Nat} {A : Option Addr} (hr : SRow encB 2 W W.heap.size A n l) (hb : Below W.heap.size W W') : SRow encB 2 W' W'.heap.size A n l :=
  srow_more (srow_below hr hb (Nat.le_refl _)) hb.size
set_option maxHeartbeats 8000000 in
set_option maxRecDepth 20000 in
theorem counts_any {w : World} {B0 : Nat} {D : Dck} (h : DeckI w B0 D) (hB : B0 ≤ w.heap.size) (hl : SmallD D) :
    Calls Tryd.prog 8 #[D.val] w fun e w' => e = .returned (.tuple #[.int .i64 (nW D : Nat), .int .i64 (nT D : Nat), .int .i64 (nL D : Nat)]) ∧ Below w.heap.size w w' := by
  have hb0 : Below w.heap.size w (w.alloc (.cells #[.slice D.bA D.bs.length D.bc, .slice D.pA D.ps.length D.pc, .slice D.rA D.rs.length D.rc, .int .i64 D.arms] 26)) := (Below.refl _ _).alloc (Nat.le_refl _) _
  have cC := check_deck (h.below hb0 hB) (by have := hb0.size; omega) hl
  clear hb0
  by_cases h0 : chkD D = 0
  case neg =>
    have v1 : nW D = 0 := if_neg h0
    have v2 : nT D = 0 := if_neg h0
    have v3 : nL D = 0 := if_neg h0
    rw [v1, v2, v3]
    clear v1 v2 v3
    generalize chkD D = e0 at cC h0
    have g1 : (e0 == 0) = false := beq_false_of_ne h0
    have g2 : (e0 != 0) = true := bne_iff_ne.2 h0
    clear h
    obtain ⟨bA, bc, bs, pA, pc, ps, rA, rc, rs, arms⟩ := D
    unfold Dck.val at cC ⊢
    dsimp only at cC ⊢
    go_enter Tryd.func8, Tryd.ntmps8
    go_wp2_with (first | (go_at_call 10; refine (cC).mono ?_; rintro e w1 ⟨rfl, hb⟩; obtain ⟨hS, hE, hz, hc, hf⟩ := bcell hb; (try simp only [go_sem] at hE); subst hE) | ((with_reducible change Code.wp _ (Code.region _ _ _) _ _ _); refine wp_region_quiet_below (by kernel_rfl) (by kernel_rfl) ?_; (repeat (first | go_big_quiet_step ((first | (go_at_call 10; exact Calls.regrown_of (cC)))) | quiet_step ((first | (go_at_call 10; exact Calls.regrown_of (cC)))))); refine wpQuiet_nil ?_; intro w1 hw1; have hb := below_of_regrown hw1; clear hw1; obtain ⟨hS, hE, hz, hc, hf⟩ := bcell hb; (try simp only [go_sem] at hE); subst hE))
    refine bodyPost_ret (v := .tuple #[.int .i64 0, .int .i64 0, .int .i64 0]) ?_ rfl ⟨rfl, (by repeat' (first | (with_reducible exact Below.refl _ _) | (with_reducible refine below_drewN ?_ _) | (with_reducible refine Below.drew ?_) | (with_reducible refine Below.alloc ?_ ?_ _) | (with_reducible refine Below.setCell ?_ ?_ _) | (with_reducible refine below_step ?_ (by assumption) ?_) | (with_reducible refine below_step ?_ (below_regrown _ _ _) ?_) | go_size))⟩
    simp only [results, Tryd.results8]
    go_simp
  have hg := good_of h0
  have v1 : nW D = sumN (D.ps.map Plt.box) := if_pos h0
  have v2 : nT D = sumN (D.rs.map Rck.box) := if_pos h0
  have v3 : nL D = D.bs.length - 1 := if_pos h0
  have hb2 := hg.b2
  have hb25 := hg.b25
  have hp4 := hg.p4
  have hr4 := hg.r4
  have AP := allmay_P hg.gp
  have AR := allmay_R hg.gr
  have HP := plates_at h hB hg
  have HQ := racks_at h hB hg
  rw [v1, v2, v3]
  rw [h0] at cC
  clear h v1 v2 v3 hg h0 hl
  obtain ⟨bA, bc, bs, pA, pc, ps, rA, rc, rs, arms⟩ := D
  unfold Dck.val at cC HP HQ ⊢
  dsimp only at cC HP HQ hb2 hb25 hp4 hr4 AP AR ⊢
  generalize hPB : ps.map Plt.box = pb at *
  generalize hRB : rs.map Rck.box = rb at *
  have cP := fun (W : World) (A : Option Addr) (c : Nat) (hr : SRow encB 2 W W.heap.size A ps.length pb) => sum_at (c := c) hp4 AP hr
  have cR := fun (W : World) (A : Option Addr) (c : Nat) (hr : SRow encB 2 W W.heap.size A rs.length rb) => sum_at (c := c) hr4 AR hr
  have f3 : ((bs.length : Nat) : Int) - 1 = ((bs.length - 1 : Nat) : Int) := by omega
  generalize sumN pb = n1 at *
  generalize sumN rb = n2 at *
  clear hPB hRB
  go_enter Tryd.func8, Tryd.ntmps8
  go_wp2_with (first | (go_at_call 10; refine (cC).mono ?_; rintro e w1 ⟨rfl, hb⟩; obtain ⟨hS, hE, hz, hc, hf⟩ := bcell hb; (try simp only [go_sem] at hE); subst hE) | ((with_reducible change Code.wp _ (Code.region _ _ _) _ _ _); refine wp_region_quiet_below (by kernel_rfl) (by kernel_rfl) ?_; (repeat (first | go_big_quiet_step ((first | (go_at_call 10; exact Calls.regrown_of (cC)))) | quiet_step ((first | (go_at_call 10; exact Calls.regrown_of (cC)))))); refine wpQuiet_nil ?_; intro w1 hw1; have hb := below_of_regrown hw1; clear hw1; obtain ⟨hS, hE, hz, hc, hf⟩ := bcell hb; (try simp only [go_sem] at hE); subst hE))
  have HB1 := hide (show Below w.heap.size w w1 from (by repeat' (first | (with_reducible exact Below.refl _ _) | (with_reducible refine below_drewN ?_ _) | (with_reducible refine Below.drew ?_) | (with_reducible refine Below.alloc ?_ ?_ _) | (with_reducible refine Below.setCell ?_ ?_ _) | (with_reducible refine below_step ?_ (by assumption) ?_) | (with_reducible refine below_step ?_ (below_regrown _ _ _) ?_) | go_size)))
  have hsz1 : w.heap.size ≤ w1.heap.size := HB1.out.size
  refine wp_region_mix 12 [0, 3, 6, 7, 8, 9] [1, 2, 4, 5, 10, 11] (fun w' => Below w1.heap.size w1 w') (by kernel_rfl) (by kernel_rfl) ((Below.refl _ _).drew) ?_
  simp only [opsOf, List.filterMap_cons, List.filterMap_nil, List.getElem?_toArray, List.getElem?_cons_zero, List.getElem?_cons_succ]
  repeat (refine wpPure_any (fun K hK => ?_); go_simp; refine hK _ ?_; clear hK K)
  (refine wpPure_val (.agg #[.slice bA bs.length bc, .slice pA ps.length pc, .slice rA rs.length rc, .int .i64 arms]) rfl (fun w' hw => by obtain ⟨hS, hE, hz, hc, hf⟩ := bcell hw; (try simp only [go_sem] at hE); subst hE; go_simp) ?_)
  repeat (refine wpPure_any (fun K hK => ?_); go_simp; refine hK _ ?_; clear hK K)
  (refine wpPure_val (.agg #[.slice bA bs.length bc, .slice pA ps.length pc, .slice rA rs.length rc, .int .i64 arms]) rfl (fun w' hw => by obtain ⟨hS, hE, hz, hc, hf⟩ := bcell hw; (try simp only [go_sem] at hE); subst hE; go_simp) ?_)
  repeat (refine wpPure_any (fun K hK => ?_); go_simp; refine hK _ ?_; clear hK K)
  (refine wpPure_val (.slice bA bs.length bc) rfl (fun w' hw => by obtain ⟨hS, hE, hz, hc, hf⟩ := bcell hw; (try simp only [go_sem] at hE); subst hE; go_simp) ?_)
  repeat (refine wpPure_any (fun K hK => ?_); go_simp; refine hK _ ?_; clear hK K)
  refine wpPure_nil ?_
  have hd : Below w1.heap.size w1 w1.drew := (Below.refl _ _).drew
  refine wpMid_call rfl (f := 26) (args := #[.agg #[.slice bA bs.length bc, .slice pA ps.length pc, .slice rA rs.length rc, .int .i64 arms]]) (by go_simp) ?_
  refine (HP _ (HB1.out.trans (hd.mono hsz1))).mono ?_
  rintro e w5 ⟨A5, c5, rfl, hr5, hb5⟩
  have h5 := hd.trans hb5
  refine ⟨_, rfl, h5, ?_⟩
  refine wpMid_call rfl (f := 25) (args := #[.slice A5 ps.length c5]) (by go_simp) ?_
  refine (cP _ A5 c5 hr5).mono ?_
  rintro e w6 ⟨rfl, hb6⟩
  have h6 := h5.trans (hb6.mono h5.size)
  refine ⟨_, rfl, h6, ?_⟩
  refine wpMid_call rfl (f := 27) (args := #[.agg #[.slice bA bs.length bc, .slice pA ps.length pc, .slice rA rs.length rc, .int .i64 arms]]) (by go_simp) ?_
  refine (HQ _ (HB1.out.trans (h6.mono hsz1))).mono ?_
  rintro e w7 ⟨A7, c7, rfl, hr7, hb7⟩
  have h7 := h6.trans (hb7.mono h6.size)
  refine ⟨_, rfl, h7, ?_⟩
  refine wpMid_call rfl (f := 25) (args := #[.slice A7 rs.length c7]) (by go_simp) ?_
  refine (cR _ A7 c7 hr7).mono ?_
  rintro e w8 ⟨rfl, hb8⟩
  have h8 := h7.trans (hb8.mono h7.size)
  refine ⟨_, rfl, h8, ?_⟩
  refine wpMid_val (.int .i64 n1) rfl (w' := w8) (by go_simp) h8 ?_
  refine wpMid_val (.int .i64 n2) rfl (w' := w8) (by go_simp) h8 ?_
  refine wpMid_nil ?_
  have HB2 := hide (HB1.out.trans (h8.mono hsz1))
  clear hd h5 h6 h7 h8 hb5 hb6 hb7 hb8 hr5 hr7
  simp only [List.drop_succ_cons, List.drop_zero]
  go_wp2_with fail
  refine bodyPost_ret (v := .tuple #[.int .i64 n1, .int .i64 n2, .int .i64 (bs.length - 1 : Nat)]) ?_ rfl ⟨rfl, HB2.out⟩
  simp only [results, Tryd.results8, f3]
  go_simp
end Go.Proofs.YtfckciblnojniaaDoor.Dk
