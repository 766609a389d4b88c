/- What is wrong with a deck, by the reference. No condition. -/
import Derived.Test.YtfckciblnojniaaDoorDkE
import Derived.Test.YtfckciblnojniaaDoorRailK
namespace Go.Proofs.YtfckciblnojniaaDoor.Dk
open Go.ChangeShapes Go.WideShapes Go.ChangeAt Go.RowKit Go.Proofs.YtfckciblnojniaaDoor.Kit Go.Proofs.YtfckciblnojniaaDoor.Flt Go.Proofs.YtfckciblnojniaaDoor.Mem Go.Proofs.YtfckciblnojniaaDoor.Rail Go.Deep
set_option linter.unusedVariables false
set_option linter.unusedSimpArgs false
theorem rplate_any {w : World} {B0 : Nat} (p : Plt) (hr : Ints w B0 p.A p.l.length p.l) (hB : B0 ≤ w.heap.size) (hl : p.l.length ≤ 100000) : Calls Tryd.prog 33 #[p.val] w fun e w' => e = .returned (.bool (goodP p)) ∧ Below w.heap.size w w' := by
  obtain ⟨r, c, x, y, z, cap, A, kk, l⟩ := p
  dsimp only at hr hl
  unfold goodP
  dsimp only
  cases hm : mayB r c with
  | false => exact rplate_not r c x y z cap A l.length kk hm
  | true =>
    obtain ⟨m1, m2, m3, m4⟩ := may_iff.1 hm
    obtain ⟨a, rfl⟩ := Int.eq_ofNat_of_zero_le (show 0 ≤ r by omega)
    obtain ⟨b, rfl⟩ := Int.eq_ofNat_of_zero_le (show 0 ≤ c by omega)
    have hab : a * b ≤ 32 * 48 := Nat.mul_le_mul (by omega) (by omega)
    exact rplate_walk a b (a * b) x y z cap A kk l hr hB rfl (by omega) hl hm
theorem val_sum {n1 s : Nat} {x : Int} (h : x = (s : Int)) (h1 : n1 + s ≤ 1000000) : Value.int .i64 (wrap64 ((n1 : Int) + wrap64 x)) = .int .i64 ((n1 + s : Nat) : Int) := by
  rw [h, IntWalk.wrap64_in (s : Int) ⟨by omega, by omega⟩, IntWalk.wrap64_in _ ⟨by omega, by omega⟩, Int.natCast_add]
set_option maxHeartbeats 8000000 in
set_option maxRecDepth 20000 in
theorem rcheck_deck {w : World} {B0 : Nat} {D : Dck} (h : DeckI w B0 D) (hB : B0 ≤ w.heap.size) (hl : SmallD D) :
    Calls Tryd.prog 11 #[D.val] w fun e w' => e = .returned (.int .i64 (chkD D)) ∧ Below w.heap.size w w' := by
  have hbs := h.bs
  have HD := hide h
  have HL := hide hl
  clear h hl
  obtain ⟨bA, bc, bs, pA, pc, ps, rA, rc, rs, arms⟩ := D
  have cR : Calls Tryd.prog 32 #[.slice bA bs.length bc] (w.alloc (.cells #[.slice bA bs.length bc, .slice pA ps.length pc, .slice rA rs.length rc, .int .i64 arms] 26)) fun e w' => e = .returned (.int .i64 (chkS bs)) ∧ Below (w.alloc (.cells #[.slice bA bs.length bc, .slice pA ps.length pc, .slice rA rs.length rc, .int .i64 arms] 26)).heap.size (w.alloc (.cells #[.slice bA bs.length bc, .slice pA ps.length pc, .slice rA rs.length rc, .int .i64 arms] 26)) w' := rcheck_any ⟨row_alloc hbs.row hB _, hbs.len, hbs.fit⟩ (by simp; omega) bc
  unfold Dck.val
  clear hbs
  dsimp only at HD HL ⊢
  have HV : Hid (chkD ⟨bA, bc, bs, pA, pc, ps, rA, rc, rs, arms⟩ = if chkS bs ≠ 0 then chkS bs else if arms < 1 ∨ 8 < arms then 80 else if 4 < ps.length ∨ 4 < rs.length then 2 else chkT ⟨bA, bc, bs, pA, pc, ps, rA, rc, rs, arms⟩) := hide rfl
  generalize chkS bs = e0 at cR HV
  by_cases h0 : e0 = 0
  case neg =>
    have hv : Hid (chkD ⟨bA, bc, bs, pA, pc, ps, rA, rc, rs, arms⟩ = e0) := hide (by rw [HV.out, if_pos h0])
    have g1 : (e0 == 0) = false := beq_false_of_ne h0
    have g2 : (e0 != 0) = true := bne_iff_ne.2 h0
    clear HV
    go_enter Tryd.func11, Tryd.ntmps11
    go_wp2_with (first | (go_at_call 32; refine (cR).mono ?_; rintro e w1 ⟨rfl, hb⟩; obtain ⟨hS, hE, hz, hc, hf⟩ := bcell hb; (try simp only [go_sem] at hE); subst hE) | ((with_reducible change Code.wp _ (Code.region _ _ _) _ _ _); refine wp_region_quiet_below (by kernel_rfl) (by kernel_rfl) ?_; (repeat (first | go_big_quiet_step ((first | (go_at_call 32; exact Calls.regrown_of (cR)))) | quiet_step ((first | (go_at_call 32; exact Calls.regrown_of (cR)))))); refine wpQuiet_nil ?_; intro w1 hw1; have hb := below_of_regrown hw1; clear hw1; obtain ⟨hS, hE, hz, hc, hf⟩ := bcell hb; (try simp only [go_sem] at hE); subst hE))
    go_ret
    exact ⟨by rw [hv.out]; rfl, (by repeat' (first | (with_reducible exact Below.refl _ _) | (with_reducible refine below_drewN ?_ _) | (with_reducible refine Below.drew ?_) | (with_reducible refine Below.alloc ?_ ?_ _) | (with_reducible refine Below.setCell ?_ ?_ _) | (with_reducible refine below_step ?_ (by assumption) ?_) | (with_reducible refine below_step ?_ (below_regrown _ _ _) ?_) | go_size))⟩
  subst h0
  by_cases h1 : arms < 1 ∨ 8 < arms
  case pos =>
    have hv : Hid (chkD ⟨bA, bc, bs, pA, pc, ps, rA, rc, rs, arms⟩ = 80) := hide (by rw [HV.out, if_neg (by simp), if_pos h1])
    clear HV
    rcases h1 with h1 | h1
    · go_enter Tryd.func11, Tryd.ntmps11
      go_wp2_with (first | (go_at_call 32; refine (cR).mono ?_; rintro e w1 ⟨rfl, hb⟩; obtain ⟨hS, hE, hz, hc, hf⟩ := bcell hb; (try simp only [go_sem] at hE); subst hE) | ((with_reducible change Code.wp _ (Code.region _ _ _) _ _ _); refine wp_region_quiet_below (by kernel_rfl) (by kernel_rfl) ?_; (repeat (first | go_big_quiet_step ((first | (go_at_call 32; exact Calls.regrown_of (cR)))) | quiet_step ((first | (go_at_call 32; exact Calls.regrown_of (cR)))))); refine wpQuiet_nil ?_; intro w1 hw1; have hb := below_of_regrown hw1; clear hw1; obtain ⟨hS, hE, hz, hc, hf⟩ := bcell hb; (try simp only [go_sem] at hE); subst hE))
      go_ret
      exact ⟨by rw [hv.out]; rfl, (by repeat' (first | (with_reducible exact Below.refl _ _) | (with_reducible refine below_drewN ?_ _) | (with_reducible refine Below.drew ?_) | (with_reducible refine Below.alloc ?_ ?_ _) | (with_reducible refine Below.setCell ?_ ?_ _) | (with_reducible refine below_step ?_ (by assumption) ?_) | (with_reducible refine below_step ?_ (below_regrown _ _ _) ?_) | go_size))⟩
    · have g1 : ¬ arms < 1 := by omega
      go_enter Tryd.func11, Tryd.ntmps11
      go_wp2_with (first | (go_at_call 32; refine (cR).mono ?_; rintro e w1 ⟨rfl, hb⟩; obtain ⟨hS, hE, hz, hc, hf⟩ := bcell hb; (try simp only [go_sem] at hE); subst hE) | ((with_reducible change Code.wp _ (Code.region _ _ _) _ _ _); refine wp_region_quiet_below (by kernel_rfl) (by kernel_rfl) ?_; (repeat (first | go_big_quiet_step ((first | (go_at_call 32; exact Calls.regrown_of (cR)))) | quiet_step ((first | (go_at_call 32; exact Calls.regrown_of (cR)))))); refine wpQuiet_nil ?_; intro w1 hw1; have hb := below_of_regrown hw1; clear hw1; obtain ⟨hS, hE, hz, hc, hf⟩ := bcell hb; (try simp only [go_sem] at hE); subst hE))
      go_ret
      exact ⟨by rw [hv.out]; rfl, (by repeat' (first | (with_reducible exact Below.refl _ _) | (with_reducible refine below_drewN ?_ _) | (with_reducible refine Below.drew ?_) | (with_reducible refine Below.alloc ?_ ?_ _) | (with_reducible refine Below.setCell ?_ ?_ _) | (with_reducible refine below_step ?_ (by assumption) ?_) | (with_reducible refine below_step ?_ (below_regrown _ _ _) ?_) | go_size))⟩
  have f1 : ¬ arms < 1 := by omega
  have f2 : ¬ 8 < arms := by omega
  by_cases h2 : 4 < ps.length ∨ 4 < rs.length
  case pos =>
    have hv : Hid (chkD ⟨bA, bc, bs, pA, pc, ps, rA, rc, rs, arms⟩ = 2) := hide (by rw [HV.out, if_neg (by simp), if_neg h1, if_pos h2])
    clear HV h1
    by_cases h3 : 4 < ps.length
    · go_enter Tryd.func11, Tryd.ntmps11
      go_wp2_with (first | (go_at_call 32; refine (cR).mono ?_; rintro e w1 ⟨rfl, hb⟩; obtain ⟨hS, hE, hz, hc, hf⟩ := bcell hb; (try simp only [go_sem] at hE); subst hE) | ((with_reducible change Code.wp _ (Code.region _ _ _) _ _ _); refine wp_region_quiet_below (by kernel_rfl) (by kernel_rfl) ?_; (repeat (first | go_big_quiet_step ((first | (go_at_call 32; exact Calls.regrown_of (cR)))) | quiet_step ((first | (go_at_call 32; exact Calls.regrown_of (cR)))))); refine wpQuiet_nil ?_; intro w1 hw1; have hb := below_of_regrown hw1; clear hw1; obtain ⟨hS, hE, hz, hc, hf⟩ := bcell hb; (try simp only [go_sem] at hE); subst hE))
      go_ret
      exact ⟨by rw [hv.out]; rfl, (by repeat' (first | (with_reducible exact Below.refl _ _) | (with_reducible refine below_drewN ?_ _) | (with_reducible refine Below.drew ?_) | (with_reducible refine Below.alloc ?_ ?_ _) | (with_reducible refine Below.setCell ?_ ?_ _) | (with_reducible refine below_step ?_ (by assumption) ?_) | (with_reducible refine below_step ?_ (below_regrown _ _ _) ?_) | go_size))⟩
    · have h4 : 4 < rs.length := by omega
      clear h2
      go_enter Tryd.func11, Tryd.ntmps11
      go_wp2_with (first | (go_at_call 32; refine (cR).mono ?_; rintro e w1 ⟨rfl, hb⟩; obtain ⟨hS, hE, hz, hc, hf⟩ := bcell hb; (try simp only [go_sem] at hE); subst hE) | ((with_reducible change Code.wp _ (Code.region _ _ _) _ _ _); refine wp_region_quiet_below (by kernel_rfl) (by kernel_rfl) ?_; (repeat (first | go_big_quiet_step ((first | (go_at_call 32; exact Calls.regrown_of (cR)))) | quiet_step ((first | (go_at_call 32; exact Calls.regrown_of (cR)))))); refine wpQuiet_nil ?_; intro w1 hw1; have hb := below_of_regrown hw1; clear hw1; obtain ⟨hS, hE, hz, hc, hf⟩ := bcell hb; (try simp only [go_sem] at hE); subst hE))
      go_ret
      exact ⟨by rw [hv.out]; rfl, (by repeat' (first | (with_reducible exact Below.refl _ _) | (with_reducible refine below_drewN ?_ _) | (with_reducible refine Below.drew ?_) | (with_reducible refine Below.alloc ?_ ?_ _) | (with_reducible refine Below.setCell ?_ ?_ _) | (with_reducible refine below_step ?_ (by assumption) ?_) | (with_reducible refine below_step ?_ (below_regrown _ _ _) ?_) | go_size))⟩
  have f3 : ¬ 4 < ps.length := by omega
  have f4 : ¬ 4 < rs.length := by omega
  have hv : Hid (chkD ⟨bA, bc, bs, pA, pc, ps, rA, rc, rs, arms⟩ = chkT ⟨bA, bc, bs, pA, pc, ps, rA, rc, rs, arms⟩) := hide (by rw [HV.out, if_neg (by simp), if_neg h1, if_neg h2])
  clear HV h1 h2
  go_enter Tryd.func11, Tryd.ntmps11
  go_wp2_with (first | (go_at_call 32; refine (cR).mono ?_; rintro e w1 ⟨rfl, hb⟩; obtain ⟨hS, hE, hz, hc, hf⟩ := bcell hb; (try simp only [go_sem] at hE); subst hE) | ((with_reducible change Code.wp _ (Code.region _ _ _) _ _ _); refine wp_region_quiet_below (by kernel_rfl) (by kernel_rfl) ?_; (repeat (first | go_big_quiet_step ((first | (go_at_call 32; exact Calls.regrown_of (cR)))) | quiet_step ((first | (go_at_call 32; exact Calls.regrown_of (cR)))))); refine wpQuiet_nil ?_; intro w1 hw1; have hb := below_of_regrown hw1; clear hw1; obtain ⟨hS, hE, hz, hc, hf⟩ := bcell hb; (try simp only [go_sem] at hE); subst hE))
  have c1 : w1.cell? ⟨w.heap.size, 1, none⟩ = some (.slice pA ps.length pc) := (hb.cell (p := ⟨w.heap.size, 1, none⟩) (by simp)).trans (by rw [World.cell?_alloc_new]; rfl)
  have c2 : w1.cell? ⟨w.heap.size, 2, none⟩ = some (.slice rA rs.length rc) := (hb.cell (p := ⟨w.heap.size, 2, none⟩) (by simp)).trans (by rw [World.cell?_alloc_new]; rfl)
  have hzz : w.heap.size < w1.heap.size := by have := hb.size; simp at this; omega
  have hbw : Below w.heap.size w w1 := (by repeat' (first | (with_reducible exact Below.refl _ _) | (with_reducible refine below_drewN ?_ _) | (with_reducible refine Below.drew ?_) | (with_reducible refine Below.alloc ?_ ?_ _) | (with_reducible refine Below.setCell ?_ ?_ _) | (with_reducible refine below_step ?_ (by assumption) ?_) | (with_reducible refine below_step ?_ (below_regrown _ _ _) ?_) | go_size))
  have HC1 := hide c1
  have HC2 := hide c2
  have HBW := hide hbw
  clear cR hbw c1 c2
  go_loopw [4, 6] (fun s i wr => ∃ k q : Nat, k ≤ ps.length ∧ s = .int .i64 q ∧ i = .int .i64 k ∧ Hid (sumN ((ps.map Plt.box).take k) = q) ∧ q ≤ 1536 * k ∧ Hid (ps.all goodP = (ps.drop k).all goodP) ∧ Below w1.heap.size w1 wr) (fun _ i _ => ps.length - (intOf i).toNat)
  case atStart => exact ⟨0, 0, Nat.zero_le _, rfl, rfl, hide rfl, by omega, hide rfl, Below.refl _ _⟩
  case round =>
    obtain ⟨k, n1, hk, rfl, rfl, HSU, hn1, HS, hbr⟩ := hrel
    have hzr := hbr.size
    have HBE : Hid (Below w.heap.size w wr) := hide (HBW.out.trans (hbr.mono (by omega)))
    have g1 := (hbr.cell (p := ⟨w.heap.size, 1, none⟩) hzz).trans HC1.out
    have g2 := (hbr.cell (p := ⟨w.heap.size, 2, none⟩) hzz).trans HC2.out
    have hqr : w.heap.size < wr.heap.size := by omega
    by_cases hlt : k < ps.length
    · obtain ⟨b, off, hpA, hbB, hcell⟩ := plt_cells HD.out.ps (show 0 < ps.length by omega) (⟨0, 0, 0, 0, 0, 0, none, 0, []⟩ : Plt)
      dsimp only at hpA hcell
      subst hpA
      obtain ⟨p0, p1, p2, p3, p4, p5, p6⟩ := hcell k hlt
      have hbw : b < w.heap.size := by omega
      have e0 := (HBE.out.cell (p := ⟨b, off + k * 7, none⟩) hbw).trans p0
      have e1 := (HBE.out.cell (p := ⟨b, off + k * 7 + 1, none⟩) hbw).trans p1
      have e2 := (HBE.out.cell (p := ⟨b, off + k * 7 + 2, none⟩) hbw).trans p2
      have e3 := (HBE.out.cell (p := ⟨b, off + k * 7 + 3, none⟩) hbw).trans p3
      have e4 := (HBE.out.cell (p := ⟨b, off + k * 7 + 4, none⟩) hbw).trans p4
      have e5 := (HBE.out.cell (p := ⟨b, off + k * 7 + 5, none⟩) hbw).trans p5
      have e6 := (HBE.out.cell (p := ⟨b, off + k * 7 + 6, none⟩) hbw).trans p6
      have hbwr : b < wr.heap.size := by omega
      clear hcell p0 p1 p2 p3 p4 p5 p6
      have HT := hide (HS.out.trans (all_nextP ps k (⟨0, 0, 0, 0, 0, 0, none, 0, []⟩ : Plt) hlt))
      have HSN := hide (sum_next (ps.map Plt.box) k (by rw [List.length_map]; exact hlt))
      rw [map_box ps k hlt (⟨0, 0, 0, 0, 0, 0, none, 0, []⟩ : Plt)] at HSN
      have hmem : ps.getD k (⟨0, 0, 0, 0, 0, 0, none, 0, []⟩ : Plt) ∈ ps := by rw [List.getD_eq_getElem?_getD, List.getElem?_eq_getElem hlt]; exact List.getElem_mem hlt
      have HI := hide (HD.out.st _ hmem)
      have HLn := hide (HL.out _ hmem)
      have HBR := hide hbr
      clear hmem HS hbr
      generalize ps.getD k (⟨0, 0, 0, 0, 0, 0, none, 0, []⟩ : Plt) = q at *
      obtain ⟨r, c, x, y, z, cap, A, kk, l⟩ := q
      dsimp only at e0 e1 e2 e3 e4 e5 e6 HI HLn HSN
      have HH : ∀ W, Below w.heap.size w W → Calls Tryd.prog 33 #[.agg #[.int .i64 r, .int .i64 c, .float .f64 x, .float .f64 y, .float .f64 z, .int .i64 cap, .slice A l.length kk]] W fun e w' => e = .returned (.bool (goodP ⟨r, c, x, y, z, cap, A, kk, l⟩)) ∧ Below W.heap.size W w' :=
        fun W hb => rplate_any (B0 := B0) ⟨r, c, x, y, z, cap, A, kk, l⟩ (ints_below HI.out hb hB) (by have := hb.size; omega) (Nat.le_trans HLn.out (by decide))
      clear HI HLn
      cases gg : goodP ⟨r, c, x, y, z, cap, A, kk, l⟩ with
      | false =>
        have HT2 : Hid (ps.all goodP = false) := hide (by rw [HT.out, gg]; rfl)
        rw [gg] at HH
        clear HT gg HSN HSU
        go_wp2_with (first | (go_at_call 33; (with_reducible refine (HH _ (HBE.out.trans (by repeat' (first | (with_reducible exact Below.refl _ _) | (with_reducible refine below_drewN ?_ _) | (with_reducible refine Below.drew ?_) | (with_reducible refine Below.alloc ?_ ?_ _) | (with_reducible refine Below.setCell ?_ ?_ _) | (with_reducible refine below_step ?_ (by assumption) ?_) | (with_reducible refine below_step ?_ (below_regrown _ _ _) ?_) | go_size)))).mono ?_); rintro e w1 ⟨rfl, hb⟩; obtain ⟨hS, hE, hz, hc, hf⟩ := bcell hb; (try simp only [go_sem] at hE); subst hE) | ((with_reducible change Code.wp _ (Code.region _ _ _) _ _ _); refine wp_region_quiet_below (by kernel_rfl) (by kernel_rfl) ?_; (repeat (first | go_big_quiet_step ((first | (go_at_call 33; (with_reducible refine Calls.regrown_of (HH _ (HBE.out.trans (by repeat' (first | (with_reducible exact Below.refl _ _) | (with_reducible refine below_drewN ?_ _) | (with_reducible refine Below.drew ?_) | (with_reducible refine Below.alloc ?_ ?_ _) | (with_reducible refine Below.setCell ?_ ?_ _) | (with_reducible refine below_step ?_ (by assumption) ?_) | (with_reducible refine below_step ?_ (below_regrown _ _ _) ?_) | go_size)))));))) | quiet_step ((first | (go_at_call 33; (with_reducible refine Calls.regrown_of (HH _ (HBE.out.trans (by repeat' (first | (with_reducible exact Below.refl _ _) | (with_reducible refine below_drewN ?_ _) | (with_reducible refine Below.drew ?_) | (with_reducible refine Below.alloc ?_ ?_ _) | (with_reducible refine Below.setCell ?_ ?_ _) | (with_reducible refine below_step ?_ (by assumption) ?_) | (with_reducible refine below_step ?_ (below_regrown _ _ _) ?_) | go_size)))));))))); refine wpQuiet_nil ?_; intro w1 hw1; have hb := below_of_regrown hw1; clear hw1; obtain ⟨hS, hE, hz, hc, hf⟩ := bcell hb; (try simp only [go_sem] at hE); subst hE))
        go_ret
        exact ⟨by rw [hv.out]; unfold chkT; rw [HT2.out]; rfl, HBE.out.trans (by repeat' (first | (with_reducible exact Below.refl _ _) | (with_reducible refine below_drewN ?_ _) | (with_reducible refine Below.drew ?_) | (with_reducible refine Below.alloc ?_ ?_ _) | (with_reducible refine Below.setCell ?_ ?_ _) | (with_reducible refine below_step ?_ (by assumption) ?_) | (with_reducible refine below_step ?_ (below_regrown _ _ _) ?_) | go_size))⟩
      | true =>
        have HT2 : Hid (ps.all goodP = (ps.drop (k + 1)).all goodP) := hide (by rw [HT.out, gg]; rfl)
        rw [gg] at HH
        have gm : mayB r c = true := by unfold goodP at gg; rw [Bool.and_eq_true] at gg; exact gg.1
        obtain ⟨m1, m2, m3, m4⟩ := may_iff.1 gm
        clear HT gg gm
        obtain ⟨a, rfl⟩ := Int.eq_ofNat_of_zero_le (show 0 ≤ r by omega)
        obtain ⟨b9, rfl⟩ := Int.eq_ofNat_of_zero_le (show 0 ≤ c by omega)
        rw [Int.toNat_natCast, Int.toNat_natCast] at HSN
        have hab : a * b9 ≤ 32 * 48 := Nat.mul_le_mul (by omega) (by omega)
        have HSM := hide (HSN.out.trans (congrArg (· + a * b9) HSU.out))
        have em : (a : Int) * (b9 : Int) = ((a * b9 : Nat) : Int) := by rw [Int.natCast_mul]
        clear HSN HSU
        generalize a * b9 = s at *
        have EM := hide em
        clear em
        go_wp2_with (first | (go_at_call 33; (with_reducible refine (HH _ (HBE.out.trans (by repeat' (first | (with_reducible exact Below.refl _ _) | (with_reducible refine below_drewN ?_ _) | (with_reducible refine Below.drew ?_) | (with_reducible refine Below.alloc ?_ ?_ _) | (with_reducible refine Below.setCell ?_ ?_ _) | (with_reducible refine below_step ?_ (by assumption) ?_) | (with_reducible refine below_step ?_ (below_regrown _ _ _) ?_) | go_size)))).mono ?_); rintro e w1 ⟨rfl, hb⟩; obtain ⟨hS, hE, hz, hc, hf⟩ := bcell hb; (try simp only [go_sem] at hE); subst hE) | ((with_reducible change Code.wp _ (Code.region _ _ _) _ _ _); refine wp_region_quiet_below (by kernel_rfl) (by kernel_rfl) ?_; (repeat (first | go_big_quiet_step ((first | (go_at_call 33; (with_reducible refine Calls.regrown_of (HH _ (HBE.out.trans (by repeat' (first | (with_reducible exact Below.refl _ _) | (with_reducible refine below_drewN ?_ _) | (with_reducible refine Below.drew ?_) | (with_reducible refine Below.alloc ?_ ?_ _) | (with_reducible refine Below.setCell ?_ ?_ _) | (with_reducible refine below_step ?_ (by assumption) ?_) | (with_reducible refine below_step ?_ (below_regrown _ _ _) ?_) | go_size)))));))) | quiet_step ((first | (go_at_call 33; (with_reducible refine Calls.regrown_of (HH _ (HBE.out.trans (by repeat' (first | (with_reducible exact Below.refl _ _) | (with_reducible refine below_drewN ?_ _) | (with_reducible refine Below.drew ?_) | (with_reducible refine Below.alloc ?_ ?_ _) | (with_reducible refine Below.setCell ?_ ?_ _) | (with_reducible refine below_step ?_ (by assumption) ?_) | (with_reducible refine below_step ?_ (below_regrown _ _ _) ?_) | go_size)))));))))); refine wpQuiet_nil ?_; intro w1 hw1; have hb := below_of_regrown hw1; clear hw1; obtain ⟨hS, hE, hz, hc, hf⟩ := bcell hb; (try simp only [go_sem] at hE); subst hE))
        exact ⟨⟨k + 1, n1 + s, by omega, val_sum EM.out (by omega), by go_num, HSM, by omega, HT2, HBR.out.trans (by repeat' (first | (with_reducible exact Below.refl _ _) | (with_reducible refine below_drewN ?_ _) | (with_reducible refine Below.drew ?_) | (with_reducible refine Below.alloc ?_ ?_ _) | (with_reducible refine Below.setCell ?_ ?_ _) | (with_reducible refine below_step ?_ (by assumption) ?_) | (with_reducible refine below_step ?_ (below_regrown _ _ _) ?_) | go_size))⟩, by simp [intOf]; omega⟩
    · obtain rfl : k = ps.length := by omega
      have HAP : Hid (ps.all goodP = true) := hide (by rw [HS.out, List.drop_length]; rfl)
      have hv2 : Hid (chkD ⟨bA, bc, bs, pA, pc, ps, rA, rc, rs, arms⟩ = chkU ⟨bA, bc, bs, pA, pc, ps, rA, rc, rs, arms⟩) := hide (by rw [hv.out]; unfold chkT; rw [if_neg (by rw [HAP.out]; simp)])
      have HN1 : Hid (sumN (ps.map Plt.box) = n1) := hide (by rw [← HSU.out, List.take_of_length_le (by simp)])
      have HBR := hide hbr
      clear HS hv HC1 HC2 HBW HSU HAP hbr
      have HG2 := hide g2
      go_wp2_with (first | ((with_reducible change Code.wp _ (Code.region _ _ _) _ _ _); refine wp_region_quiet_below (by kernel_rfl) (by kernel_rfl) ?_; (repeat (first | go_big_quiet_step (fail) | quiet_step (fail))); refine wpQuiet_nil ?_; intro w1 hw1; have hb := below_of_regrown hw1; clear hw1; obtain ⟨hS, hE, hz, hc, hf⟩ := bcell hb; (try simp only [go_sem] at hE); subst hE))
      clear g1 g2
      obtain ⟨wv, rfl⟩ : ∃ wv : World, wv = wr := ⟨_, rfl⟩
      go_loopw [5, 7] (fun s i wr => ∃ k q : Nat, k ≤ rs.length ∧ s = .int .i64 q ∧ i = .int .i64 k ∧ Hid (sumN ((rs.map Rck.box).take k) = q) ∧ q ≤ 1536 * k ∧ Hid (rs.all goodR = (rs.drop k).all goodR) ∧ Below wv.heap.size wv wr) (fun _ i _ => rs.length - (intOf i).toNat)
      case atStart => exact ⟨0, 0, Nat.zero_le _, rfl, rfl, hide rfl, by omega, hide rfl, Below.refl _ _⟩
      case round =>
        obtain ⟨k, n2, hk, rfl, rfl, HSU, hn2, HS, hbr⟩ := hrel
        have hzr := hbr.size
        have HBF : Hid (Below w.heap.size w wr) := hide (HBE.out.trans (hbr.mono (by omega)))
        have g2 := (hbr.cell (p := ⟨w.heap.size, 2, none⟩) hqr).trans HG2.out
        have hqr2 : w.heap.size < wr.heap.size := by omega
        by_cases hlt : k < rs.length
        · obtain ⟨b, off, hpA, hbB, hcell⟩ := rck_cells HD.out.rs (show 0 < rs.length by omega) (⟨0, 0, 0, 0, 0⟩ : Rck)
          dsimp only at hpA hcell
          subst hpA
          obtain ⟨p0, p1, p2, p3, p4⟩ := hcell k hlt
          have hbw : b < w.heap.size := by omega
          have e0 := (HBF.out.cell (p := ⟨b, off + k * 5, none⟩) hbw).trans p0
          have e1 := (HBF.out.cell (p := ⟨b, off + k * 5 + 1, none⟩) hbw).trans p1
          have hbwr : b < wr.heap.size := by omega
          clear hcell p0 p1 p2 p3 p4
          have HT := hide (HS.out.trans (all_nextR rs k (⟨0, 0, 0, 0, 0⟩ : Rck) hlt))
          have HSN := hide (sum_next (rs.map Rck.box) k (by rw [List.length_map]; exact hlt))
          rw [map_boxR rs k hlt (⟨0, 0, 0, 0, 0⟩ : Rck)] at HSN
          have HBR := hide hbr
          clear HS hbr
          generalize rs.getD k (⟨0, 0, 0, 0, 0⟩ : Rck) = q at *
          obtain ⟨r, c, x, y, z⟩ := q
          dsimp only at e0 e1 HSN
          have HH := fun W => rbox_any r c W
          cases gg : mayB r c with
          | false =>
            have HT2 : Hid (rs.all goodR = false) := hide (by rw [HT.out]; unfold goodR; rw [gg]; rfl)
            rw [gg] at HH
            clear HT gg HSN HSU
            go_wp2_with (first | (go_at_call 34; refine (HH _).mono ?_; rintro e w1 ⟨rfl, hb⟩; obtain ⟨hS, hE, hz, hc, hf⟩ := bcell hb; (try simp only [go_sem] at hE); subst hE) | ((with_reducible change Code.wp _ (Code.region _ _ _) _ _ _); refine wp_region_quiet_below (by kernel_rfl) (by kernel_rfl) ?_; (repeat (first | go_big_quiet_step ((first | (go_at_call 34; exact Calls.regrown_of (HH _)))) | quiet_step ((first | (go_at_call 34; exact Calls.regrown_of (HH _)))))); refine wpQuiet_nil ?_; intro w1 hw1; have hb := below_of_regrown hw1; clear hw1; obtain ⟨hS, hE, hz, hc, hf⟩ := bcell hb; (try simp only [go_sem] at hE); subst hE))
            go_ret
            exact ⟨by rw [hv2.out]; unfold chkU; rw [HT2.out]; rfl, HBF.out.trans (by repeat' (first | (with_reducible exact Below.refl _ _) | (with_reducible refine below_drewN ?_ _) | (with_reducible refine Below.drew ?_) | (with_reducible refine Below.alloc ?_ ?_ _) | (with_reducible refine Below.setCell ?_ ?_ _) | (with_reducible refine below_step ?_ (by assumption) ?_) | (with_reducible refine below_step ?_ (below_regrown _ _ _) ?_) | go_size))⟩
          | true =>
            have HT2 : Hid (rs.all goodR = (rs.drop (k + 1)).all goodR) := hide (by rw [HT.out]; unfold goodR; rw [gg]; rfl)
            rw [gg] at HH
            obtain ⟨m1, m2, m3, m4⟩ := may_iff.1 gg
            clear HT gg
            obtain ⟨a, rfl⟩ := Int.eq_ofNat_of_zero_le (show 0 ≤ r by omega)
            obtain ⟨b9, rfl⟩ := Int.eq_ofNat_of_zero_le (show 0 ≤ c by omega)
            rw [Int.toNat_natCast, Int.toNat_natCast] at HSN
            have hab : a * b9 ≤ 32 * 48 := Nat.mul_le_mul (by omega) (by omega)
            have HSM := hide (HSN.out.trans (congrArg (· + a * b9) HSU.out))
            have em : (a : Int) * (b9 : Int) = ((a * b9 : Nat) : Int) := by rw [Int.natCast_mul]
            clear HSN HSU
            generalize a * b9 = s at *
            have EM := hide em
            clear em
            go_wp2_with (first | (go_at_call 34; refine (HH _).mono ?_; rintro e w1 ⟨rfl, hb⟩; obtain ⟨hS, hE, hz, hc, hf⟩ := bcell hb; (try simp only [go_sem] at hE); subst hE) | ((with_reducible change Code.wp _ (Code.region _ _ _) _ _ _); refine wp_region_quiet_below (by kernel_rfl) (by kernel_rfl) ?_; (repeat (first | go_big_quiet_step ((first | (go_at_call 34; exact Calls.regrown_of (HH _)))) | quiet_step ((first | (go_at_call 34; exact Calls.regrown_of (HH _)))))); refine wpQuiet_nil ?_; intro w1 hw1; have hb := below_of_regrown hw1; clear hw1; obtain ⟨hS, hE, hz, hc, hf⟩ := bcell hb; (try simp only [go_sem] at hE); subst hE))
            exact ⟨⟨k + 1, n2 + s, by omega, val_sum EM.out (by omega), by go_num, HSM, by omega, HT2, HBR.out.trans (by repeat' (first | (with_reducible exact Below.refl _ _) | (with_reducible refine below_drewN ?_ _) | (with_reducible refine Below.drew ?_) | (with_reducible refine Below.alloc ?_ ?_ _) | (with_reducible refine Below.setCell ?_ ?_ _) | (with_reducible refine below_step ?_ (by assumption) ?_) | (with_reducible refine below_step ?_ (below_regrown _ _ _) ?_) | go_size))⟩, by simp [intOf]; omega⟩
        · obtain rfl : k = rs.length := by omega
          have HAR : Hid (rs.all goodR = true) := hide (by rw [HS.out, List.drop_length]; rfl)
          have HN2 : Hid (sumN (rs.map Rck.box) = n2) := hide (by rw [← HSU.out, List.take_of_length_le (by simp)])
          have hv3 : Hid (chkD ⟨bA, bc, bs, pA, pc, ps, rA, rc, rs, arms⟩ = if (decide (384 < n1) || decide (384 < n2)) = true then 2 else 0) := hide (by rw [hv2.out]; unfold chkU; rw [if_neg (by rw [HAR.out]; simp)]; unfold chkV overB; dsimp only; rw [HN1.out, HN2.out])
          clear hv2 HS hbr HAR HN1 HN2 HSU
          by_cases y1 : 384 < n1
          · have hv4 : Hid (chkD ⟨bA, bc, bs, pA, pc, ps, rA, rc, rs, arms⟩ = 2) := hide (by rw [hv3.out, decide_eq_true y1]; rfl)
            clear hv3
            go_wp2_with (first | ((with_reducible change Code.wp _ (Code.region _ _ _) _ _ _); refine wp_region_quiet_below (by kernel_rfl) (by kernel_rfl) ?_; (repeat (first | go_big_quiet_step (fail) | quiet_step (fail))); refine wpQuiet_nil ?_; intro w1 hw1; have hb := below_of_regrown hw1; clear hw1; obtain ⟨hS, hE, hz, hc, hf⟩ := bcell hb; (try simp only [go_sem] at hE); subst hE))
            go_ret
            exact ⟨by rw [hv4.out]; rfl, HBF.out.trans (by repeat' (first | (with_reducible exact Below.refl _ _) | (with_reducible refine below_drewN ?_ _) | (with_reducible refine Below.drew ?_) | (with_reducible refine Below.alloc ?_ ?_ _) | (with_reducible refine Below.setCell ?_ ?_ _) | (with_reducible refine below_step ?_ (by assumption) ?_) | (with_reducible refine below_step ?_ (below_regrown _ _ _) ?_) | go_size))⟩
          by_cases y2 : 384 < n2
          · have hv4 : Hid (chkD ⟨bA, bc, bs, pA, pc, ps, rA, rc, rs, arms⟩ = 2) := hide (by rw [hv3.out, decide_eq_true y2]; simp)
            clear hv3
            go_wp2_with (first | ((with_reducible change Code.wp _ (Code.region _ _ _) _ _ _); refine wp_region_quiet_below (by kernel_rfl) (by kernel_rfl) ?_; (repeat (first | go_big_quiet_step (fail) | quiet_step (fail))); refine wpQuiet_nil ?_; intro w1 hw1; have hb := below_of_regrown hw1; clear hw1; obtain ⟨hS, hE, hz, hc, hf⟩ := bcell hb; (try simp only [go_sem] at hE); subst hE))
            go_ret
            exact ⟨by rw [hv4.out]; rfl, HBF.out.trans (by repeat' (first | (with_reducible exact Below.refl _ _) | (with_reducible refine below_drewN ?_ _) | (with_reducible refine Below.drew ?_) | (with_reducible refine Below.alloc ?_ ?_ _) | (with_reducible refine Below.setCell ?_ ?_ _) | (with_reducible refine below_step ?_ (by assumption) ?_) | (with_reducible refine below_step ?_ (below_regrown _ _ _) ?_) | go_size))⟩
          have hv4 : Hid (chkD ⟨bA, bc, bs, pA, pc, ps, rA, rc, rs, arms⟩ = 0) := hide (by rw [hv3.out, decide_eq_false y1, decide_eq_false y2]; rfl)
          clear hv3
          go_wp2_with (first | ((with_reducible change Code.wp _ (Code.region _ _ _) _ _ _); refine wp_region_quiet_below (by kernel_rfl) (by kernel_rfl) ?_; (repeat (first | go_big_quiet_step (fail) | quiet_step (fail))); refine wpQuiet_nil ?_; intro w1 hw1; have hb := below_of_regrown hw1; clear hw1; obtain ⟨hS, hE, hz, hc, hf⟩ := bcell hb; (try simp only [go_sem] at hE); subst hE))
          go_ret
          exact ⟨by rw [hv4.out]; rfl, HBF.out.trans (by repeat' (first | (with_reducible exact Below.refl _ _) | (with_reducible refine below_drewN ?_ _) | (with_reducible refine Below.drew ?_) | (with_reducible refine Below.alloc ?_ ?_ _) | (with_reducible refine Below.setCell ?_ ?_ _) | (with_reducible refine below_step ?_ (by assumption) ?_) | (with_reducible refine below_step ?_ (below_regrown _ _ _) ?_) | go_size))⟩
end Go.Proofs.YtfckciblnojniaaDoor.Dk
