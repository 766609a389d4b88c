/- What a well holds at first, by the reference. No condition. -/
import Derived.Test.YtfckciblnojniaaDoorDkQ
import Derived.Deep.DeepCutAuto
namespace Go.Proofs.YtfckciblnojniaaDoor.Dk
open Go.ChangeShapes Go.WideShapes Go.ChangeAt Go.RowKit Go.Proofs.YtfckciblnojniaaDoor.Kit Go.Proofs.YtfckciblnojniaaDoor.Flt Go.Proofs.YtfckciblnojniaaDoor.Mem Go.Proofs.YtfckciblnojniaaDoor.Rail Go.Proofs.YtfckciblnojniaaDoor.Mix Go.Deep
set_option linter.unusedVariables false
set_option linter.unusedSimpArgs false
section
variable {w : World} {B0 : Nat} {D : Dck}
set_option maxHeartbeats 8000000 in
set_option maxRecDepth 20000 in
theorem rstart_any (h : DeckI w B0 D) (hB : B0 ≤ w.heap.size) (hl : SmallD D) (id : Int) :
    Calls Tryd.prog 21 #[D.val, .int .i64 id] w fun e w' => e = .returned (.int .i64 (startF D id)) ∧ Below w.heap.size w w' := by
  have cP : ∀ W, Below w.heap.size w W → Calls Tryd.prog 13 #[D.val, .int .i64 id] W fun e w' => e = .returned (.tuple #[(partF D id).1.val, .int .i64 (partF D id).2]) ∧ Below W.heap.size W w' :=
    fun W hb => rpart_any (h.below hb hB) (by have := hb.size; omega) hl id
  by_cases hn : InW D id
  · obtain ⟨j, r, c, ha⟩ := at_of hn
    have hv := hide (start_in hn ha)
    have hmem : D.ps.getD j (⟨0, 0, 0, 0, 0, 0, none, 0, []⟩ : Plt) ∈ D.ps := by rw [List.getD_eq_getElem?_getD, List.getElem?_eq_getElem ha.hj]; exact List.getElem_mem ha.hj
    have hI := hide (h.st _ hmem)
    have hln := hl _ hmem
    obtain ⟨hp, hj, hr, hc, m32, m48⟩ := ha
    rw [hp] at cP
    obtain ⟨b, off, hpA, hbB, hcell⟩ := plt_cells h.ps (by omega) (⟨0, 0, 0, 0, 0, 0, none, 0, []⟩ : Plt)
    obtain ⟨p0, p1, p2, p3, p4, p5, p6⟩ := hcell j hj
    clear h hl hn hp hcell hmem
    generalize startF D id = X at *
    obtain ⟨bA, bc, bs, pA, pc, ps, rA, rc, rs, arms⟩ := D
    dsimp only at hpA hj p0 p1 p2 p3 p4 p5 p6 hv hI hln hr hc m32 m48
    subst hpA
    unfold Dck.val Pt.val at cP
    unfold Dck.val
    dsimp only at cP ⊢
    generalize ps.getD j (⟨0, 0, 0, 0, 0, 0, none, 0, []⟩ : Plt) = q at *
    obtain ⟨rows, cols, x, y, z, cap, qA, qk, ql⟩ := q
    unfold atL at hv
    dsimp only at hv hI hln p0 p1 p2 p3 p4 p5 p6 hr hc m32 m48
    obtain ⟨a, rfl⟩ := Int.eq_ofNat_of_zero_le (show 0 ≤ rows by omega)
    obtain ⟨b9, rfl⟩ := Int.eq_ofNat_of_zero_le (show 0 ≤ cols by omega)
    rw [Int.toNat_natCast] at hv
    have hrb : r * b9 ≤ 32 * 48 := Nat.mul_le_mul (by omega) (by omega)
    have HE : Hid (r * b9 + c ≤ 1000000) := hide (by omega)
    obtain ⟨s, hs⟩ : ∃ s, s = r * b9 + c := ⟨_, rfl⟩
    rw [← hs] at hv
    have HS := hide hs
    clear hs hrb
    have hbw : b < w.heap.size := by omega
    by_cases h1 : ql.length ≤ s
    · rw [if_pos h1] at hv
      go_enter Tryd.func21, Tryd.ntmps21
      go_upto_region 5 with (first | (go_at_call 13; (with_reducible refine (cP _ (by repeat' (first | (with_reducible exact Below.refl _ _) | (with_reducible refine below_drewN ?_ _) | (with_reducible refine Below.drew ?_) | (with_reducible refine Below.alloc ?_ ?_ _) | (with_reducible refine Below.setCell ?_ ?_ _) | (with_reducible refine below_step ?_ (by assumption) ?_) | (with_reducible refine below_step ?_ (below_regrown _ _ _) ?_) | go_size))).mono ?_); rintro e w1 ⟨rfl, hb⟩; obtain ⟨hS, hE, hz, hc, hf⟩ := bcell hb; (try simp only [go_sem] at hE); subst hE))
      go_cut [8] (fun v wx => v = .int .i64 s ∧ wx = (w1.alloc (.cells #[.int .i64 1, .int .i64 j, .int .i64 r, .int .i64 c] 34)).alloc (.cells #[.int .i64 a, .int .i64 b9, .float .f64 x, .float .f64 y, .float .f64 z, .int .i64 cap, .slice qA ql.length qk] 47))
      case first =>
        go_wp2_with fail
        go_meet
        exact ⟨(by rw [HS.out]; exact at_val HE.out), rfl⟩
      case rest =>
        obtain ⟨rfl, rfl⟩ := hcut
        go_wp2_with fail
        go_ret
        exact ⟨by rw [hv.out]; rfl, (by repeat' (first | (with_reducible exact Below.refl _ _) | (with_reducible refine below_drewN ?_ _) | (with_reducible refine Below.drew ?_) | (with_reducible refine Below.alloc ?_ ?_ _) | (with_reducible refine Below.setCell ?_ ?_ _) | (with_reducible refine below_step ?_ (by assumption) ?_) | (with_reducible refine below_step ?_ (below_regrown _ _ _) ?_) | go_size))⟩
    · rw [if_neg h1] at hv
      obtain ⟨b2, off2, rfl, hbB2, hcell⟩ := hI.out.2 (by omega)
      have d0 := hcell s (by omega)
      have hbw2 : b2 < w.heap.size := by omega
      clear hcell
      go_enter Tryd.func21, Tryd.ntmps21
      go_upto_region 5 with (first | (go_at_call 13; (with_reducible refine (cP _ (by repeat' (first | (with_reducible exact Below.refl _ _) | (with_reducible refine below_drewN ?_ _) | (with_reducible refine Below.drew ?_) | (with_reducible refine Below.alloc ?_ ?_ _) | (with_reducible refine Below.setCell ?_ ?_ _) | (with_reducible refine below_step ?_ (by assumption) ?_) | (with_reducible refine below_step ?_ (below_regrown _ _ _) ?_) | go_size))).mono ?_); rintro e w1 ⟨rfl, hb⟩; obtain ⟨hS, hE, hz, hc, hf⟩ := bcell hb; (try simp only [go_sem] at hE); subst hE))
      go_cut [8] (fun v wx => v = .int .i64 s ∧ wx = (w1.alloc (.cells #[.int .i64 1, .int .i64 j, .int .i64 r, .int .i64 c] 34)).alloc (.cells #[.int .i64 a, .int .i64 b9, .float .f64 x, .float .f64 y, .float .f64 z, .int .i64 cap, .slice (some ⟨b2, off2, none⟩) ql.length qk] 47))
      case first =>
        go_wp2_with fail
        go_meet
        exact ⟨(by rw [HS.out]; exact at_val HE.out), rfl⟩
      case rest =>
        obtain ⟨rfl, rfl⟩ := hcut
        go_wp2_with fail
        go_ret
        exact ⟨by rw [hv.out]; rfl, (by repeat' (first | (with_reducible exact Below.refl _ _) | (with_reducible refine below_drewN ?_ _) | (with_reducible refine Below.drew ?_) | (with_reducible refine Below.alloc ?_ ?_ _) | (with_reducible refine Below.setCell ?_ ?_ _) | (with_reducible refine below_step ?_ (by assumption) ?_) | (with_reducible refine below_step ?_ (below_regrown _ _ _) ?_) | go_size))⟩
  · have hv : Hid (startF D id = 0) := hide (if_neg hn)
    have hna := not_at hn
    clear h hl hn
    generalize startF D id = Y at *
    generalize partF D id = X at *
    obtain ⟨⟨k, u, r, c⟩, e⟩ := X
    obtain ⟨bA, bc, bs, pA, pc, ps, rA, rc, rs, arms⟩ := D
    unfold Dck.val Pt.val at cP
    unfold Dck.val
    dsimp only at cP hna ⊢
    rcases hna with h1 | ⟨rfl, h1⟩
    · have g1 : (e == 0) = false := beq_false_of_ne h1
      have g2 : (e != 0) = true := bne_iff_ne.2 h1
      go_enter Tryd.func21, Tryd.ntmps21
      go_wp2_with (first | (go_at_call 13; (with_reducible refine (cP _ (by repeat' (first | (with_reducible exact Below.refl _ _) | (with_reducible refine below_drewN ?_ _) | (with_reducible refine Below.drew ?_) | (with_reducible refine Below.alloc ?_ ?_ _) | (with_reducible refine Below.setCell ?_ ?_ _) | (with_reducible refine below_step ?_ (by assumption) ?_) | (with_reducible refine below_step ?_ (below_regrown _ _ _) ?_) | go_size))).mono ?_); rintro e w1 ⟨rfl, hb⟩; obtain ⟨hS, hE, hz, hc, hf⟩ := bcell hb; (try simp only [go_sem] at hE); subst hE) | ((with_reducible change Code.wp _ (Code.region _ _ _) _ _ _); refine wp_region_quiet_below (by kernel_rfl) (by kernel_rfl) ?_; (repeat (first | go_big_quiet_step ((first | (go_at_call 13; (with_reducible refine Calls.regrown_of (cP _ (by repeat' (first | (with_reducible exact Below.refl _ _) | (with_reducible refine below_drewN ?_ _) | (with_reducible refine Below.drew ?_) | (with_reducible refine Below.alloc ?_ ?_ _) | (with_reducible refine Below.setCell ?_ ?_ _) | (with_reducible refine below_step ?_ (by assumption) ?_) | (with_reducible refine below_step ?_ (below_regrown _ _ _) ?_) | go_size))));))) | quiet_step ((first | (go_at_call 13; (with_reducible refine Calls.regrown_of (cP _ (by repeat' (first | (with_reducible exact Below.refl _ _) | (with_reducible refine below_drewN ?_ _) | (with_reducible refine Below.drew ?_) | (with_reducible refine Below.alloc ?_ ?_ _) | (with_reducible refine Below.setCell ?_ ?_ _) | (with_reducible refine below_step ?_ (by assumption) ?_) | (with_reducible refine below_step ?_ (below_regrown _ _ _) ?_) | go_size))));))))); refine wpQuiet_nil ?_; intro w1 hw1; have hb := below_of_regrown hw1; clear hw1; obtain ⟨hS, hE, hz, hc, hf⟩ := bcell hb; (try simp only [go_sem] at hE); subst hE))
      go_ret
      exact ⟨by rw [hv.out]; rfl, (by repeat' (first | (with_reducible exact Below.refl _ _) | (with_reducible refine below_drewN ?_ _) | (with_reducible refine Below.drew ?_) | (with_reducible refine Below.alloc ?_ ?_ _) | (with_reducible refine Below.setCell ?_ ?_ _) | (with_reducible refine below_step ?_ (by assumption) ?_) | (with_reducible refine below_step ?_ (below_regrown _ _ _) ?_) | go_size))⟩
    · have g1 : (k == 1) = false := beq_false_of_ne h1
      have g2 : (k != 1) = true := bne_iff_ne.2 h1
      go_enter Tryd.func21, Tryd.ntmps21
      go_wp2_with (first | (go_at_call 13; (with_reducible refine (cP _ (by repeat' (first | (with_reducible exact Below.refl _ _) | (with_reducible refine below_drewN ?_ _) | (with_reducible refine Below.drew ?_) | (with_reducible refine Below.alloc ?_ ?_ _) | (with_reducible refine Below.setCell ?_ ?_ _) | (with_reducible refine below_step ?_ (by assumption) ?_) | (with_reducible refine below_step ?_ (below_regrown _ _ _) ?_) | go_size))).mono ?_); rintro e w1 ⟨rfl, hb⟩; obtain ⟨hS, hE, hz, hc, hf⟩ := bcell hb; (try simp only [go_sem] at hE); subst hE) | ((with_reducible change Code.wp _ (Code.region _ _ _) _ _ _); refine wp_region_quiet_below (by kernel_rfl) (by kernel_rfl) ?_; (repeat (first | go_big_quiet_step ((first | (go_at_call 13; (with_reducible refine Calls.regrown_of (cP _ (by repeat' (first | (with_reducible exact Below.refl _ _) | (with_reducible refine below_drewN ?_ _) | (with_reducible refine Below.drew ?_) | (with_reducible refine Below.alloc ?_ ?_ _) | (with_reducible refine Below.setCell ?_ ?_ _) | (with_reducible refine below_step ?_ (by assumption) ?_) | (with_reducible refine below_step ?_ (below_regrown _ _ _) ?_) | go_size))));))) | quiet_step ((first | (go_at_call 13; (with_reducible refine Calls.regrown_of (cP _ (by repeat' (first | (with_reducible exact Below.refl _ _) | (with_reducible refine below_drewN ?_ _) | (with_reducible refine Below.drew ?_) | (with_reducible refine Below.alloc ?_ ?_ _) | (with_reducible refine Below.setCell ?_ ?_ _) | (with_reducible refine below_step ?_ (by assumption) ?_) | (with_reducible refine below_step ?_ (below_regrown _ _ _) ?_) | go_size))));))))); refine wpQuiet_nil ?_; intro w1 hw1; have hb := below_of_regrown hw1; clear hw1; obtain ⟨hS, hE, hz, hc, hf⟩ := bcell hb; (try simp only [go_sem] at hE); subst hE))
      go_ret
      exact ⟨by rw [hv.out]; rfl, (by repeat' (first | (with_reducible exact Below.refl _ _) | (with_reducible refine below_drewN ?_ _) | (with_reducible refine Below.drew ?_) | (with_reducible refine Below.alloc ?_ ?_ _) | (with_reducible refine Below.setCell ?_ ?_ _) | (with_reducible refine below_step ?_ (by assumption) ?_) | (with_reducible refine below_step ?_ (below_regrown _ _ _) ?_) | go_size))⟩
end
end Go.Proofs.YtfckciblnojniaaDoor.Dk
