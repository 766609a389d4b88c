/- The part of an id and the id of a part, by the reference. No condition. -/
import Derived.Test.YtfckciblnojniaaDoorDkN
import Derived.Test.YtfckciblnojniaaDoorDkL
namespace Go.Proofs.YtfckciblnojniaaDoor.Dk
open Go.ChangeShapes Go.WideShapes Go.ChangeAt Go.RowKit Go.Proofs.YtfckciblnojniaaDoor.Kit Go.Proofs.YtfckciblnojniaaDoor.Flt Go.Proofs.YtfckciblnojniaaDoor.Mem Go.Proofs.YtfckciblnojniaaDoor.Rail Go.Proofs.YtfckciblnojniaaDoor.Mix Go.Deep
set_option linter.unusedVariables false
set_option linter.unusedSimpArgs false
theorem pt_cells {w : World} {B0 n : Nat} {A : Option Addr} {ps : List Pt} (h : SRow encPt 4 w B0 A n ps) (h0 : 0 < n) (d : Pt) : ∃ b off, A = some ⟨b, off, none⟩ ∧ b < B0 ∧ ∀ j, j < n →
    w.cell? ⟨b, off + j * 4, none⟩ = some (.int .i64 (ps.getD j d).k) ∧ w.cell? ⟨b, off + j * 4 + 1, none⟩ = some (.int .i64 (ps.getD j d).u) ∧ w.cell? ⟨b, off + j * 4 + 2, none⟩ = some (.int .i64 (ps.getD j d).r) ∧ w.cell? ⟨b, off + j * 4 + 3, none⟩ = some (.int .i64 (ps.getD j d).c) := by
  obtain ⟨b, off, rfl, hb, hc⟩ := h.cells encPt_len (by decide) d h0
  exact ⟨b, off, rfl, hb, fun j hj => ⟨hc j hj 0 (by decide), hc j hj 1 (by decide), hc j hj 2 (by decide), hc j hj 3 (by decide)⟩⟩
theorem parts_at {D : Dck} {i : Nat} (h : i < nW D + nT D + nL D) (d : Pt) : (partsD D).getD i d = partAt D i := by
  rw [List.getD_eq_getElem?_getD, parts_get D i h]; rfl
set_option maxHeartbeats 8000000 in
set_option maxRecDepth 20000 in
theorem rpart_any {w : World} {B0 : Nat} {D : Dck} (h : DeckI w B0 D) (hB : B0 ≤ w.heap.size) (hl : SmallD D) (id : Int) :
    Calls Tryd.prog 13 #[D.val, .int .i64 id] w fun e w' => e = .returned (.tuple #[(partF D id).1.val, .int .i64 (partF D id).2]) ∧ Below w.heap.size w w' := by
  have cC : ∀ W, Below w.heap.size w W → Calls Tryd.prog 11 #[D.val] W fun e w' => e = .returned (.int .i64 (chkD D)) ∧ Below W.heap.size W w' :=
    fun W hb => rcheck_deck (h.below hb hB) (by have := hb.size; omega) hl
  have cP : ∀ W, Below w.heap.size w W → Calls Tryd.prog 28 #[D.val] W (PtPost W (partsD D)) :=
    fun W hb => parts_any (h.below hb hB) (by have := hb.size; omega) hl
  unfold PtPost at cP
  by_cases h0 : chkD D = 0
  case neg =>
    have hv : Hid (partF D id = (⟨0, 0, 0, 0⟩, chkD D)) := hide (if_pos h0)
    generalize partF D id = X at *
    generalize chkD D = e0 at *
    have g1 : (e0 == 0) = false := beq_false_of_ne h0
    have g2 : (e0 != 0) = true := bne_iff_ne.2 h0
    clear h hl cP
    obtain ⟨bA, bc, bs, pA, pc, ps, rA, rc, rs, arms⟩ := D
    unfold Dck.val at cC ⊢
    dsimp only at cC ⊢
    go_enter Tryd.func13, Tryd.ntmps13
    go_wp2_with (first | (go_at_call 11; (with_reducible refine (cC _ (by repeat' (first | (with_reducible exact Below.refl _ _) | (with_reducible refine below_drewN ?_ _) | (with_reducible refine Below.drew ?_) | (with_reducible refine Below.alloc ?_ ?_ _) | (with_reducible refine Below.setCell ?_ ?_ _) | (with_reducible refine below_step ?_ (by assumption) ?_) | (with_reducible refine below_step ?_ (below_regrown _ _ _) ?_) | go_size))).mono ?_); rintro e w1 ⟨rfl, hb⟩; obtain ⟨hS, hE, hz, hc, hf⟩ := bcell hb; (try simp only [go_sem] at hE); subst hE) | ((with_reducible change Code.wp _ (Code.region _ _ _) _ _ _); refine wp_region_quiet_below (by kernel_rfl) (by kernel_rfl) ?_; (repeat (first | go_big_quiet_step ((first | (go_at_call 11; (with_reducible refine Calls.regrown_of (cC _ (by repeat' (first | (with_reducible exact Below.refl _ _) | (with_reducible refine below_drewN ?_ _) | (with_reducible refine Below.drew ?_) | (with_reducible refine Below.alloc ?_ ?_ _) | (with_reducible refine Below.setCell ?_ ?_ _) | (with_reducible refine below_step ?_ (by assumption) ?_) | (with_reducible refine below_step ?_ (below_regrown _ _ _) ?_) | go_size))));))) | quiet_step ((first | (go_at_call 11; (with_reducible refine Calls.regrown_of (cC _ (by repeat' (first | (with_reducible exact Below.refl _ _) | (with_reducible refine below_drewN ?_ _) | (with_reducible refine Below.drew ?_) | (with_reducible refine Below.alloc ?_ ?_ _) | (with_reducible refine Below.setCell ?_ ?_ _) | (with_reducible refine below_step ?_ (by assumption) ?_) | (with_reducible refine below_step ?_ (below_regrown _ _ _) ?_) | go_size))));))))); refine wpQuiet_nil ?_; intro w1 hw1; have hb := below_of_regrown hw1; clear hw1; obtain ⟨hS, hE, hz, hc, hf⟩ := bcell hb; (try simp only [go_sem] at hE); subst hE))
    (refine bodyPost_ret (v := .tuple #[.agg #[.int .i64 0, .int .i64 0, .int .i64 0, .int .i64 0], .int .i64 e0]) ?_ rfl ⟨by rw [(hv).out]; rfl, (by repeat' (first | (with_reducible exact Below.refl _ _) | (with_reducible refine below_drewN ?_ _) | (with_reducible refine Below.drew ?_) | (with_reducible refine Below.alloc ?_ ?_ _) | (with_reducible refine Below.setCell ?_ ?_ _) | (with_reducible refine below_step ?_ (by assumption) ?_) | (with_reducible refine below_step ?_ (below_regrown _ _ _) ?_) | go_size))⟩; simp only [results, Tryd.results13]; go_simp)
  have HV : Hid (partF D id = if id < 0 ∨ ((nW D + nT D + nL D : Nat) : Int) ≤ id then (⟨0, 0, 0, 0⟩, 3) else (partAt D id.toNat, 0)) := hide (if_neg (by simpa using h0))
  have HL := hide (parts_len D)
  have HG := hide (fun i hi => parts_at (D := D) (i := i) hi ⟨0, 0, 0, 0⟩)
  have hcl := counts_le h0
  have hlen : (partsD D).length ≤ 1000 := by rw [HL.out]; omega
  rw [← HL.out] at HV HG
  rw [h0] at cC
  clear h hl h0 HL hcl
  generalize partF D id = X at *
  generalize partAt D = pa at *
  generalize partsD D = L at *
  obtain ⟨bA, bc, bs, pA, pc, ps, rA, rc, rs, arms⟩ := D
  unfold Dck.val at cC cP ⊢
  dsimp only at cC cP ⊢
  by_cases h1 : id < 0
  · have hv : Hid (X = (⟨0, 0, 0, 0⟩, 3)) := hide (HV.out.trans (if_pos (.inl h1)))
    clear HV
    go_enter Tryd.func13, Tryd.ntmps13
    go_wp2_with (first | (go_at_call 11; (with_reducible refine (cC _ (by repeat' (first | (with_reducible exact Below.refl _ _) | (with_reducible refine below_drewN ?_ _) | (with_reducible refine Below.drew ?_) | (with_reducible refine Below.alloc ?_ ?_ _) | (with_reducible refine Below.setCell ?_ ?_ _) | (with_reducible refine below_step ?_ (by assumption) ?_) | (with_reducible refine below_step ?_ (below_regrown _ _ _) ?_) | go_size))).mono ?_); rintro e w1 ⟨rfl, hb⟩; obtain ⟨hS, hE, hz, hc, hf⟩ := bcell hb; (try simp only [go_sem] at hE); subst hE) | (go_at_call 28; (with_reducible refine (cP _ ?_).mono ?_); (focus (exact (by repeat' (first | (with_reducible exact Below.refl _ _) | (with_reducible refine below_drewN ?_ _) | (with_reducible refine Below.drew ?_) | (with_reducible refine Below.alloc ?_ ?_ _) | (with_reducible refine Below.setCell ?_ ?_ _) | (with_reducible refine below_step ?_ (by assumption) ?_) | (with_reducible refine below_step ?_ (below_regrown _ _ _) ?_) | go_size)))); rintro e w5 ⟨A5, c5, rfl, ho5, hb5⟩; obtain ⟨hS5, hE5, hz5, hc5, hf5⟩ := bcell hb5; (try simp only [go_sem] at hE5); subst hE5))
    (refine bodyPost_ret (v := .tuple #[.agg #[.int .i64 0, .int .i64 0, .int .i64 0, .int .i64 0], .int .i64 3]) ?_ rfl ⟨by rw [(hv).out]; rfl, (by repeat' (first | (with_reducible exact Below.refl _ _) | (with_reducible refine below_drewN ?_ _) | (with_reducible refine Below.drew ?_) | (with_reducible refine Below.alloc ?_ ?_ _) | (with_reducible refine Below.setCell ?_ ?_ _) | (with_reducible refine below_step ?_ (by assumption) ?_) | (with_reducible refine below_step ?_ (below_regrown _ _ _) ?_) | go_size))⟩; simp only [results, Tryd.results13]; go_simp)
  obtain ⟨i, rfl⟩ := Int.eq_ofNat_of_zero_le (show 0 ≤ id by omega)
  clear h1
  by_cases h2 : L.length ≤ i
  · have hv : Hid (X = (⟨0, 0, 0, 0⟩, 3)) := hide (HV.out.trans (if_pos (.inr (by omega))))
    clear HV
    go_enter Tryd.func13, Tryd.ntmps13
    go_wp2_with (first | (go_at_call 11; (with_reducible refine (cC _ (by repeat' (first | (with_reducible exact Below.refl _ _) | (with_reducible refine below_drewN ?_ _) | (with_reducible refine Below.drew ?_) | (with_reducible refine Below.alloc ?_ ?_ _) | (with_reducible refine Below.setCell ?_ ?_ _) | (with_reducible refine below_step ?_ (by assumption) ?_) | (with_reducible refine below_step ?_ (below_regrown _ _ _) ?_) | go_size))).mono ?_); rintro e w1 ⟨rfl, hb⟩; obtain ⟨hS, hE, hz, hc, hf⟩ := bcell hb; (try simp only [go_sem] at hE); subst hE) | (go_at_call 28; (with_reducible refine (cP _ ?_).mono ?_); (focus (exact (by repeat' (first | (with_reducible exact Below.refl _ _) | (with_reducible refine below_drewN ?_ _) | (with_reducible refine Below.drew ?_) | (with_reducible refine Below.alloc ?_ ?_ _) | (with_reducible refine Below.setCell ?_ ?_ _) | (with_reducible refine below_step ?_ (by assumption) ?_) | (with_reducible refine below_step ?_ (below_regrown _ _ _) ?_) | go_size)))); rintro e w5 ⟨A5, c5, rfl, ho5, hb5⟩; obtain ⟨hS5, hE5, hz5, hc5, hf5⟩ := bcell hb5; (try simp only [go_sem] at hE5); subst hE5))
    (refine bodyPost_ret (v := .tuple #[.agg #[.int .i64 0, .int .i64 0, .int .i64 0, .int .i64 0], .int .i64 3]) ?_ rfl ⟨by rw [(hv).out]; rfl, (by repeat' (first | (with_reducible exact Below.refl _ _) | (with_reducible refine below_drewN ?_ _) | (with_reducible refine Below.drew ?_) | (with_reducible refine Below.alloc ?_ ?_ _) | (with_reducible refine Below.setCell ?_ ?_ _) | (with_reducible refine below_step ?_ (by assumption) ?_) | (with_reducible refine below_step ?_ (below_regrown _ _ _) ?_) | go_size))⟩; simp only [results, Tryd.results13]; go_simp)
  have hv : Hid (X = (pa i, 0)) := hide (by rw [HV.out, if_neg (by omega), Int.toNat_natCast])
  clear HV
  go_enter Tryd.func13, Tryd.ntmps13
  go_wp2_with (first | (go_at_call 11; (with_reducible refine (cC _ (by repeat' (first | (with_reducible exact Below.refl _ _) | (with_reducible refine below_drewN ?_ _) | (with_reducible refine Below.drew ?_) | (with_reducible refine Below.alloc ?_ ?_ _) | (with_reducible refine Below.setCell ?_ ?_ _) | (with_reducible refine below_step ?_ (by assumption) ?_) | (with_reducible refine below_step ?_ (below_regrown _ _ _) ?_) | go_size))).mono ?_); rintro e w1 ⟨rfl, hb⟩; obtain ⟨hS, hE, hz, hc, hf⟩ := bcell hb; (try simp only [go_sem] at hE); subst hE) | (go_at_call 28; (with_reducible refine (cP _ ?_).mono ?_); (focus (exact (by repeat' (first | (with_reducible exact Below.refl _ _) | (with_reducible refine below_drewN ?_ _) | (with_reducible refine Below.drew ?_) | (with_reducible refine Below.alloc ?_ ?_ _) | (with_reducible refine Below.setCell ?_ ?_ _) | (with_reducible refine below_step ?_ (by assumption) ?_) | (with_reducible refine below_step ?_ (below_regrown _ _ _) ?_) | go_size)))); rintro e w5 ⟨A5, c5, rfl, ho5, hb5⟩; (obtain ⟨b, off, rfl, hbB, hcell⟩ := pt_cells (srow_of_own encPt_len (by decide) ho5) (by omega) ⟨0, 0, 0, 0⟩); (obtain ⟨d0, d1, d2, d3⟩ := hcell i (by omega)); (rw [HG.out i (by omega)] at d0 d1 d2 d3); clear hcell ho5; obtain ⟨hS5, hE5, hz5, hc5, hf5⟩ := bcell hb5; (try simp only [go_sem] at hE5); subst hE5))
  (refine bodyPost_ret (v := .tuple #[.agg #[.int .i64 (pa i).k, .int .i64 (pa i).u, .int .i64 (pa i).r, .int .i64 (pa i).c], .int .i64 0]) ?_ rfl ⟨by rw [(hv).out]; rfl, (by repeat' (first | (with_reducible exact Below.refl _ _) | (with_reducible refine below_drewN ?_ _) | (with_reducible refine Below.drew ?_) | (with_reducible refine Below.alloc ?_ ?_ _) | (with_reducible refine Below.setCell ?_ ?_ _) | (with_reducible refine below_step ?_ (by assumption) ?_) | (with_reducible refine below_step ?_ (below_regrown _ _ _) ?_) | go_size))⟩; simp only [results, Tryd.results13]; go_simp)
theorem pt_ne {q p : Pt} (h : ¬ q = p) : (q.k == p.k) = false ∨ (q.k = p.k ∧ (q.u == p.u) = false) ∨ (q.k = p.k ∧ q.u = p.u ∧ (q.r == p.r) = false) ∨ (q.k = p.k ∧ q.u = p.u ∧ q.r = p.r ∧ (q.c == p.c) = false) := by
  obtain ⟨a, b, c, d⟩ := q
  obtain ⟨a2, b2, c2, d2⟩ := p
  dsimp only
  by_cases h1 : a = a2
  case neg => exact .inl (beq_false_of_ne h1)
  by_cases h2 : b = b2
  case neg => exact .inr (.inl ⟨h1, beq_false_of_ne h2⟩)
  by_cases h3 : c = c2
  case neg => exact .inr (.inr (.inl ⟨h1, h2, beq_false_of_ne h3⟩))
  exact .inr (.inr (.inr ⟨h1, h2, h3, beq_false_of_ne fun h4 => h (by rw [h1, h2, h3, h4])⟩))
theorem id_none {D : Dck} {p : Pt} (h0 : chkD D = 0) (h : ∀ i, i < nW D + nT D + nL D → partAt D i ≠ p) : idF D p = (0, 3) := by
  by_cases g : (stepF D p).1 < 0
  · unfold idF; rw [if_neg (by simpa using h0), if_pos g]
  · have e : idF D p = (((stepF D p).2 : Int) + (stepF D p).1, 0) := by unfold idF; rw [if_neg (by simpa using h0), if_neg g]
    obtain ⟨_, h2, h3⟩ := part_id h0 e
    exact absurd h3 (h _ h2)
set_option maxHeartbeats 8000000 in
set_option maxRecDepth 20000 in
theorem rid_any {w : World} {B0 : Nat} {D : Dck} (h : DeckI w B0 D) (hB : B0 ≤ w.heap.size) (hl : SmallD D) (p : Pt) :
    Calls Tryd.prog 15 #[D.val, p.val] w fun e w' => e = .returned (.tuple #[.int .i64 (idF D p).1, .int .i64 (idF D p).2]) ∧ Below w.heap.size w w' := by
  have cC : ∀ W, Below w.heap.size w W → Calls Tryd.prog 11 #[D.val] W fun e w' => e = .returned (.int .i64 (chkD D)) ∧ Below W.heap.size W w' :=
    fun W hb => rcheck_deck (h.below hb hB) (by have := hb.size; omega) hl
  have cP : ∀ W, Below w.heap.size w W → Calls Tryd.prog 28 #[D.val] W (PtPost W (partsD D)) :=
    fun W hb => parts_any (h.below hb hB) (by have := hb.size; omega) hl
  unfold PtPost at cP
  by_cases h0 : chkD D = 0
  case neg =>
    have hv : Hid (idF D p = (0, chkD D)) := hide (if_pos h0)
    generalize idF D p = X at *
    generalize chkD D = e0 at *
    have g1 : (e0 == 0) = false := beq_false_of_ne h0
    have g2 : (e0 != 0) = true := bne_iff_ne.2 h0
    clear h hl cP
    obtain ⟨bA, bc, bs, pA, pc, ps, rA, rc, rs, arms⟩ := D
    obtain ⟨k, u, r, cc⟩ := p
    unfold Dck.val at cC ⊢
    unfold Pt.val
    dsimp only at cC ⊢
    go_enter Tryd.func15, Tryd.ntmps15
    go_wp2_with (first | (go_at_call 11; (with_reducible refine (cC _ (by repeat' (first | (with_reducible exact Below.refl _ _) | (with_reducible refine below_drewN ?_ _) | (with_reducible refine Below.drew ?_) | (with_reducible refine Below.alloc ?_ ?_ _) | (with_reducible refine Below.setCell ?_ ?_ _) | (with_reducible refine below_step ?_ (by assumption) ?_) | (with_reducible refine below_step ?_ (below_regrown _ _ _) ?_) | go_size))).mono ?_); rintro e w1 ⟨rfl, hb⟩; obtain ⟨hS, hE, hz, hc, hf⟩ := bcell hb; (try simp only [go_sem] at hE); subst hE) | ((with_reducible change Code.wp _ (Code.region _ _ _) _ _ _); refine wp_region_quiet_below (by kernel_rfl) (by kernel_rfl) ?_; (repeat (first | go_big_quiet_step ((first | (go_at_call 11; (with_reducible refine Calls.regrown_of (cC _ (by repeat' (first | (with_reducible exact Below.refl _ _) | (with_reducible refine below_drewN ?_ _) | (with_reducible refine Below.drew ?_) | (with_reducible refine Below.alloc ?_ ?_ _) | (with_reducible refine Below.setCell ?_ ?_ _) | (with_reducible refine below_step ?_ (by assumption) ?_) | (with_reducible refine below_step ?_ (below_regrown _ _ _) ?_) | go_size))));))) | quiet_step ((first | (go_at_call 11; (with_reducible refine Calls.regrown_of (cC _ (by repeat' (first | (with_reducible exact Below.refl _ _) | (with_reducible refine below_drewN ?_ _) | (with_reducible refine Below.drew ?_) | (with_reducible refine Below.alloc ?_ ?_ _) | (with_reducible refine Below.setCell ?_ ?_ _) | (with_reducible refine below_step ?_ (by assumption) ?_) | (with_reducible refine below_step ?_ (below_regrown _ _ _) ?_) | go_size))));))))); refine wpQuiet_nil ?_; intro w1 hw1; have hb := below_of_regrown hw1; clear hw1; obtain ⟨hS, hE, hz, hc, hf⟩ := bcell hb; (try simp only [go_sem] at hE); subst hE))
    go_ret2
    exact ⟨by rw [hv.out]; rfl, (by repeat' (first | (with_reducible exact Below.refl _ _) | (with_reducible refine below_drewN ?_ _) | (with_reducible refine Below.drew ?_) | (with_reducible refine Below.alloc ?_ ?_ _) | (with_reducible refine Below.setCell ?_ ?_ _) | (with_reducible refine below_step ?_ (by assumption) ?_) | (with_reducible refine below_step ?_ (below_regrown _ _ _) ?_) | go_size))⟩
  have HN := hide (fun h => id_none (D := D) (p := p) h0 h)
  have HF := hide (fun i hi (e : partAt D i = p) => by have := id_part h0 (i := i) hi; rw [e] at this; exact this)
  have HL := hide (parts_len D)
  have HG := hide (fun i hi => parts_at (D := D) (i := i) hi ⟨0, 0, 0, 0⟩)
  have hcl := counts_le h0
  have hlen : (partsD D).length ≤ 1000 := by rw [HL.out]; omega
  rw [← HL.out] at HN HF HG
  rw [h0] at cC
  clear h hl h0 HL hcl
  generalize idF D p = X at *
  generalize partAt D = pa at *
  generalize partsD D = L at *
  obtain ⟨bA, bc, bs, pA, pc, ps, rA, rc, rs, arms⟩ := D
  unfold Dck.val at cC cP ⊢
  dsimp only at cC cP ⊢
  go_enter Tryd.func15, Tryd.ntmps15
  unfold Pt.val
  go_wp2_with (first | (go_at_call 11; (with_reducible refine (cC _ (by repeat' (first | (with_reducible exact Below.refl _ _) | (with_reducible refine below_drewN ?_ _) | (with_reducible refine Below.drew ?_) | (with_reducible refine Below.alloc ?_ ?_ _) | (with_reducible refine Below.setCell ?_ ?_ _) | (with_reducible refine below_step ?_ (by assumption) ?_) | (with_reducible refine below_step ?_ (below_regrown _ _ _) ?_) | go_size))).mono ?_); rintro e w1 ⟨rfl, hb⟩; obtain ⟨hS, hE, hz, hc, hf⟩ := bcell hb; (try simp only [go_sem] at hE); subst hE) | (go_at_call 28; (with_reducible refine (cP _ ?_).mono ?_); (focus (exact (by repeat' (first | (with_reducible exact Below.refl _ _) | (with_reducible refine below_drewN ?_ _) | (with_reducible refine Below.drew ?_) | (with_reducible refine Below.alloc ?_ ?_ _) | (with_reducible refine Below.setCell ?_ ?_ _) | (with_reducible refine below_step ?_ (by assumption) ?_) | (with_reducible refine below_step ?_ (below_regrown _ _ _) ?_) | go_size)))); rintro e w5 ⟨A5, c5, rfl, ho5, hb5⟩; obtain ⟨hS5, hE5, hz5, hc5, hf5⟩ := bcell hb5; (try simp only [go_sem] at hE5); subst hE5))
  have HB1 := hide (show Below w.heap.size w w5 from (by repeat' (first | (with_reducible exact Below.refl _ _) | (with_reducible refine below_drewN ?_ _) | (with_reducible refine Below.drew ?_) | (with_reducible refine Below.alloc ?_ ?_ _) | (with_reducible refine Below.setCell ?_ ?_ _) | (with_reducible refine below_step ?_ (by assumption) ?_) | (with_reducible refine below_step ?_ (below_regrown _ _ _) ?_) | go_size)))
  have HR5 := hide (srow_of_own encPt_len (by decide) ho5)
  have q0 : w5.cell? ⟨w.heap.size + 1, 0, none⟩ = some (.int .i64 p.k) := by go_simp
  have q1 : w5.cell? ⟨w.heap.size + 1, 1, none⟩ = some (.int .i64 p.u) := by go_simp
  have q2 : w5.cell? ⟨w.heap.size + 1, 2, none⟩ = some (.int .i64 p.r) := by go_simp
  have q3 : w5.cell? ⟨w.heap.size + 1, 3, none⟩ = some (.int .i64 p.c) := by go_simp
  have hws : w.heap.size + 2 ≤ w5.heap.size := by omega
  clear ho5 hb5
  go_loopw [8] (fun i wr => ∃ k : Nat, k ≤ L.length ∧ i = .int .i64 k ∧ Hid (∀ j, j < k → pa j ≠ p) ∧ Below w5.heap.size w5 wr) (fun i _ => L.length - (intOf i).toNat)
  case atStart => exact ⟨0, Nat.zero_le _, rfl, hide (fun j hj => absurd hj (Nat.not_lt_zero _)), Below.refl _ _⟩
  case round =>
    obtain ⟨k, hk, rfl, HJ, hbr⟩ := hrel
    have hzr := hbr.size
    have HBW : Hid (Below w.heap.size w wr) := hide (HB1.out.trans (hbr.mono (by omega)))
    by_cases hlt : k < L.length
    · obtain ⟨b, off, rfl, hbB, hcell⟩ := pt_cells HR5.out (by omega) ⟨0, 0, 0, 0⟩
      obtain ⟨d0, d1, d2, d3⟩ := hcell k (by omega)
      rw [HG.out k (by omega)] at d0 d1 d2 d3
      have d0 := (hbr.cell (p := ⟨b, off + k * 4, none⟩) (by dsimp only; omega)).trans d0
      have d1 := (hbr.cell (p := ⟨b, off + k * 4 + 1, none⟩) (by dsimp only; omega)).trans d1
      have d2 := (hbr.cell (p := ⟨b, off + k * 4 + 2, none⟩) (by dsimp only; omega)).trans d2
      have d3 := (hbr.cell (p := ⟨b, off + k * 4 + 3, none⟩) (by dsimp only; omega)).trans d3
      have q0 := (hbr.cell (p := ⟨w.heap.size + 1, 0, none⟩) (by dsimp only; omega)).trans q0
      have q1 := (hbr.cell (p := ⟨w.heap.size + 1, 1, none⟩) (by dsimp only; omega)).trans q1
      have q2 := (hbr.cell (p := ⟨w.heap.size + 1, 2, none⟩) (by dsimp only; omega)).trans q2
      have q3 := (hbr.cell (p := ⟨w.heap.size + 1, 3, none⟩) (by dsimp only; omega)).trans q3
      have hbr2 : b < wr.heap.size := by omega
      have HBR := hide hbr
      clear hcell hbr
      by_cases he : pa k = p
      · have hv := hide (HF.out k hlt he)
        rw [he] at d0 d1 d2 d3
        go_wp2_with (first | ((with_reducible change Code.wp _ (Code.region _ _ _) _ _ _); refine wp_region_quiet_below (by kernel_rfl) (by kernel_rfl) ?_; (repeat (first | go_big_quiet_step (fail) | quiet_step (fail))); refine wpQuiet_nil ?_; intro w1 hw1; have hb := below_of_regrown hw1; clear hw1; obtain ⟨hS, hE, hz, hc, hf⟩ := bcell hb; (try simp only [go_sem] at hE); subst hE))
        go_ret2
        exact ⟨by rw [hv.out]; rfl, HBW.out.trans (by repeat' (first | (with_reducible exact Below.refl _ _) | (with_reducible refine below_drewN ?_ _) | (with_reducible refine Below.drew ?_) | (with_reducible refine Below.alloc ?_ ?_ _) | (with_reducible refine Below.setCell ?_ ?_ _) | (with_reducible refine below_step ?_ (by assumption) ?_) | (with_reducible refine below_step ?_ (below_regrown _ _ _) ?_) | go_size))⟩
      · have HJ2 : Hid (∀ j, j < k + 1 → pa j ≠ p) := hide (fun j hj => by
          by_cases e : j = k
          · rw [e]; exact he
          · exact HJ.out j (by omega))
        clear HJ HN HF HG
        have hne := pt_ne he
        generalize pa k = q at *
        obtain ⟨qk, qu, qr, qc⟩ := q
        obtain ⟨k0, u, r, cc⟩ := p
        dsimp only at d0 d1 d2 d3 q0 q1 q2 q3 hne
        rcases hne with h | ⟨rfl, h⟩ | ⟨rfl, rfl, h⟩ | ⟨rfl, rfl, rfl, h⟩
        all_goals
          go_wp2_with (first | ((with_reducible change Code.wp _ (Code.region _ _ _) _ _ _); refine wp_region_quiet_below (by kernel_rfl) (by kernel_rfl) ?_; (repeat (first | go_big_quiet_step (fail) | quiet_step (fail))); refine wpQuiet_nil ?_; intro w1 hw1; have hb := below_of_regrown hw1; clear hw1; obtain ⟨hS, hE, hz, hc, hf⟩ := bcell hb; (try simp only [go_sem] at hE); subst hE))
          exact ⟨⟨k + 1, by omega, by go_num, HJ2, HBR.out.trans (by repeat' (first | (with_reducible exact Below.refl _ _) | (with_reducible refine below_drewN ?_ _) | (with_reducible refine Below.drew ?_) | (with_reducible refine Below.alloc ?_ ?_ _) | (with_reducible refine Below.setCell ?_ ?_ _) | (with_reducible refine below_step ?_ (by assumption) ?_) | (with_reducible refine below_step ?_ (below_regrown _ _ _) ?_) | go_size))⟩, by simp [intOf]; omega⟩
    · obtain rfl : k = L.length := by omega
      have hv := hide (HN.out HJ.out)
      go_wp2_with (first | ((with_reducible change Code.wp _ (Code.region _ _ _) _ _ _); refine wp_region_quiet_below (by kernel_rfl) (by kernel_rfl) ?_; (repeat (first | go_big_quiet_step (fail) | quiet_step (fail))); refine wpQuiet_nil ?_; intro w1 hw1; have hb := below_of_regrown hw1; clear hw1; obtain ⟨hS, hE, hz, hc, hf⟩ := bcell hb; (try simp only [go_sem] at hE); subst hE))
      go_ret2
      exact ⟨by rw [hv.out]; rfl, HBW.out⟩
end Go.Proofs.YtfckciblnojniaaDoor.Dk
