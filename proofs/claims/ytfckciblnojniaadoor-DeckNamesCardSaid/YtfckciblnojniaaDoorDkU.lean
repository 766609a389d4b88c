/- The id of a text, by the reference and by the program. Condition: the library's environment. -/
import Derived.Test.YtfckciblnojniaaDoorDkT
namespace Go.Proofs.YtfckciblnojniaaDoor.Dk
open Go.ChangeShapes Go.WideShapes Go.ChangeAt Go.RowKit Go.Proofs.YtfckciblnojniaaDoor.Kit Go.Proofs.YtfckciblnojniaaDoor.Flt Go.Proofs.YtfckciblnojniaaDoor.Mem Go.Proofs.YtfckciblnojniaaDoor.Rail Go.Proofs.YtfckciblnojniaaDoor.Mix Go.Proofs.YtfckciblnojniaaDoor.Num Go.Proofs.YtfckciblnojniaaDoor.Well Go.Deep Go.PlainAid
set_option linter.unusedVariables false
set_option linter.unusedSimpArgs false
theorem toL_iff (l : List UInt8) (s : ByteArray) : (⟨l.toArray⟩ : ByteArray) = s ↔ l = s.data.toList := by
  constructor
  · rintro rfl; simp
  · rintro rfl; exact mk_of s
theorem ne_list {s t : ByteArray} (h : ¬ t = s) : (t.toList == s.toList) = false := by
  rw [ByteArray.toList_eq, ByteArray.toList_eq]
  refine beq_eq_false_iff_ne.2 fun h2 => h ?_
  obtain ⟨⟨x⟩⟩ := t
  obtain ⟨⟨y⟩⟩ := s
  have h3 : x = y := h2
  rw [h3]
def retR (r : Int × Int × Int) : Value := .tuple #[.agg #[.int .i64 r.1, .int .i64 r.2.1], .int .i64 r.2.2]
theorem find_no {D : Dck} (h0 : chkD D = 0) (s : List UInt8) (h : ∀ i, i < nW D + nT D + nL D → partNm (partAt D i) ≠ s) : findF D s = (0, 3) := by
  rcases name_find h0 s with e | ⟨n, e, hn, hp⟩
  · exact e
  · exact absurd hp (h n hn)
section
variable {w : World} {B0 : Nat} {D : Dck}
set_option maxHeartbeats 8000000 in
set_option maxRecDepth 20000 in
theorem rfind_any (h : DeckI w B0 D) (hB : B0 ≤ w.heap.size) (hl : SmallD D) (s : ByteArray) :
    Calls Tryd.prog 23 #[D.val, .string s] w fun e w' => e = .returned (.tuple #[.int .i64 (findF D s.data.toList).1, .int .i64 (findF D s.data.toList).2]) ∧ Below w.heap.size w w' := by
  have cC : ∀ W, Below w.heap.size w W → Calls Tryd.prog 11 #[D.val] W fun e w' => e = .returned (.int .i64 (chkD D)) ∧ Below W.heap.size W w' :=
    fun W hb => rcheck_deck (h.below hb hB) (by have := hb.size; omega) hl
  have cP : ∀ W, Below w.heap.size w W → Calls Tryd.prog 28 #[D.val] W (PtPost W (partsD D)) :=
    fun W hb => parts_any (h.below hb hB) (by have := hb.size; omega) hl
  unfold PtPost at cP
  by_cases h0 : chkD D = 0
  case neg =>
    have hv : Hid (findF D s.data.toList = (0, chkD D)) := hide (by cases s.data.toList <;> exact if_pos h0)
    generalize findF D s.data.toList = X at *
    generalize chkD D = e0 at *
    have g1 : (e0 == 0) = false := beq_false_of_ne h0
    have g2 : (e0 != 0) = true := bne_iff_ne.2 h0
    clear h hl cP
    obtain ⟨bA, bc, bs, pA, pc, ps, rA, rc, rs, arms⟩ := D
    unfold Dck.val at cC ⊢
    dsimp only at cC ⊢
    go_enter Tryd.func23, Tryd.ntmps23
    go_wp2_with (first | (go_at_call 11; (with_reducible refine (cC _ (by repeat' (first | (with_reducible exact Below.refl _ _) | (with_reducible refine below_drewN ?_ _) | (with_reducible refine Below.drew ?_) | (with_reducible refine Below.alloc ?_ ?_ _) | (with_reducible refine Below.setCell ?_ ?_ _) | (with_reducible refine below_step ?_ (by assumption) ?_) | (with_reducible refine below_step ?_ (below_regrown _ _ _) ?_) | go_size))).mono ?_); rintro e w1 ⟨rfl, hb⟩; obtain ⟨hS, hE, hz, hc, hf⟩ := bcell hb; (try simp only [go_sem] at hE); subst hE) | ((with_reducible change Code.wp _ (Code.region _ _ _) _ _ _); refine wp_region_quiet_below (by kernel_rfl) (by kernel_rfl) ?_; (repeat (first | go_big_quiet_step ((first | (go_at_call 11; (with_reducible refine Calls.regrown_of (cC _ (by repeat' (first | (with_reducible exact Below.refl _ _) | (with_reducible refine below_drewN ?_ _) | (with_reducible refine Below.drew ?_) | (with_reducible refine Below.alloc ?_ ?_ _) | (with_reducible refine Below.setCell ?_ ?_ _) | (with_reducible refine below_step ?_ (by assumption) ?_) | (with_reducible refine below_step ?_ (below_regrown _ _ _) ?_) | go_size))));))) | quiet_step ((first | (go_at_call 11; (with_reducible refine Calls.regrown_of (cC _ (by repeat' (first | (with_reducible exact Below.refl _ _) | (with_reducible refine below_drewN ?_ _) | (with_reducible refine Below.drew ?_) | (with_reducible refine Below.alloc ?_ ?_ _) | (with_reducible refine Below.setCell ?_ ?_ _) | (with_reducible refine below_step ?_ (by assumption) ?_) | (with_reducible refine below_step ?_ (below_regrown _ _ _) ?_) | go_size))));))))); refine wpQuiet_nil ?_; intro w1 hw1; have hb := below_of_regrown hw1; clear hw1; obtain ⟨hS, hE, hz, hc, hf⟩ := bcell hb; (try simp only [go_sem] at hE); subst hE))
    go_ret2
    exact ⟨by rw [hv.out]; rfl, (by repeat' (first | (with_reducible exact Below.refl _ _) | (with_reducible refine below_drewN ?_ _) | (with_reducible refine Below.drew ?_) | (with_reducible refine Below.alloc ?_ ?_ _) | (with_reducible refine Below.setCell ?_ ?_ _) | (with_reducible refine below_step ?_ (by assumption) ?_) | (with_reducible refine below_step ?_ (below_regrown _ _ _) ?_) | go_size))⟩
  have HN := hide (fun h => find_no (D := D) h0 s.data.toList h)
  have HF := hide (fun i hi (e : partNm (partAt D i) = s.data.toList) => by have := find_name h0 (i := i) hi; rw [e] at this; exact this)
  have HNm := hide (fun i hi w => rname_at (D := D) h0 (i := i) hi w)
  have HL := hide (parts_len D)
  have HG := hide (fun i hi => parts_at (D := D) (i := i) hi ⟨0, 0, 0, 0⟩)
  have hcl := counts_le h0
  have hlen : (partsD D).length ≤ 1000 := by rw [HL.out]; omega
  rw [← HL.out] at HN HF HG HNm
  rw [h0] at cC
  clear h hl h0 HL hcl
  generalize findF D s.data.toList = X at *
  generalize partAt D = pa at *
  generalize partsD D = L at *
  obtain ⟨bA, bc, bs, pA, pc, ps, rA, rc, rs, arms⟩ := D
  unfold Dck.val at cC cP ⊢
  dsimp only at cC cP ⊢
  go_enter Tryd.func23, Tryd.ntmps23
  go_wp2_with (first | (go_at_call 11; (with_reducible refine (cC _ (by repeat' (first | (with_reducible exact Below.refl _ _) | (with_reducible refine below_drewN ?_ _) | (with_reducible refine Below.drew ?_) | (with_reducible refine Below.alloc ?_ ?_ _) | (with_reducible refine Below.setCell ?_ ?_ _) | (with_reducible refine below_step ?_ (by assumption) ?_) | (with_reducible refine below_step ?_ (below_regrown _ _ _) ?_) | go_size))).mono ?_); rintro e w1 ⟨rfl, hb⟩; obtain ⟨hS, hE, hz, hc, hf⟩ := bcell hb; (try simp only [go_sem] at hE); subst hE) | (go_at_call 28; (with_reducible refine (cP _ ?_).mono ?_); (focus (exact (by repeat' (first | (with_reducible exact Below.refl _ _) | (with_reducible refine below_drewN ?_ _) | (with_reducible refine Below.drew ?_) | (with_reducible refine Below.alloc ?_ ?_ _) | (with_reducible refine Below.setCell ?_ ?_ _) | (with_reducible refine below_step ?_ (by assumption) ?_) | (with_reducible refine below_step ?_ (below_regrown _ _ _) ?_) | go_size)))); rintro e w5 ⟨A5, c5, rfl, ho5, hb5⟩; obtain ⟨hS5, hE5, hz5, hc5, hf5⟩ := bcell hb5; (try simp only [go_sem] at hE5); subst hE5))
  have HB1 := hide (show Below w.heap.size w w5 from (by repeat' (first | (with_reducible exact Below.refl _ _) | (with_reducible refine below_drewN ?_ _) | (with_reducible refine Below.drew ?_) | (with_reducible refine Below.alloc ?_ ?_ _) | (with_reducible refine Below.setCell ?_ ?_ _) | (with_reducible refine below_step ?_ (by assumption) ?_) | (with_reducible refine below_step ?_ (below_regrown _ _ _) ?_) | go_size)))
  have HR5 := hide (srow_of_own encPt_len (by decide) ho5)
  have hws : w.heap.size + 1 ≤ w5.heap.size := by omega
  clear ho5 hb5
  go_loopw [8] (fun i wr => ∃ k : Nat, k ≤ L.length ∧ i = .int .i64 k ∧ Hid (∀ j, j < k → partNm (pa j) ≠ s.data.toList) ∧ Below w5.heap.size w5 wr) (fun i _ => L.length - (intOf i).toNat)
  case atStart => exact ⟨0, Nat.zero_le _, rfl, hide (fun j hj => absurd hj (Nat.not_lt_zero _)), Below.refl _ _⟩
  case round =>
    obtain ⟨k, hk, rfl, HJ, hbr⟩ := hrel
    have hzr := hbr.size
    have HBW : Hid (Below w.heap.size w wr) := hide (HB1.out.trans (hbr.mono (by omega)))
    by_cases hlt : k < L.length
    · obtain ⟨b, off, rfl, hbB, hcell⟩ := pt_cells HR5.out (by omega) ⟨0, 0, 0, 0⟩
      obtain ⟨d0, d1, d2, d3⟩ := hcell k (by omega)
      rw [HG.out k (by omega)] at d0 d1 d2 d3
      have d0 := (hbr.cell (p := ⟨b, off + k * 4, none⟩) (by dsimp only; omega)).trans d0
      have d1 := (hbr.cell (p := ⟨b, off + k * 4 + 1, none⟩) (by dsimp only; omega)).trans d1
      have d2 := (hbr.cell (p := ⟨b, off + k * 4 + 2, none⟩) (by dsimp only; omega)).trans d2
      have d3 := (hbr.cell (p := ⟨b, off + k * 4 + 3, none⟩) (by dsimp only; omega)).trans d3
      have hbr2 : b < wr.heap.size := by omega
      have HBR := hide hbr
      have cN := HNm.out k hlt
      unfold Pt.val at cN
      clear hcell hbr
      by_cases he : partNm (pa k) = s.data.toList
      · have hv := hide (HF.out k hlt he)
        have hn : (⟨(partNm (pa k)).toArray⟩ : ByteArray) = s := (toL_iff _ _).2 he
        rw [hn] at cN
        clear HN HF HNm HG HJ hn he
        generalize pa k = q at *
        go_wp2_with (first | (go_at_call 39; refine (cN _).mono ?_; rintro e w1 ⟨rfl, hb⟩; obtain ⟨hS, hE, hz, hc, hf⟩ := bcell hb; (try simp only [go_sem] at hE); subst hE) | ((with_reducible change Code.wp _ (Code.region _ _ _) _ _ _); refine wp_region_quiet_below (by kernel_rfl) (by kernel_rfl) ?_; (repeat (first | go_big_quiet_step ((first | (go_at_call 39; exact Calls.regrown_of (cN _)))) | quiet_step ((first | (go_at_call 39; exact Calls.regrown_of (cN _)))))); refine wpQuiet_nil ?_; intro w1 hw1; have hb := below_of_regrown hw1; clear hw1; obtain ⟨hS, hE, hz, hc, hf⟩ := bcell hb; (try simp only [go_sem] at hE); subst hE))
        go_ret2
        exact ⟨by rw [hv.out]; rfl, HBW.out.trans (by repeat' (first | (with_reducible exact Below.refl _ _) | (with_reducible refine below_drewN ?_ _) | (with_reducible refine Below.drew ?_) | (with_reducible refine Below.alloc ?_ ?_ _) | (with_reducible refine Below.setCell ?_ ?_ _) | (with_reducible refine below_step ?_ (by assumption) ?_) | (with_reducible refine below_step ?_ (below_regrown _ _ _) ?_) | go_size))⟩
      · have HJ2 : Hid (∀ j, j < k + 1 → partNm (pa j) ≠ s.data.toList) := hide (fun j hj => by
          by_cases e : j = k
          · rw [e]; exact he
          · exact HJ.out j (by omega))
        have hn : ¬ (⟨(partNm (pa k)).toArray⟩ : ByteArray) = s := fun h => he ((toL_iff _ _).1 h)
        have hn2 := ne_list hn
        clear HJ HN HF HG HNm he
        generalize (⟨(partNm (pa k)).toArray⟩ : ByteArray) = nm at *
        generalize pa k = q at *
        go_wp2_with (first | (go_at_call 39; refine (cN _).mono ?_; rintro e w1 ⟨rfl, hb⟩; obtain ⟨hS, hE, hz, hc, hf⟩ := bcell hb; (try simp only [go_sem] at hE); subst hE) | ((with_reducible change Code.wp _ (Code.region _ _ _) _ _ _); refine wp_region_quiet_below (by kernel_rfl) (by kernel_rfl) ?_; (repeat (first | go_big_quiet_step ((first | (go_at_call 39; exact Calls.regrown_of (cN _)))) | quiet_step ((first | (go_at_call 39; exact Calls.regrown_of (cN _)))))); refine wpQuiet_nil ?_; intro w1 hw1; have hb := below_of_regrown hw1; clear hw1; obtain ⟨hS, hE, hz, hc, hf⟩ := bcell hb; (try simp only [go_sem] at hE); subst hE))
        exact ⟨⟨k + 1, by omega, by go_num, HJ2, HBR.out.trans (by repeat' (first | (with_reducible exact Below.refl _ _) | (with_reducible refine below_drewN ?_ _) | (with_reducible refine Below.drew ?_) | (with_reducible refine Below.alloc ?_ ?_ _) | (with_reducible refine Below.setCell ?_ ?_ _) | (with_reducible refine below_step ?_ (by assumption) ?_) | (with_reducible refine below_step ?_ (below_regrown _ _ _) ?_) | go_size))⟩, by simp [intOf]; omega⟩
    · obtain rfl : k = L.length := by omega
      have hv := hide (HN.out HJ.out)
      go_wp2_with (first | ((with_reducible change Code.wp _ (Code.region _ _ _) _ _ _); refine wp_region_quiet_below (by kernel_rfl) (by kernel_rfl) ?_; (repeat (first | go_big_quiet_step (fail) | quiet_step (fail))); refine wpQuiet_nil ?_; intro w1 hw1; have hb := below_of_regrown hw1; clear hw1; obtain ⟨hS, hE, hz, hc, hf⟩ := bcell hb; (try simp only [go_sem] at hE); subst hE))
      go_ret2
      exact ⟨by rw [hv.out]; rfl, HBW.out⟩
end
end Go.Proofs.YtfckciblnojniaaDoor.Dk
