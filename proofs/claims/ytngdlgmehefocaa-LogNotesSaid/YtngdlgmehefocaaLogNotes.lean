/- For all logs and changes the law 'LogNotes' returns true. No condition. -/
import Derived.Test.YtngdlgmehefocaaLogO
namespace Go.Proofs.Ytngdlgmehefocaa.LogNotes
open Go.ChangeShapes Go.WideShapes Go.ChangeAt Go.RowKit Go.Proofs.Ytngdlgmehefocaa.Kit Go.Proofs.Ytngdlgmehefocaa.Mem Go.Proofs.Ytngdlgmehefocaa.Mix Go.Proofs.Ytngdlgmehefocaa.Log Go.Joins
set_option linter.unusedVariables false
set_option linter.unusedSimpArgs false
theorem note_len {room last b m : Int} {cs : List Chg} (h : cs.length ≤ 200) : (noteL room last cs b m).2.2.1.length ≤ 201 := by
  unfold noteL
  split
  · simp
  · split
    · simp
    · split
      · simp
      · have : (cutL room cs).length ≤ cs.length := by unfold cutL; simp
        simp only [List.length_append, List.length_singleton]
        omega
theorem note_ok {room last b m : Int} {cs : List Chg} (h : (noteL room last cs b m).2.2.2 = 0) : rightL (noteL room last cs b m).1 (noteL room last cs b m).2.1 (noteL room last cs b m).2.2.1 = true := by
  unfold noteL at *
  split at h
  · simp at h
  · rename_i h1
    split at h
    · simp at h
    · rename_i h2
      split at h
      · simp at h
      · rename_i h3
        rw [if_neg h1, if_neg h2, if_neg h3]
        exact note_right (by simpa using h1) (by simpa using h2) h3
def CopyF (g : Nat) (room last : Int) (cs : List Chg) : Nat → Value → World → Prop
  | 4, v, w => ∃ b2, v = .slice (some ⟨b2, 0, none⟩) 0 0 ∧ w.ownsRow g 32 3 (.slice (some ⟨b2, 0, none⟩) 0 0) 0 (SV encC [])
  | 7, v, w => ∃ A c, v = .slice A cs.length c ∧ cs.length ≤ c ∧ c ≤ maxLen ∧ w.ownsRow g 32 3 (.slice A cs.length c) cs.length (SV encC cs)
  | 8, v, w => ∃ A c, v = .agg #[.int .i64 room, .int .i64 last, .slice A cs.length c] ∧ cs.length ≤ c ∧ c ≤ maxLen ∧ w.ownsRow g 32 3 (.slice A cs.length c) cs.length (SV encC cs)
  | 9, v, w => ∃ b, v = .pointer (some ⟨b, 0, none⟩) ∧ g ≤ b ∧ w.heap[b]? = some (.cells #[.int .i64 0, .int .i64 0, .slice none 0 0] 24 (0, 0))
  | _, _, _ => True
theorem copyF_st {g : Nat} {room last : Int} {cs : List Chg} : ∀ k v w w', Below w.heap.size w w' → CopyF g room last cs k v w → CopyF g room last cs k v w' := by
  intro k v w w' hb h
  unfold CopyF at *
  split at h
  · obtain ⟨b2, e, ho⟩ := h
    exact ⟨b2, e, own_under ho hb (Nat.le_refl _)⟩
  · obtain ⟨A, c, e, h1, h2, ho⟩ := h
    exact ⟨A, c, e, h1, h2, own_under ho hb (Nat.le_refl _)⟩
  · obtain ⟨A, c, e, h1, h2, ho⟩ := h
    exact ⟨A, c, e, h1, h2, own_under ho hb (Nat.le_refl _)⟩
  · obtain ⟨b, e, h1, h2⟩ := h
    have hlt : b < w.heap.size := by
      rcases Nat.lt_or_ge b w.heap.size with h | h
      · exact h
      · rw [Array.getElem?_eq_none h] at h2; cases h2
    exact ⟨b, e, h1, (hb.block b hlt).trans h2⟩
  · trivial
theorem lt_of_blk3 {w : World} {k : Nat} {o : Obj} (h : w.heap[k]? = some o) : k < w.heap.size := by
  rcases Nat.lt_or_ge k w.heap.size with h1 | h1
  · exact h1
  · rw [Array.getElem?_eq_none h1] at h; cases h
theorem cells3_under {w w1 : World} {g B : Nat} {x y z : Value} (hb : Below w.heap.size w w1) (hB : B ≤ w.heap.size) (hg : g < w.heap.size) (h0 : w.cell? ⟨g, 0, none⟩ = some x) (h1 : w.cell? ⟨g, 1, none⟩ = some y) (h2 : w.cell? ⟨g, 2, none⟩ = some z) :
    w1.cell? ⟨g, 0, none⟩ = some x ∧ w1.cell? ⟨g, 1, none⟩ = some y ∧ w1.cell? ⟨g, 2, none⟩ = some z :=
  ⟨(hb.cell (p := ⟨g, 0, none⟩) hg).trans h0, (hb.cell (p := ⟨g, 1, none⟩) hg).trans h1, (hb.cell (p := ⟨g, 2, none⟩) hg).trans h2⟩
theorem ints_at (l : List Chg) : ∀ j, j < l.length → ∃ x, (SV encC l)[j * 3 + 2]? = some (.int .i64 x) := fun j hj => by
  have h1 := sv_get encC_len (0, 0, 0) l j 2 hj (by decide)
  have hl := sv_len encC_len l
  rw [List.getD_eq_getElem?_getD, List.getElem?_eq_getElem (by rw [hl]; omega)] at h1
  refine ⟨(l.getD j (0, 0, 0)).2.2, ?_⟩
  rw [List.getElem?_eq_getElem (by rw [hl]; omega)]
  exact congrArg some h1
theorem own_head {w : World} {base n c : Nat} {A : Option Addr} {e : TypeId} {xs : List Value} (h : w.ownsRow base e 3 (.slice A n c) n xs) (h0 : 0 < n) : ∃ b, A = some ⟨b, 0, none⟩ := by
  rcases h.2 with ⟨h1, h2⟩ | ⟨b, cap, cur, hv, _⟩
  · omega
  · simp only [Value.slice.injEq] at hv
    exact ⟨b, hv.1⟩
theorem ints_set {xs : List Value} {L k : Nat} {y : Int} (h : ∀ j, j < L → ∃ x, xs[j * 3 + 2]? = some (.int .i64 x)) : ∀ j, j < L → ∃ x, (xs.set (k * 3 + 2) (.int .i64 y))[j * 3 + 2]? = some (.int .i64 x) := fun j hj => by
  obtain ⟨x, hx⟩ := h j hj
  rw [List.getElem?_set]
  split
  · rename_i e
    split
    · exact ⟨y, rfl⟩
    · rename_i h2
      rw [e] at h2
      rw [List.getElem?_eq_none (by omega)] at hx
      cases hx
  · exact ⟨x, hx⟩
theorem own_ne {w : World} {base n c b g : Nat} {e t : TypeId} {xs : List Value} {cs : Array Value} {fr : Nat × Nat} (h : w.ownsRow base e 3 (.slice (some ⟨b, 0, none⟩) n c) n xs) (hb : w.heap[g]? = some (.cells cs t fr)) (ht : t ≠ e) : g ≠ b := by
  rintro rfl
  rcases h.2 with ⟨h1, h2⟩ | ⟨b, cap, cur, hv, _, hg, _⟩
  · cases h1
  · simp only [Value.slice.injEq, Option.some.injEq, Addr.mk.injEq, and_true, true_and] at hv
    obtain ⟨rfl, rfl⟩ := hv
    rw [hg] at hb
    injection hb with hb
    injection hb with _ h2
    exact ht h2.symm
set_option maxRecDepth 100000 in
set_option maxHeartbeats 4000000 in
theorem walk {w : World} {A : Option Addr} {n c : Nat} {room last b m rm : Int} {cs : List Chg} (h : LRow w w.heap.size A n cs) (hn : n ≤ c) (hm : c ≤ maxLen) (h47 : n ≤ 140737488351232) :
    Calls Try.prog 3 #[.agg #[.int .i64 room, .int .i64 last, .slice A n c], .int .i64 b, .int .i64 m, .int .i64 rm] w fun e w' => e = .returned (.bool true) ∧ Below w.heap.size w w' := by
  obtain ⟨i0, hi0, hz0, hz1, hz2⟩ := info_parts info_chg
  have e1 := h.1
  subst e1
  by_cases h2 : cs.length ≤ 200
  · have HH := hide (srow_alloc h (Nat.le_refl _) (.cells #[.int .i64 room, .int .i64 last, .slice A cs.length c] 24))
    clear h
    go_enter Try.func3, Try.ntmps3
    go_wp2
    refine wp_region_facts 10 [0, 1, 2, 3, 5, 6] [4, 7, 8, 9] (CopyF (w.heap.size + 1) room last cs) (by kernel_rfl) (by kernel_rfl) copyF_st ?_
    simp only [opsOf, List.filterMap_cons, List.filterMap_nil, List.getElem?_toArray, List.getElem?_cons_zero, List.getElem?_cons_succ]
    repeat (refine wpPure_any (fun K hK => ?_); go_simp; refine hK _ ?_; clear hK K)
    (refine wpPure_val (.int .i64 room) rfl (fun w' hw => by obtain ⟨hS, hE, hz, hc, hf⟩ := bcell hw; (try simp only [go_sem] at hE); subst hE; go_simp) ?_)
    repeat (refine wpPure_any (fun K hK => ?_); go_simp; refine hK _ ?_; clear hK K)
    (refine wpPure_val (.int .i64 last) rfl (fun w' hw => by obtain ⟨hS, hE, hz, hc, hf⟩ := bcell hw; (try simp only [go_sem] at hE); subst hE; go_simp) ?_)
    repeat (refine wpPure_any (fun K hK => ?_); go_simp; refine hK _ ?_; clear hK K)
    (refine wpPure_val (.slice A cs.length c) rfl (fun w' hw => by obtain ⟨hS, hE, hz, hc, hf⟩ := bcell hw; (try simp only [go_sem] at hE); subst hE; go_simp) ?_)
    repeat (refine wpPure_any (fun K hK => ?_); go_simp; refine hK _ ?_; clear hK K)
    refine wpPure_nil ⟨fun o ho => ?_, fun o ho => ?_, fun o ho => ?_, fun o ho => ?_, ?_⟩
    · (simp only [List.getElem?_toArray, List.getElem?_cons_succ, List.getElem?_cons_zero, Option.some.injEq] at ho; subst ho)
      intro vs w' hC hF
      have hCz := hC.size
      simp only [World.size_alloc] at hCz
      simp only [List.nil_append, List.cons_append, puts, dstOf, List.getElem?_toArray, List.getElem?_cons_succ, List.getElem?_cons_zero, Option.bind_some]
      go_simp
      exact ⟨(by repeat' (first | (with_reducible exact Below.refl _ _) | (with_reducible refine below_drewN ?_ _) | (with_reducible refine Below.drew ?_) | (with_reducible refine Below.alloc ?_ ?_ _) | (with_reducible refine Below.setCell ?_ ?_ _) | (with_reducible refine below_step ?_ (by assumption) ?_) | go_size)), w'.heap.size, rfl, own_down (World.ownsRow_made w' #[] 0 (Nat.le_refl _) (Nat.zero_le _) rfl) hCz⟩
    · (simp only [List.getElem?_toArray, List.getElem?_cons_succ, List.getElem?_cons_zero, Option.some.injEq] at ho; subst ho)
      intro vs w' hC hF
      have hCz := hC.size
      simp only [World.size_alloc] at hCz
      obtain ⟨b2, e2, ho2⟩ : CopyF (w.heap.size + 1) room last cs 4 (vs 4) w' := hF 4 (by simp) (by kernel_rfl)
      obtain ⟨A', c', w5, hrun, ho5, hb5, hc5, hm5⟩ := run_append_copy (P := Try.prog) w' encC_len (by decide) (w.heap.size + 1) 22 22 32 i0 _ 24 Try.underlying22 hi0 hz0 hz1 hz2 rfl b2 ho2 hCz _ A cs.length c cs (srow_below HH.out hC (by simp)) (by unfold maxLen; omega) (by omega)
      simp only [List.nil_append, List.cons_append, puts, dstOf, List.getElem?_toArray, List.getElem?_cons_succ, List.getElem?_cons_zero, Option.bind_some]
      rw [e2]
      exact if_wanted rfl (wpV_append (.tmp 26) (.tmp 28) 22 rfl _ _ _ rfl rfl hrun ⟨hb5, A', c', rfl, hc5, hm5, ho5⟩)
    · (simp only [List.getElem?_toArray, List.getElem?_cons_succ, List.getElem?_cons_zero, Option.some.injEq] at ho; subst ho)
      intro vs w' hC hF
      obtain ⟨A3, c3, h7, hc3, hm3, ho3⟩ : CopyF (w.heap.size + 1) room last cs 7 (vs 7) w' := hF 7 (by simp) (by kernel_rfl)
      simp only [List.nil_append, List.cons_append, puts, dstOf, List.getElem?_toArray, List.getElem?_cons_succ, List.getElem?_cons_zero, Option.bind_some]
      rw [h7]
      go_simp
      exact ⟨Below.refl _ _, A3, c3, rfl, hc3, hm3, ho3⟩
    · (simp only [List.getElem?_toArray, List.getElem?_cons_succ, List.getElem?_cons_zero, Option.some.injEq] at ho; subst ho)
      intro vs w' hC hF
      have hCz := hC.size
      simp only [World.size_alloc] at hCz
      simp only [List.nil_append, List.cons_append, puts, dstOf, List.getElem?_toArray, List.getElem?_cons_succ, List.getElem?_cons_zero, Option.bind_some]
      go_simp
      exact ⟨(by repeat' (first | (with_reducible exact Below.refl _ _) | (with_reducible refine below_drewN ?_ _) | (with_reducible refine Below.drew ?_) | (with_reducible refine Below.alloc ?_ ?_ _) | (with_reducible refine Below.setCell ?_ ?_ _) | (with_reducible refine below_step ?_ (by assumption) ?_) | go_size)), w'.heap.size, rfl, hCz, heap_alloc_new _ _⟩
    · intro vs w' hC hF
      obtain ⟨b2, h4, _⟩ : CopyF (w.heap.size + 1) room last cs 4 (vs 4) w' := hF 4 (by simp)
      obtain ⟨A0, c0, h7, _⟩ : CopyF (w.heap.size + 1) room last cs 7 (vs 7) w' := hF 7 (by simp)
      obtain ⟨A3, c3, h8, hc3, hm3, ho3⟩ : CopyF (w.heap.size + 1) room last cs 8 (vs 8) w' := hF 8 (by simp)
      obtain ⟨g, h9, hg, hbk⟩ : CopyF (w.heap.size + 1) room last cs 9 (vs 9) w' := hF 9 (by simp)
      simp only [puts, dstOf, List.getElem?_toArray, List.getElem?_cons_succ, List.getElem?_cons_zero, Option.bind_some, h4, h7, h8, h9, List.drop_succ_cons, List.drop_zero]
      have hb1 := hC
      have HCb := hide hC
      have hCz := hC.size
      simp only [World.size_alloc] at hCz
      obtain ⟨hS1, hE1, hz1, hc1, hf1⟩ := bcell hb1; (try simp only [go_sem] at hE1); subst hE1
      have hgl : g < w'.heap.size := by
        rcases Nat.lt_or_ge g w'.heap.size with h | h
        · exact h
        · rw [Array.getElem?_eq_none h] at hbk; cases hbk
      have HBC := hide (((Below.refl _ _).alloc (Nat.le_refl _) (.cells #[.int .i64 room, .int .i64 last, .slice A cs.length c] 24)).trans (hC.mono (by simp)))
      obtain ⟨d0, d1, d2, d3, d4, d5⟩ := box3_cells hbk
      have HO3 := hide (own_set3T ho3 hbk (by decide) (.int .i64 room) (.int .i64 last) (.slice A3 cs.length c3))
      have HG := hide (box3_set hbk (.int .i64 room) (.int .i64 last) (.slice A3 cs.length c3))
      clear hF h4 h7 h8 h9 ho3 hC hbk hb1
      have HL2 := hide (srow_setCell (srow_setCell (srow_setCell (srow_below HH.out HCb.out (by simp)) (p := ⟨g, 0, none⟩) (by dsimp only; omega) (.int .i64 room)) (p := ⟨g, 1, none⟩) (by dsimp only; omega) (.int .i64 last)) (p := ⟨g, 2, none⟩) (by dsimp only; omega) (.slice A3 cs.length c3))
      have HK2 := hide (srow_of_own encC_len (by decide) HO3.out)
      have S1 := note_any (c := c) (b := b) (m := m) (room := room) (last := last) HL2.out (by simp; omega) hn hm h47
      have hlen := note_len (room := room) (last := last) (b := b) (m := m) h2
      have HOK := hide (note_ok (room := room) (last := last) (b := b) (m := m) (cs := cs))
      have HRN := hide (fun (w' : World) (B : Nat) (h : LRow w' B A3 cs.length cs) (hB : B ≤ w'.heap.size) => rnote_any (c := c3) (b := b) (m := m) (room := room) (last := last) h hB hc3 hm3 h47)
      unfold NotePost at S1
      unfold RNotePost at HRN
      generalize noteL room last cs b m = r at *
      obtain ⟨r1, r2, rl, z⟩ := r
      dsimp only at *
      have HB2 := hide ((((HBC.out.setCell (p := ⟨g, 0, none⟩) (by dsimp only; omega) (.int .i64 room)).setCell (p := ⟨g, 1, none⟩) (by dsimp only; omega) (.int .i64 last)).setCell (p := ⟨g, 2, none⟩) (by dsimp only; omega) (.slice A3 cs.length c3)))
      have bkl : w'.heap[w.heap.size]? = some (.cells #[.int .i64 room, .int .i64 last, .slice A cs.length c] 24) := (HCb.out.block w.heap.size (by simp)).trans (heap_alloc_new w _)
      obtain ⟨f0, f1, f2, _, _, _⟩ := box3_cells bkl
      clear bkl
      go_wp2_with (first | (go_at_call 7; (with_reducible refine S1.mono ?_); rintro e w2 ⟨A5, c5, rfl, hcap5, hcm5, hown5, hb2⟩; obtain ⟨hS2, hE2, hz2, hc2, hf2⟩ := bcell hb2; (try simp only [go_sem] at hE2); subst hE2; have HO5 := hide hown5; have HBB2 := hide hb2; clear hown5 S1; have HK3 := hide (srow_alloc (srow_below HK2.out hb2 (Nat.le_refl _)) hb2.size (.cells #[.int .i64 r1, .int .i64 r2, .slice A5 rl.length c5] 24)); have S2 := HRN.out _ _ HK3.out (by simp only [World.size_alloc]; have := hb2.size; omega)) | (go_at_call 8; (with_reducible refine S2.mono ?_); rintro e w3 ⟨A6, c6, rfl, hcap6, hcm6, hrow6, hb3⟩; obtain ⟨hS3, hE3, hz3, hc3, hf3⟩ := bcell hb3; (try simp only [go_sem] at hE3); subst hE3; have HR6 := hide hrow6; have HBB3 := hide hb3; clear hrow6 S2))
      have z2 := HBB2.out.size
      simp only [World.size_setCell] at z2
      have z3 := HBB3.out.size
      simp only [World.size_alloc] at z3
      have kl0 : (w3.alloc (.cells #[.int .i64 r1, .int .i64 r2, .slice A6 rl.length c6] 24)).cell? ⟨w.heap.size, 0, none⟩ = some (.int .i64 room) := by go_simp
      have kl1 : (w3.alloc (.cells #[.int .i64 r1, .int .i64 r2, .slice A6 rl.length c6] 24)).cell? ⟨w.heap.size, 1, none⟩ = some (.int .i64 last) := by go_simp
      have kl2 : (w3.alloc (.cells #[.int .i64 r1, .int .i64 r2, .slice A6 rl.length c6] 24)).cell? ⟨w.heap.size, 2, none⟩ = some (.slice A cs.length c) := by go_simp
      have kg0 : (w3.alloc (.cells #[.int .i64 r1, .int .i64 r2, .slice A6 rl.length c6] 24)).cell? ⟨g, 0, none⟩ = some (.int .i64 room) := by go_simp
      have kg1 : (w3.alloc (.cells #[.int .i64 r1, .int .i64 r2, .slice A6 rl.length c6] 24)).cell? ⟨g, 1, none⟩ = some (.int .i64 last) := by go_simp
      have kg2 : (w3.alloc (.cells #[.int .i64 r1, .int .i64 r2, .slice A6 rl.length c6] 24)).cell? ⟨g, 2, none⟩ = some (.slice A3 cs.length c3) := by go_simp
      have BK10 : (w3.alloc (.cells #[.int .i64 r1, .int .i64 r2, .slice A6 rl.length c6] 24)).heap[w2.heap.size]? = some (.cells #[.int .i64 r1, .int .i64 r2, .slice A5 rl.length c5] 24 (0, 0)) := (Below.heap_alloc w3 _ _ (by omega)).trans ((HBB3.out.block w2.heap.size (by simp)).trans (heap_alloc_new w2 _))
      have BK12 : (w3.alloc (.cells #[.int .i64 r1, .int .i64 r2, .slice A6 rl.length c6] 24)).heap[w3.heap.size]? = some (.cells #[.int .i64 r1, .int .i64 r2, .slice A6 rl.length c6] 24 (0, 0)) := heap_alloc_new w3 _
      have B24 : Below w2.heap.size w2 (w3.alloc (.cells #[.int .i64 r1, .int .i64 r2, .slice A6 rl.length c6] 24)) := (((Below.refl _ _).alloc (Nat.le_refl _) _).trans (HBB3.out.mono (by simp))).alloc (by omega) _
      have L4 := hide (srow_below (srow_below HL2.out HBB2.out (by simp; omega)) B24 (by omega))
      have G4 := hide (srow_below (srow_below HK2.out HBB2.out (Nat.le_refl _)) B24 (by have := HBB2.out.size; omega))
      have R4 := hide (srow_alloc HR6.out (Nat.le_refl _) (.cells #[.int .i64 r1, .int .i64 r2, .slice A6 rl.length c6] 24))
      have O4 := hide (own_under HO5.out B24 (Nat.le_refl _))
      have F4 := hide (((HB2.out.trans (HBB2.out.mono (by simp only [World.size_setCell]; omega))).trans (B24.mono (by omega))))
      have s1 : w.heap.size < w'.heap.size := by omega
      have s4 : w3.heap.size < (w3.alloc (.cells #[.int .i64 r1, .int .i64 r2, .slice A6 rl.length c6] 24)).heap.size := by simp
      have s0 : w.heap.size ≤ (w3.alloc (.cells #[.int .i64 r1, .int .i64 r2, .slice A6 rl.length c6] 24)).heap.size := by simp; omega
      simp only [World.size_setCell] at G4 O4
      clear HO3 HG HH HCb HBC d0 d1 d2 d3 d4 d5 hc1 hf1 hc2 hf2 hb2 hc3 hf3 hb3 HRN HB2 HL2 HK2 HK3 f0 f1 f2 hz1 hz2 HBB2 HBB3 HO5 HR6 B24
      generalize hw4 : (w3.alloc (.cells #[.int .i64 r1, .int .i64 r2, .slice A6 rl.length c6] 24)) = w4 at *
      clear hw4
      obtain ⟨l0, l1, l2, _, _, _⟩ := box3_cells BK10
      obtain ⟨m0, m1, m2, _, _, _⟩ := box3_cells BK12
      have HBK10 := hide BK10
      clear BK10 BK12
      have SL := hide (fun (w2 : World) (hb : Below w4.heap.size w4 w2) => same_yes (room := room) (last := last) (c := c) (c2 := c3) (srow_below L4.out hb (by omega)) (srow_below G4.out hb (by omega)) (by have := hb.size; omega) (by have := hb.size; omega) h47)
      have SR := hide (fun (w2 : World) (hb : Below w4.heap.size w4 w2) => same_yes (room := r1) (last := r2) (c := c5) (c2 := c6) (srow_below (srow_of_own encC_len (by decide) O4.out) hb (Nat.le_refl _)) (srow_below R4.out hb (by omega)) hb.size (by have := hb.size; omega) (by omega))
      have RL := hide (fun (w2 : World) (hb : Below w4.heap.size w4 w2) => right_any (room := room) (last := last) (c := c) (srow_below L4.out hb (by omega)) (by have := hb.size; omega) h47)
      have RG := hide (fun (w2 : World) (hb : Below w4.heap.size w4 w2) => rright_any (room := room) (last := last) (c := c3) (srow_below G4.out hb (by omega)) (by have := hb.size; omega) h47)
      have RR := hide (fun (w2 : World) (hb : Below w4.heap.size w4 w2) => right_any (room := r1) (last := r2) (c := c5) (srow_below (srow_of_own encC_len (by decide) O4.out) hb (Nat.le_refl _)) hb.size (by omega))
      have key : Hid (∀ (K : Prop), ((z == 0) = true → rightL r1 r2 rl = true → K) → ((z == 0) = false → K) → K) := hide (fun K h1 h2 => by
        by_cases hz : z = 0
        · exact h1 (by simpa using hz) (HOK.out hz)
        · exact h2 (by simpa using hz))
      refine key.out _ (fun gz hr0 => ?_) (fun gz => ?_)
      focus (rw [hr0] at RR; clear hr0)
      all_goals
        clear HOK key
        (go_wp2_with (refine wp_region_quiet_below (by kernel_rfl) (by kernel_rfl) ?_; (repeat (first | go_big_quiet_step ((first | (go_at_call 6; exact Calls.regrown_of (lives_any _)) | (go_at_call 9; (with_reducible refine Calls.regrown_of (SR.out _ (below_regrown _ _ _)))) | (go_at_call 9; (with_reducible refine Calls.regrown_of (SL.out _ (below_regrown _ _ _)))) | (go_at_call 10; (with_reducible refine Calls.regrown_of (RL.out _ (below_regrown _ _ _)))) | (go_at_call 10; (with_reducible refine Calls.regrown_of (RR.out _ (below_regrown _ _ _)))) | (go_at_call 11; (with_reducible refine Calls.regrown_of (RG.out _ (below_regrown _ _ _)))))) | quiet_step ((first | (go_at_call 6; exact Calls.regrown_of (lives_any _)) | (go_at_call 9; (with_reducible refine Calls.regrown_of (SR.out _ (below_regrown _ _ _)))) | (go_at_call 9; (with_reducible refine Calls.regrown_of (SL.out _ (below_regrown _ _ _)))) | (go_at_call 10; (with_reducible refine Calls.regrown_of (RL.out _ (below_regrown _ _ _)))) | (go_at_call 10; (with_reducible refine Calls.regrown_of (RR.out _ (below_regrown _ _ _)))) | (go_at_call 11; (with_reducible refine Calls.regrown_of (RG.out _ (below_regrown _ _ _)))))))); refine wpQuiet_nil ?_; intro w1 hw1; have hb := below_of_regrown hw1; clear hw1; obtain ⟨hS, hE, hz, hc, hf⟩ := bcell hb; (try simp only [go_sem] at hE); subst hE))
        have e10 := hide ((hb.block _ (lt_of_blk3 HBK10.out)).trans HBK10.out)
        have O5 := hide (own_under O4.out hb (Nat.le_refl _))
        have L5 := hide (srow_below L4.out hb (by omega))
        have G5 := hide (srow_below G4.out hb (by omega))
        have F5 := hide (F4.out.trans (hb.mono s0))
        have kl := cells3_under hb s0 (by omega) kl0 kl1 kl2
        have kg := cells3_under (g := g) hb s0 (by omega) kg0 kg1 kg2
        obtain ⟨wo, rfl⟩ : ∃ wo : World, wo = w1 := ⟨_, rfl⟩
        have hsz := hb.size
        clear SL SR RL RG RR hc hf hb kl0 kl1 kl2 kg0 kg1 kg2 L4 G4 R4 O4 F4 l0 l1 l2 m0 m1 m2 HBK10 gz
        obtain ⟨kl0, kl1, kl2⟩ := kl
        obtain ⟨kg0, kg1, kg2⟩ := kg
        generalize hG10 : w2.heap.size = g10 at *
        generalize hS : w'.heap.size = S at *
        go_loopw [14] (fun i wr => ∃ (k : Nat) (xs : List Value), k ≤ rl.length ∧ i = .int .i64 k ∧ wr.ownsRow S 32 3 (.slice A5 rl.length c5) rl.length xs ∧ (∀ j, j < rl.length → ∃ x, xs[j * 3 + 2]? = some (.int .i64 x)) ∧ wr.heap[g10]? = some (.cells #[.int .i64 r1, .int .i64 r2, .slice A5 rl.length c5] 24 (0, 0)) ∧ Below S wo wr) (fun i _ => rl.length - (intOf i).toNat)
        case atStart => exact ⟨0, _, Nat.zero_le _, rfl, O5.out, ints_at rl, e10.out, Below.refl _ _⟩
        case round =>
          obtain ⟨k, xs, hk, rfl, hown, hints, hbk, hbw⟩ := hrel
          obtain ⟨l0, l1, l2, _, _, _⟩ := box3_cells hbk
          have HBK := hide hbk
          have HIN := hide hints
          clear hbk hints
          by_cases hlt : k < rl.length
          · obtain ⟨b5, rfl⟩ := own_head hown (by omega)
            obtain ⟨x, hx⟩ := HIN.out k hlt
            have d2 := (hown.cellAt (k * 3 + 2) (by omega)).trans hx
            have d3 := hown.frozenAt (k * 3 + 2)
            have HOW := hide hown
            clear hown hx
            go_wp2
            have st := HOW.out.stored (k * 3 + 2) (.int .i64 (wrap64 (x + 1)))
            have hlb := HOW.out.lt b5 rfl
            exact ⟨⟨k + 1, _, by omega, by go_num, st.1, ints_set HIN.out, (Below.heap_setCell _ _ _ _ (fun e => own_ne HOW.out HBK.out (by decide) e)).trans HBK.out, hbw.setCell (p := ⟨b5, k * 3 + 2, none⟩) hlb.1 _⟩, by simp [intOf]; omega⟩
          · obtain rfl : k = rl.length := by omega
            have q0 := (hbw.cell (p := ⟨w.heap.size, 0, none⟩) s1).trans kl0
            have q1 := (hbw.cell (p := ⟨w.heap.size, 1, none⟩) s1).trans kl1
            have q2 := (hbw.cell (p := ⟨w.heap.size, 2, none⟩) s1).trans kl2
            have p0 := (hbw.cell (p := ⟨g, 0, none⟩) hgl).trans kg0
            have p1 := (hbw.cell (p := ⟨g, 1, none⟩) hgl).trans kg1
            have p2 := (hbw.cell (p := ⟨g, 2, none⟩) hgl).trans kg2
            have hz6 := hbw.size
            have L6 := hide (srow_below L5.out hbw (Nat.le_of_lt s1))
            have G6 := hide (srow_below G5.out hbw (Nat.le_refl _))
            have F6 := hide (F5.out.trans (hbw.mono (Nat.le_of_lt s1)))
            obtain ⟨wq, rfl⟩ : ∃ wq : World, wq = wr := ⟨_, rfl⟩
            clear hown L5 G5 F5 O5 e10 HIN
            by_cases hr1 : 1 ≤ rm
            · by_cases hr2 : rm ≤ 64
              · have NW := new_yes rm wq hr1 hr2
                (go_wp2_with (go_at_call 12; (with_reducible refine NW.mono ?_); rintro e w6 ⟨rfl, hb6⟩; obtain ⟨hS6, hE6, hz7, hc6, hf6⟩ := bcell hb6; (try simp only [go_sem] at hE6); subst hE6; have C1 := same_yes (room := rm) (last := 0) (c := 0) (c2 := 0) (srow_nil (w6.alloc (.cells #[.int .i64 rm, .int .i64 0, .slice none 0 0] 24)) 0 none) (srow_nil _ 0 none) (Nat.zero_le _) (Nat.zero_le _) (by omega)); go_wp2_with (go_at_call 9; (with_reducible refine C1.mono ?_); rintro e w7 ⟨rfl, hb7⟩; obtain ⟨hS7, hE7, hz8, hc7, hf7⟩ := bcell hb7; (try simp only [go_sem] at hE7); subst hE7); have z6 := hb6.size; have z7 := hb7.size; simp only [World.size_alloc] at z7; have L7 := srow_below (srow_alloc (srow_below L6.out hb6 (by omega)) (by omega) (.cells #[.int .i64 rm, .int .i64 0, .slice none 0 0] 24)) hb7 (by simp only [World.size_alloc]; omega); have G7 := srow_below (srow_alloc (srow_below G6.out hb6 (by omega)) (by omega) (.cells #[.int .i64 rm, .int .i64 0, .slice none 0 0] 24)) hb7 (by simp only [World.size_alloc]; omega); have C2 := same_yes (room := room) (last := last) (c := c) (c2 := c3) L7 G7 (by omega) (by omega) h47; clear L7 G7; have F7 := hide (((F6.out.trans (hb6.mono (by omega))).alloc (by omega) (.cells #[.int .i64 rm, .int .i64 0, .slice none 0 0] 24)).trans (hb7.mono (by simp only [World.size_alloc]; omega))); go_wp2_with (go_at_call 9; (with_reducible refine C2.mono ?_); rintro e w8 ⟨rfl, hb8⟩); go_ret; exact ⟨rfl, F7.out.trans (hb8.mono (by omega))⟩)
              · have NW := new_no rm wq (.inr (by omega))
                (go_wp2_with (go_at_call 12; (with_reducible refine NW.mono ?_); rintro e w6 ⟨rfl, hb6⟩; obtain ⟨hS6, hE6, hz7, hc6, hf6⟩ := bcell hb6; (try simp only [go_sem] at hE6); subst hE6; have C1 := same_yes (room := 0) (last := 0) (c := 0) (c2 := 0) (srow_nil (w6.alloc (.cells #[.int .i64 0, .int .i64 0, .slice none 0 0] 24)) 0 none) (srow_nil _ 0 none) (Nat.zero_le _) (Nat.zero_le _) (by omega)); go_wp2_with (go_at_call 9; (with_reducible refine C1.mono ?_); rintro e w7 ⟨rfl, hb7⟩; obtain ⟨hS7, hE7, hz8, hc7, hf7⟩ := bcell hb7; (try simp only [go_sem] at hE7); subst hE7); have z6 := hb6.size; have z7 := hb7.size; simp only [World.size_alloc] at z7; have L7 := srow_below (srow_alloc (srow_below L6.out hb6 (by omega)) (by omega) (.cells #[.int .i64 0, .int .i64 0, .slice none 0 0] 24)) hb7 (by simp only [World.size_alloc]; omega); have G7 := srow_below (srow_alloc (srow_below G6.out hb6 (by omega)) (by omega) (.cells #[.int .i64 0, .int .i64 0, .slice none 0 0] 24)) hb7 (by simp only [World.size_alloc]; omega); have C2 := same_yes (room := room) (last := last) (c := c) (c2 := c3) L7 G7 (by omega) (by omega) h47; clear L7 G7; have F7 := hide (((F6.out.trans (hb6.mono (by omega))).alloc (by omega) (.cells #[.int .i64 0, .int .i64 0, .slice none 0 0] 24)).trans (hb7.mono (by simp only [World.size_alloc]; omega))); go_wp2_with (go_at_call 9; (with_reducible refine C2.mono ?_); rintro e w8 ⟨rfl, hb8⟩); go_ret; exact ⟨rfl, F7.out.trans (hb8.mono (by omega))⟩)
            · have NW := new_no rm wq (.inl (by omega))
              (go_wp2_with (go_at_call 12; (with_reducible refine NW.mono ?_); rintro e w6 ⟨rfl, hb6⟩; obtain ⟨hS6, hE6, hz7, hc6, hf6⟩ := bcell hb6; (try simp only [go_sem] at hE6); subst hE6; have C1 := same_yes (room := 0) (last := 0) (c := 0) (c2 := 0) (srow_nil (w6.alloc (.cells #[.int .i64 0, .int .i64 0, .slice none 0 0] 24)) 0 none) (srow_nil _ 0 none) (Nat.zero_le _) (Nat.zero_le _) (by omega)); go_wp2_with (go_at_call 9; (with_reducible refine C1.mono ?_); rintro e w7 ⟨rfl, hb7⟩; obtain ⟨hS7, hE7, hz8, hc7, hf7⟩ := bcell hb7; (try simp only [go_sem] at hE7); subst hE7); have z6 := hb6.size; have z7 := hb7.size; simp only [World.size_alloc] at z7; have L7 := srow_below (srow_alloc (srow_below L6.out hb6 (by omega)) (by omega) (.cells #[.int .i64 0, .int .i64 0, .slice none 0 0] 24)) hb7 (by simp only [World.size_alloc]; omega); have G7 := srow_below (srow_alloc (srow_below G6.out hb6 (by omega)) (by omega) (.cells #[.int .i64 0, .int .i64 0, .slice none 0 0] 24)) hb7 (by simp only [World.size_alloc]; omega); have C2 := same_yes (room := room) (last := last) (c := c) (c2 := c3) L7 G7 (by omega) (by omega) h47; clear L7 G7; have F7 := hide (((F6.out.trans (hb6.mono (by omega))).alloc (by omega) (.cells #[.int .i64 0, .int .i64 0, .slice none 0 0] 24)).trans (hb7.mono (by simp only [World.size_alloc]; omega))); go_wp2_with (go_at_call 9; (with_reducible refine C2.mono ?_); rintro e w8 ⟨rfl, hb8⟩); go_ret; exact ⟨rfl, F7.out.trans (hb8.mono (by omega))⟩)
  · have g1 : (200 : Int) < cs.length := by omega
    go_enter Try.func3, Try.ntmps3
    go_wp2_with ((go_at_call 6; refine (lives_any _).mono ?_; rintro e w1 ⟨rfl, hb⟩; obtain ⟨hS, hE, hz, hc, hf⟩ := bcell hb; (try simp only [go_sem] at hE); subst hE))
    go_ret
    exact ⟨rfl, (by repeat' (first | (with_reducible exact Below.refl _ _) | (with_reducible refine below_drewN ?_ _) | (with_reducible refine Below.drew ?_) | (with_reducible refine Below.alloc ?_ ?_ _) | (with_reducible refine Below.setCell ?_ ?_ _) | (with_reducible refine below_step ?_ (by assumption) ?_) | go_size))⟩
theorem law : Law Try.checked 3 Try.f3 := by
  intro H enc W base args ds ps hval hA hsz
  have hA1 : DataW.TrodAll enc Try.prog W 0 (fun _ => true) true Try.f3.params.toList args.toList ds ps := hA
  have hw := weightsEach_at (sized_args hsz)
  have hw : ∀ (j : Nat) (t : TypeId) (d : DataW H), Try.f3.params.toList[j]? = some t → ds[j]? = some d → ∀ n ∈ d.weights Try.prog t, n ≤ 140737488351232 := hw
  rw [Try.params3] at hA1 hval hw
  obtain ⟨v0, vs0, d0, ds0, p0, q0, hargs, rfl, rfl, h0, r0⟩ := trodAll_cons hA1
  obtain ⟨v1, vs1, d1, ds1, p1, q1, rfl, rfl, rfl, h1, r1⟩ := trodAll_cons r0
  obtain ⟨v2, vs2, d2, ds2, p2, q2, rfl, rfl, rfl, h2, r2⟩ := trodAll_cons r1
  obtain ⟨v3, vs3, d3, ds3, p3, q3, rfl, rfl, rfl, h3, r3⟩ := trodAll_cons r2
  obtain ⟨rfl, rfl, rfl⟩ := trodAll_nil r3
  obtain rfl : args = #[v0, v1, v2, v3] := by cases args; simp_all
  obtain ⟨⟨cs⟩, rfl, _⟩ := okWide_struct Try.underlying24 (hval 0 _ v0 rfl rfl)
  obtain ⟨room, last, A, n, c, l, e, k1, k2, k3, k4, k5, k6⟩ := rdS_log (rdS_of h0 (hw 0 _ _ rfl rfl))
  have e : cs = _ := e
  subst e
  obtain ⟨n1, rfl, rfl, rfl, wn1⟩ := open_int Try.underlying3 (hval 1 _ v1 rfl rfl) h1
  obtain ⟨n2, rfl, rfl, rfl, wn2⟩ := open_int Try.underlying3 (hval 2 _ v2 rfl rfl) h2
  obtain ⟨n3, rfl, rfl, rfl, wn3⟩ := open_int Try.underlying3 (hval 3 _ v3 rfl rfl) h3
  exact walk k4 k1 k2 k3

set_option maxRecDepth 100000 in
theorem step (os : Os) (started : os.Started) (H : Type) (enc : TypeId × Value → H) :
    ReturnsInHanded {} Try.checked os 3 .any (Rows.logNotesSpec.pre6 enc Try.prog Try.f3 Rows.logNotesRow.domain false) (Rows.logNotesSpec.post enc Try.prog Try.f3 false true false false) :=
  lifted (C := Try.checked) (s := Rows.logNotesSpec) own started (by kernel_rfl) Try.func3
    (ChangeSpec.witness6 (enc := enc) (C := Try.checked) false ⟨#[], #[.agg #[.int .i64 0, .int .i64 0, .slice none 0 0], .int .i64 0, .int .i64 0, .int .i64 0], []⟩ 8 (by kernel_rfl) (by kernel_rfl) (by kernel_rfl) (by kernel_rfl))
    laidOut (by kernel_rfl) (by kernel_rfl) Try.underlying4 rfl (fun ds h => by match ds, h with | [d0, d1, d2, d3], _ => rfl) law
set_option maxRecDepth 100000 in
theorem over : Rows.logNotesRow.holds Try.pinned (OpenSpec.ofChange Rows.logNotesSpec) :=
  OpenClaim.holds_of_wide 3 Try.f3 rfl rfl rfl rfl rfl rfl rfl ⟨rfl, rfl, rfl, rfl, rfl⟩ rfl rfl rfl rfl rfl (by kernel_rfl) Try.func3 (by kernel_rfl)
    (of_decide_eq_true (by kernel_rfl)) (by unfold Func.isWrapper; first | (rw [if_pos (by decide +kernel)]; kernel_rfl) | (rw [if_neg (by decide +kernel)]; exact ⟨rfl, rfl⟩))
    (fun os started H enc _ => step os started H enc)
theorem proved : Rows.LogNotesSaid := over
#print axioms proved

end Go.Proofs.Ytngdlgmehefocaa.LogNotes
