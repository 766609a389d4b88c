/- A further change: why not; and by the document. No condition. -/
import Derived.Test.YtngdlgmehefocaaLogE
import Derived.Test.YtngdlgmehefocaaLogC
namespace Go.Proofs.Ytngdlgmehefocaa.Log
open Go.ChangeShapes Go.WideShapes Go.ChangeAt Go.RowKit Go.Proofs.Ytngdlgmehefocaa.Kit Go.Proofs.Ytngdlgmehefocaa.Mem Go.Proofs.Ytngdlgmehefocaa.Mix Go.Deep
set_option linter.unusedVariables false
set_option linter.unusedSimpArgs false
set_option maxHeartbeats 2000000 in
theorem note_any {w : World} {A : Option Addr} {B n c : Nat} {room last b m : Int} {cs : List Chg} (h : LRow w B A n cs) (hB : B ≤ w.heap.size) (hn : n ≤ c) (hnm : c ≤ maxLen) (h47 : n ≤ 140737488351232) :
    Calls Try.prog 7 #[.agg #[.int .i64 room, .int .i64 last, .slice A n c], .int .i64 b, .int .i64 m] w (NotePost w (noteL room last cs b m)) := by
  have e1 := h.1
  subst e1
  have R1 := right_any (c := c) (srow_alloc (srow_alloc h hB (.cells #[.int .i64 room, .int .i64 last, .slice A cs.length c] 24)) (by simp; omega) (.cells #[.int .i64 0, .int .i64 0, .slice none 0 0] 24)) (by simp; omega) (by omega) (room := room) (last := last)
  have M1 := fun w => may_any b m w
  by_cases hr : rightL room last cs = true
  · by_cases hm : mayB b m = true
    · by_cases hl : last = 2147483647
      · subst hl
        rw [show noteL room 2147483647 cs b m = (0, 0, [], 101) by unfold noteL; rw [if_neg (by simp [hr]), if_neg (by simp [hm]), if_pos rfl]]
        rw [hr] at R1
        rw [hm] at M1
        clear hr hm
        go_enter Try.func7, Try.ntmps7
        go_wp2_with (first | (go_at_call 10; refine (R1).mono ?_; rintro e w1 ⟨rfl, hb⟩; obtain ⟨hS, hE, hz, hc, hf⟩ := bcell hb; (try simp only [go_sem] at hE); subst hE) | (go_at_call 20; refine (M1 _).mono ?_; rintro e w1 ⟨rfl, rfl⟩) | (refine wp_region_quiet_below (by kernel_rfl) (by kernel_rfl) ?_; (repeat (first | go_big_quiet_step ((first | (go_at_call 10; exact Calls.regrown_of (R1)) | (go_at_call 20; exact Calls.regrown_of (below_of_same (M1 _))))) | quiet_step ((first | (go_at_call 10; exact Calls.regrown_of (R1)) | (go_at_call 20; exact Calls.regrown_of (below_of_same (M1 _))))))); refine wpQuiet_nil ?_; intro w1 hw1; have hb := below_of_regrown hw1; clear hw1; obtain ⟨hS, hE, hz, hc, hf⟩ := bcell hb; (try simp only [go_sem] at hE); subst hE))
        (refine bodyPost_ret (v := .tuple #[.agg #[.int .i64 0, .int .i64 0, .slice none 0 0], .int .i64 101]) ?_ rfl ⟨none, 0, rfl, Nat.le_refl _, Nat.zero_le _, World.ownsRow_nil _ _ _ _, (by repeat' (first | (with_reducible exact Below.refl _ _) | (with_reducible refine below_drewN ?_ _) | (with_reducible refine Below.drew ?_) | (with_reducible refine Below.alloc ?_ ?_ _) | (with_reducible refine Below.setCell ?_ ?_ _) | (with_reducible refine below_step ?_ (by assumption) ?_) | go_size))⟩; simp only [results, Try.results7]; go_simp)
      · rw [show noteL room last cs b m = (room, last + 1, cutL room cs ++ [(last + 1, b, m)], 0) by unfold noteL; rw [if_neg (by simp [hr]), if_neg (by simp [hm]), if_neg hl]]
        exact note_in h hB hn hnm hr hm hl
    · rw [Bool.not_eq_true] at hm
      rw [show noteL room last cs b m = (0, 0, [], 1) by unfold noteL; rw [if_neg (by simp [hr]), if_pos hm]]
      rw [hr] at R1
      rw [hm] at M1
      clear hr hm
      go_enter Try.func7, Try.ntmps7
      go_wp2_with (first | (go_at_call 10; refine (R1).mono ?_; rintro e w1 ⟨rfl, hb⟩; obtain ⟨hS, hE, hz, hc, hf⟩ := bcell hb; (try simp only [go_sem] at hE); subst hE) | (go_at_call 20; refine (M1 _).mono ?_; rintro e w1 ⟨rfl, rfl⟩) | (refine wp_region_quiet_below (by kernel_rfl) (by kernel_rfl) ?_; (repeat (first | go_big_quiet_step ((first | (go_at_call 10; exact Calls.regrown_of (R1)) | (go_at_call 20; exact Calls.regrown_of (below_of_same (M1 _))))) | quiet_step ((first | (go_at_call 10; exact Calls.regrown_of (R1)) | (go_at_call 20; exact Calls.regrown_of (below_of_same (M1 _))))))); refine wpQuiet_nil ?_; intro w1 hw1; have hb := below_of_regrown hw1; clear hw1; obtain ⟨hS, hE, hz, hc, hf⟩ := bcell hb; (try simp only [go_sem] at hE); subst hE))
      (refine bodyPost_ret (v := .tuple #[.agg #[.int .i64 0, .int .i64 0, .slice none 0 0], .int .i64 1]) ?_ rfl ⟨none, 0, rfl, Nat.le_refl _, Nat.zero_le _, World.ownsRow_nil _ _ _ _, (by repeat' (first | (with_reducible exact Below.refl _ _) | (with_reducible refine below_drewN ?_ _) | (with_reducible refine Below.drew ?_) | (with_reducible refine Below.alloc ?_ ?_ _) | (with_reducible refine Below.setCell ?_ ?_ _) | (with_reducible refine below_step ?_ (by assumption) ?_) | go_size))⟩; simp only [results, Try.results7]; go_simp)
  · rw [Bool.not_eq_true] at hr
    rw [show noteL room last cs b m = (0, 0, [], 110) by unfold noteL; rw [if_pos hr]]
    rw [hr] at R1
    clear hr
    go_enter Try.func7, Try.ntmps7
    go_wp2_with (first | (go_at_call 10; refine (R1).mono ?_; rintro e w1 ⟨rfl, hb⟩; obtain ⟨hS, hE, hz, hc, hf⟩ := bcell hb; (try simp only [go_sem] at hE); subst hE) | (go_at_call 20; refine (M1 _).mono ?_; rintro e w1 ⟨rfl, rfl⟩) | (refine wp_region_quiet_below (by kernel_rfl) (by kernel_rfl) ?_; (repeat (first | go_big_quiet_step ((first | (go_at_call 10; exact Calls.regrown_of (R1)) | (go_at_call 20; exact Calls.regrown_of (below_of_same (M1 _))))) | quiet_step ((first | (go_at_call 10; exact Calls.regrown_of (R1)) | (go_at_call 20; exact Calls.regrown_of (below_of_same (M1 _))))))); refine wpQuiet_nil ?_; intro w1 hw1; have hb := below_of_regrown hw1; clear hw1; obtain ⟨hS, hE, hz, hc, hf⟩ := bcell hb; (try simp only [go_sem] at hE); subst hE))
    (refine bodyPost_ret (v := .tuple #[.agg #[.int .i64 0, .int .i64 0, .slice none 0 0], .int .i64 110]) ?_ rfl ⟨none, 0, rfl, Nat.le_refl _, Nat.zero_le _, World.ownsRow_nil _ _ _ _, (by repeat' (first | (with_reducible exact Below.refl _ _) | (with_reducible refine below_drewN ?_ _) | (with_reducible refine Below.drew ?_) | (with_reducible refine Below.alloc ?_ ?_ _) | (with_reducible refine Below.setCell ?_ ?_ _) | (with_reducible refine below_step ?_ (by assumption) ?_) | go_size))⟩; simp only [results, Try.results7]; go_simp)
def RNotePost (w : World) (r : Int × Int × List Chg × Int) (e : Ending) (w' : World) : Prop :=
  ∃ A c, e = .returned (.tuple #[.agg #[.int .i64 r.1, .int .i64 r.2.1, .slice A r.2.2.1.length c], .int .i64 r.2.2.2]) ∧ r.2.2.1.length ≤ c ∧ c ≤ maxLen ∧ LRow w' w'.heap.size A r.2.2.1.length r.2.2.1 ∧ Below w.heap.size w w'
theorem rnotePost_of {w w5 : World} {p n5 c5 : Nat} {A5 : Option Addr} {room last : Int} {l : List Chg} (hn : n5 = l.length) (ho : w5.ownsRow (p + 1) 32 3 (.slice A5 n5 c5) n5 (SV encC l)) (hg : w.heap.size + 2 ≤ p) (hz : p + 1 ≤ w5.heap.size) (hc : n5 ≤ c5) (hm : c5 ≤ maxLen) (BB : Below w.heap.size w w5) (v0 v1 v2 v3 : Value) :
    RNotePost w (room, last, l, 0) (.returned (.tuple #[.agg #[.int .i64 room, .int .i64 last, .slice A5 n5 c5], .int .i64 0])) ((((w5.setCell ⟨p, 2, none⟩ v0).setCell ⟨w.heap.size + 1, 0, none⟩ v1).setCell ⟨w.heap.size + 1, 1, none⟩ v2).setCell ⟨w.heap.size + 1, 2, none⟩ v3) ∧
    (0 < n5 → RNotePost w (room, last, l.drop 1, 0) (.returned (.tuple #[.agg #[.int .i64 room, .int .i64 last, .slice (if c5 = 1 then A5 else A5.map (·.add 3)) (n5 - 1) (c5 - 1)], .int .i64 0])) ((((w5.setCell ⟨p, 2, none⟩ v0).setCell ⟨w.heap.size + 1, 0, none⟩ v1).setCell ⟨w.heap.size + 1, 1, none⟩ v2).setCell ⟨w.heap.size + 1, 2, none⟩ v3)) := by
  subst hn
  have BF := (((BB.setCell (p := ⟨p, 2, none⟩) (by dsimp only; omega) v0).setCell (p := ⟨w.heap.size + 1, 0, none⟩) (by dsimp only; omega) v1).setCell (p := ⟨w.heap.size + 1, 1, none⟩) (by dsimp only; omega) v2).setCell (p := ⟨w.heap.size + 1, 2, none⟩) (by dsimp only; omega) v3
  have h1 := own_set (p := ⟨p, 2, none⟩) ho (by dsimp only; omega) v0
  have h2 := own_set (p := ⟨w.heap.size + 1, 0, none⟩) h1 (by dsimp only; omega) v1
  have h3 := own_set (p := ⟨w.heap.size + 1, 1, none⟩) h2 (by dsimp only; omega) v2
  have h4 := own_set (p := ⟨w.heap.size + 1, 2, none⟩) h3 (by dsimp only; omega) v3
  have h5 := srow_of_own encC_len (by decide) h4
  refine ⟨⟨_, c5, rfl, hc, hm, h5, BF⟩, fun h0 => ⟨if c5 = 1 then A5 else A5.map (·.add 3), c5 - 1, by simp only [List.length_drop], by simp only [List.length_drop]; omega, by omega, ?_, BF⟩⟩
  have := srow_cut h5 encC_len (m := 1) (c := c5) h0 hc (by decide)
  simp only [List.length_drop]
  exact this
def RNoteF (g : Nat) (cs : List Chg) (x : Chg) : Nat → Value → World → Prop
  | 0, v, w => ∃ b2, v = .slice (some ⟨b2, 0, none⟩) 0 0 ∧ w.ownsRow g 32 3 (.slice (some ⟨b2, 0, none⟩) 0 0) 0 (SV encC [])
  | 3, v, w => ∃ A c, v = .slice A cs.length c ∧ w.ownsRow g 32 3 (.slice A cs.length c) cs.length (SV encC cs)
  | 10, v, w => ∃ b2 B2, v = .slice (some ⟨b2, 0, none⟩) 1 1 ∧ B2 ≤ w.heap.size ∧ LRow w B2 (some ⟨b2, 0, none⟩) 1 [x]
  | _, _, _ => True
theorem rnoteF_st {g : Nat} {cs : List Chg} {x : Chg} : ∀ k v w w', Below w.heap.size w w' → RNoteF g cs x k v w → RNoteF g cs x k v w' := by
  intro k v w w' hb h
  unfold RNoteF at *
  split at h
  · obtain ⟨b2, e, ho⟩ := h
    exact ⟨b2, e, own_under ho hb (Nat.le_refl _)⟩
  · obtain ⟨A, c, e, ho⟩ := h
    exact ⟨A, c, e, own_under ho hb (Nat.le_refl _)⟩
  · obtain ⟨b2, B2, e, h2, h3⟩ := h
    exact ⟨b2, B2, e, Nat.le_trans h2 hb.size, srow_below h3 hb h2⟩
  · trivial
set_option maxHeartbeats 2000000 in
theorem rnote_in {w : World} {A : Option Addr} {B n c : Nat} {room last b m : Int} {cs : List Chg} (h : LRow w B A n cs) (hB : B ≤ w.heap.size) (hn : n ≤ c) (hnm : c ≤ maxLen) (hr : rightL room last cs = true) (hm : mayB b m = true) (hl : last ≠ 2147483647) :
    Calls Try.prog 8 #[.agg #[.int .i64 room, .int .i64 last, .slice A n c], .int .i64 b, .int .i64 m] w (RNotePost w (room, last + 1, cutL room cs ++ [(last + 1, b, m)], 0)) := by
  obtain ⟨i0, hi0, hz0, hz1, hz2⟩ := info_parts info_chg
  have e1 := h.1
  subst e1
  obtain ⟨q1, q2, q3, q4, q5, q6⟩ := right_pre hr
  have q7 : cs.length ≤ 64 := by omega
  have gl : (last == 2147483647) = false := by simpa using hl
  have R1 := rright_any (c := c) (srow_alloc (srow_alloc h hB (.cells #[.int .i64 room, .int .i64 last, .slice A cs.length c] 24)) (by simp; omega) (.cells #[.int .i64 0, .int .i64 0, .slice none 0 0] 24)) (by simp; omega) (by omega) (room := room) (last := last)
  have M1 := fun w => rmay_any b m w
  rw [hr] at R1
  rw [hm] at M1
  have HR := hide hr
  have HM := hide hm
  have HH := hide h
  have hl1 : last ≤ 2147483646 := by omega
  have HCO := hide (cut_other (x := (last + 1, b, m)) hr)
  clear hr hm h hl
  go_enter Try.func8, Try.ntmps8
  go_wp2_with (first | (go_at_call 11; refine (R1).mono ?_; rintro e w1 ⟨rfl, hb⟩; obtain ⟨hS, hE, hz, hc, hf⟩ := bcell hb; (try simp only [go_sem] at hE); subst hE) | (go_at_call 22; refine (M1 _).mono ?_; rintro e w1 ⟨rfl, rfl⟩) | (refine wp_region_quiet_below (by kernel_rfl) (by kernel_rfl) ?_; (repeat (first | go_big_quiet_step ((first | (go_at_call 11; exact Calls.regrown_of (R1)) | (go_at_call 22; exact Calls.regrown_of (below_of_same (M1 _))))) | quiet_step ((first | (go_at_call 11; exact Calls.regrown_of (R1)) | (go_at_call 22; exact Calls.regrown_of (below_of_same (M1 _))))))); refine wpQuiet_nil ?_; intro w1 hw1; have hb := below_of_regrown hw1; clear hw1; obtain ⟨hS, hE, hz, hc, hf⟩ := bcell hb; (try simp only [go_sem] at hE); subst hE))
  have HBWh := hide (show Below w.heap.size w w1 from (by repeat' (first | (with_reducible exact Below.refl _ _) | (with_reducible refine below_drewN ?_ _) | (with_reducible refine Below.drew ?_) | (with_reducible refine Below.alloc ?_ ?_ _) | (with_reducible refine Below.setCell ?_ ?_ _) | (with_reducible refine below_step ?_ (by assumption) ?_) | go_size)))
  have hw1 : w.heap.size + 2 ≤ w1.heap.size := by omega
  have hwr : IntKind.i64.wrap (last + 1) = last + 1 := IntWalk.i64_in _ (by omega)
  refine wp_region_facts 11 [1, 2, 4, 5, 6, 7, 8, 9] [0, 3, 10] (RNoteF (w1.heap.size + 1) cs (last + 1, b, m)) (by kernel_rfl) (by kernel_rfl) rnoteF_st ?_
  simp only [opsOf, List.filterMap_cons, List.filterMap_nil, List.getElem?_toArray, List.getElem?_cons_zero, List.getElem?_cons_succ]
  repeat (refine wpPure_any (fun K hK => ?_); go_simp; refine hK _ ?_; clear hK K)
  (refine wpPure_val (.slice A cs.length c) rfl (fun w' hw => by obtain ⟨hS, hE, hz, hc, hf⟩ := bcell hw; (try simp only [go_sem] at hE); subst hE; go_simp) ?_)
  repeat (refine wpPure_any (fun K hK => ?_); go_simp; refine hK _ ?_; clear hK K)
  (refine wpPure_val (.int .i64 last) rfl (fun w' hw => by obtain ⟨hS, hE, hz, hc, hf⟩ := bcell hw; (try simp only [go_sem] at hE); subst hE; go_simp) ?_)
  repeat (refine wpPure_any (fun K hK => ?_); go_simp; refine hK _ ?_; clear hK K)
  refine wpPure_nil ⟨fun o ho => ?_, fun o ho => ?_, fun o ho => ?_, ?_⟩
  · (simp only [List.getElem?_toArray, List.getElem?_cons_succ, List.getElem?_cons_zero, Option.some.injEq] at ho; subst ho)
    intro vs w' hC hF
    have hCz := hC.size
    simp only [World.size_alloc] at hCz
    simp only [List.nil_append, List.cons_append, puts, dstOf, List.getElem?_toArray, List.getElem?_cons_succ, List.getElem?_cons_zero, Option.bind_some]
    go_simp
    exact ⟨(by repeat' (first | (with_reducible exact Below.refl _ _) | (with_reducible refine below_drewN ?_ _) | (with_reducible refine Below.drew ?_) | (with_reducible refine Below.alloc ?_ ?_ _) | (with_reducible refine Below.setCell ?_ ?_ _) | (with_reducible refine below_step ?_ (by assumption) ?_) | go_size)), w'.heap.size, rfl, own_down (World.ownsRow_made w' #[] 0 (Nat.le_refl _) (Nat.zero_le _) rfl) hCz⟩
  · (simp only [List.getElem?_toArray, List.getElem?_cons_succ, List.getElem?_cons_zero, Option.some.injEq] at ho; subst ho)
    intro vs w' hC hF
    obtain ⟨b2, e2, ho2⟩ : RNoteF (w1.heap.size + 1) cs (last + 1, b, m) 0 (vs 0) w' := hF 0 (by simp) (by kernel_rfl)
    have hCz := hC.size
    simp only [World.size_alloc] at hCz
    have HLR := srow_below (srow_alloc (srow_below HH.out HBWh.out hB) (by omega) (.cells #[.int .i64 room, .int .i64 (last + 1), .slice none 0 0] 24)) hC (by simp only [World.size_alloc]; omega)
    obtain ⟨A', c', w5, hrun, ho5, hb5, hc5, hm5⟩ := run_append_copy (P := Try.prog) w' encC_len (by decide) (w1.heap.size + 1) 22 22 32 i0 _ 24 Try.underlying22 hi0 hz0 hz1 hz2 rfl b2 ho2 hCz _ A cs.length c cs HLR (by unfold maxLen; omega) (by omega)
    simp only [List.nil_append, List.cons_append, puts, dstOf, List.getElem?_toArray, List.getElem?_cons_succ, List.getElem?_cons_zero, Option.bind_some]
    rw [e2]
    refine if_wanted rfl (wpV_append (.tmp 29) (.tmp 31) 22 rfl _ _ _ rfl rfl hrun ⟨hb5, A', c', rfl, ho5⟩)
  · (simp only [List.getElem?_toArray, List.getElem?_cons_succ, List.getElem?_cons_zero, Option.some.injEq] at ho; subst ho)
    intro vs w' hC hF
    simp only [List.nil_append, List.cons_append, puts, dstOf, List.getElem?_toArray, List.getElem?_cons_succ, List.getElem?_cons_zero, Option.bind_some]
    go_simp
    exact ⟨(by repeat' (first | (with_reducible exact Below.refl _ _) | (with_reducible refine below_drewN ?_ _) | (with_reducible refine Below.drew ?_) | (with_reducible refine Below.alloc ?_ ?_ _) | (with_reducible refine Below.setCell ?_ ?_ _) | (with_reducible refine below_step ?_ (by assumption) ?_) | go_size)), ⟨_, _, rfl, by simp, srow_one encC_len w' (last + 1, b, m) 32⟩⟩
  · intro vs w' hC hF
    obtain ⟨b0, h0, _⟩ : RNoteF (w1.heap.size + 1) cs (last + 1, b, m) 0 (vs 0) w' := hF 0 (by simp)
    obtain ⟨A3, c3, h3, ho3⟩ : RNoteF (w1.heap.size + 1) cs (last + 1, b, m) 3 (vs 3) w' := hF 3 (by simp)
    obtain ⟨b2, B2, h13, hB2, hrow⟩ : RNoteF (w1.heap.size + 1) cs (last + 1, b, m) 10 (vs 10) w' := hF 10 (by simp)
    simp only [puts, dstOf, List.getElem?_toArray, List.getElem?_cons_succ, List.getElem?_cons_zero, Option.bind_some, h0, h3, h13, List.drop_succ_cons, List.drop_zero]
    have hCz := hC.size
    simp only [World.size_alloc] at hCz
    obtain ⟨hS6, hE6, hz6, hc6, hf6⟩ := bcell hC
    (try simp only [go_sem] at hE6)
    subst hE6
    have HRW := hide hrow
    have HO3 := hide ho3
    have HBC := hide hC
    clear hF h0 h3 h13 hrow ho3 hC
    have HBW' := hide ((HBWh.out.alloc (by omega) (.cells #[.int .i64 room, .int .i64 (last + 1), .slice none 0 0] 24)).trans (HBC.out.mono (by simp only [World.size_alloc]; omega)))
    by_cases hgt : room < (cs.length : Int) + 1
    · go_wp2_with (at_builtin; go_loud (refine wp_append_srow w' rfl (.tmp 32) (.tmp 39) 22 rfl encC_len encC_one (by decide) (w1.heap.size + 1) 32 i0 _ 24 Try.underlying22 hi0 hz0 hz1 hz2 rfl A3 cs.length c3 cs rfl HO3.out _ _ 1 1 _ rfl HRW.out (by unfold maxLen; omega) (by omega) hCz ?_); intro A5 c5 w5 hown5 hgrow5 hbel5 hcap5 hcm5; obtain ⟨hS5, hE5, hz5, hc5, hf5⟩ := bcellB hbel5; subst hE5; have hne5 : ¬ c5 = 1 := (by omega))
      refine bodyPost_ret (v := .tuple #[.agg #[.int .i64 room, .int .i64 (last + 1), .slice (A5.map (·.add 3)) cs.length (c5 - 1)], .int .i64 0]) ?_ rfl ?_
      · simp only [results, Try.results8]
        go_simp
      · have := (rnotePost_of (w := w) (room := room) (last := last + 1) (by simp) hown5 (by omega) (by omega) hcap5 hcm5 (HBW'.out.trans (hbel5.mono (by omega))) (.slice (A5.map (·.add 3)) cs.length (c5 - 1)) (.int .i64 room) (.int .i64 (last + 1)) (.slice (A5.map (·.add 3)) cs.length (c5 - 1))).2 (by omega)
        rw [if_neg hne5, Nat.add_sub_cancel] at this
        rw [if_pos (by simp; omega)] at HCO
        rw [← HCO.out]
        exact this
    · go_wp2_with (at_builtin; go_loud (refine wp_append_srow w' rfl (.tmp 32) (.tmp 39) 22 rfl encC_len encC_one (by decide) (w1.heap.size + 1) 32 i0 _ 24 Try.underlying22 hi0 hz0 hz1 hz2 rfl A3 cs.length c3 cs rfl HO3.out _ _ 1 1 _ rfl HRW.out (by unfold maxLen; omega) (by omega) hCz ?_); intro A5 c5 w5 hown5 hgrow5 hbel5 hcap5 hcm5; obtain ⟨hS5, hE5, hz5, hc5, hf5⟩ := bcellB hbel5; subst hE5; skip)
      refine bodyPost_ret (v := .tuple #[.agg #[.int .i64 room, .int .i64 (last + 1), .slice A5 (cs.length + 1) c5], .int .i64 0]) ?_ rfl ?_
      · simp only [results, Try.results8]
        go_simp
      · have := (rnotePost_of (w := w) (room := room) (last := last + 1) (by simp) hown5 (by omega) (by omega) hcap5 hcm5 (HBW'.out.trans (hbel5.mono (by omega))) (.slice A5 (cs.length + 1) c5) (.int .i64 room) (.int .i64 (last + 1)) (.slice A5 (cs.length + 1) c5)).1
        rw [if_neg (by simp; omega)] at HCO
        rw [← HCO.out]
        exact this
set_option maxHeartbeats 2000000 in
theorem rnote_any {w : World} {A : Option Addr} {B n c : Nat} {room last b m : Int} {cs : List Chg} (h : LRow w B A n cs) (hB : B ≤ w.heap.size) (hn : n ≤ c) (hnm : c ≤ maxLen) (h47 : n ≤ 140737488351232) :
    Calls Try.prog 8 #[.agg #[.int .i64 room, .int .i64 last, .slice A n c], .int .i64 b, .int .i64 m] w (RNotePost w (noteL room last cs b m)) := by
  have e1 := h.1
  subst e1
  have R1 := rright_any (c := c) (srow_alloc (srow_alloc h hB (.cells #[.int .i64 room, .int .i64 last, .slice A cs.length c] 24)) (by simp; omega) (.cells #[.int .i64 0, .int .i64 0, .slice none 0 0] 24)) (by simp; omega) (by omega) (room := room) (last := last)
  have M1 := fun w => rmay_any b m w
  by_cases hr : rightL room last cs = true
  · by_cases hm : mayB b m = true
    · by_cases hl : last = 2147483647
      · subst hl
        rw [show noteL room 2147483647 cs b m = (0, 0, [], 101) by unfold noteL; rw [if_neg (by simp [hr]), if_neg (by simp [hm]), if_pos rfl]]
        rw [hr] at R1
        rw [hm] at M1
        clear hr hm
        go_enter Try.func8, Try.ntmps8
        go_wp2_with (first | (go_at_call 11; refine (R1).mono ?_; rintro e w1 ⟨rfl, hb⟩; obtain ⟨hS, hE, hz, hc, hf⟩ := bcell hb; (try simp only [go_sem] at hE); subst hE) | (go_at_call 22; refine (M1 _).mono ?_; rintro e w1 ⟨rfl, rfl⟩) | (refine wp_region_quiet_below (by kernel_rfl) (by kernel_rfl) ?_; (repeat (first | go_big_quiet_step ((first | (go_at_call 11; exact Calls.regrown_of (R1)) | (go_at_call 22; exact Calls.regrown_of (below_of_same (M1 _))))) | quiet_step ((first | (go_at_call 11; exact Calls.regrown_of (R1)) | (go_at_call 22; exact Calls.regrown_of (below_of_same (M1 _))))))); refine wpQuiet_nil ?_; intro w1 hw1; have hb := below_of_regrown hw1; clear hw1; obtain ⟨hS, hE, hz, hc, hf⟩ := bcell hb; (try simp only [go_sem] at hE); subst hE))
        (refine bodyPost_ret (v := .tuple #[.agg #[.int .i64 0, .int .i64 0, .slice none 0 0], .int .i64 101]) ?_ rfl ⟨none, 0, rfl, Nat.le_refl _, Nat.zero_le _, srow_nil _ _ _, (by repeat' (first | (with_reducible exact Below.refl _ _) | (with_reducible refine below_drewN ?_ _) | (with_reducible refine Below.drew ?_) | (with_reducible refine Below.alloc ?_ ?_ _) | (with_reducible refine Below.setCell ?_ ?_ _) | (with_reducible refine below_step ?_ (by assumption) ?_) | go_size))⟩; simp only [results, Try.results8]; go_simp)
      · rw [show noteL room last cs b m = (room, last + 1, cutL room cs ++ [(last + 1, b, m)], 0) by unfold noteL; rw [if_neg (by simp [hr]), if_neg (by simp [hm]), if_neg hl]]
        exact rnote_in h hB hn hnm hr hm hl
    · rw [Bool.not_eq_true] at hm
      rw [show noteL room last cs b m = (0, 0, [], 1) by unfold noteL; rw [if_neg (by simp [hr]), if_pos hm]]
      rw [hr] at R1
      rw [hm] at M1
      clear hr hm
      go_enter Try.func8, Try.ntmps8
      go_wp2_with (first | (go_at_call 11; refine (R1).mono ?_; rintro e w1 ⟨rfl, hb⟩; obtain ⟨hS, hE, hz, hc, hf⟩ := bcell hb; (try simp only [go_sem] at hE); subst hE) | (go_at_call 22; refine (M1 _).mono ?_; rintro e w1 ⟨rfl, rfl⟩) | (refine wp_region_quiet_below (by kernel_rfl) (by kernel_rfl) ?_; (repeat (first | go_big_quiet_step ((first | (go_at_call 11; exact Calls.regrown_of (R1)) | (go_at_call 22; exact Calls.regrown_of (below_of_same (M1 _))))) | quiet_step ((first | (go_at_call 11; exact Calls.regrown_of (R1)) | (go_at_call 22; exact Calls.regrown_of (below_of_same (M1 _))))))); refine wpQuiet_nil ?_; intro w1 hw1; have hb := below_of_regrown hw1; clear hw1; obtain ⟨hS, hE, hz, hc, hf⟩ := bcell hb; (try simp only [go_sem] at hE); subst hE))
      (refine bodyPost_ret (v := .tuple #[.agg #[.int .i64 0, .int .i64 0, .slice none 0 0], .int .i64 1]) ?_ rfl ⟨none, 0, rfl, Nat.le_refl _, Nat.zero_le _, srow_nil _ _ _, (by repeat' (first | (with_reducible exact Below.refl _ _) | (with_reducible refine below_drewN ?_ _) | (with_reducible refine Below.drew ?_) | (with_reducible refine Below.alloc ?_ ?_ _) | (with_reducible refine Below.setCell ?_ ?_ _) | (with_reducible refine below_step ?_ (by assumption) ?_) | go_size))⟩; simp only [results, Try.results8]; go_simp)
  · rw [Bool.not_eq_true] at hr
    rw [show noteL room last cs b m = (0, 0, [], 110) by unfold noteL; rw [if_pos hr]]
    rw [hr] at R1
    clear hr
    go_enter Try.func8, Try.ntmps8
    go_wp2_with (first | (go_at_call 11; refine (R1).mono ?_; rintro e w1 ⟨rfl, hb⟩; obtain ⟨hS, hE, hz, hc, hf⟩ := bcell hb; (try simp only [go_sem] at hE); subst hE) | (go_at_call 22; refine (M1 _).mono ?_; rintro e w1 ⟨rfl, rfl⟩) | (refine wp_region_quiet_below (by kernel_rfl) (by kernel_rfl) ?_; (repeat (first | go_big_quiet_step ((first | (go_at_call 11; exact Calls.regrown_of (R1)) | (go_at_call 22; exact Calls.regrown_of (below_of_same (M1 _))))) | quiet_step ((first | (go_at_call 11; exact Calls.regrown_of (R1)) | (go_at_call 22; exact Calls.regrown_of (below_of_same (M1 _))))))); refine wpQuiet_nil ?_; intro w1 hw1; have hb := below_of_regrown hw1; clear hw1; obtain ⟨hS, hE, hz, hc, hf⟩ := bcell hb; (try simp only [go_sem] at hE); subst hE))
    (refine bodyPost_ret (v := .tuple #[.agg #[.int .i64 0, .int .i64 0, .slice none 0 0], .int .i64 110]) ?_ rfl ⟨none, 0, rfl, Nat.le_refl _, Nat.zero_le _, srow_nil _ _ _, (by repeat' (first | (with_reducible exact Below.refl _ _) | (with_reducible refine below_drewN ?_ _) | (with_reducible refine Below.drew ?_) | (with_reducible refine Below.alloc ?_ ?_ _) | (with_reducible refine Below.setCell ?_ ?_ _) | (with_reducible refine below_step ?_ (by assumption) ?_) | go_size))⟩; simp only [results, Try.results8]; go_simp)
end Go.Proofs.Ytngdlgmehefocaa.Log
