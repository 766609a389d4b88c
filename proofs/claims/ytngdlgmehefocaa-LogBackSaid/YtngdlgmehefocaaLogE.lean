/- A further change, by the program. No condition. -/
import Derived.Test.YtngdlgmehefocaaLogB
import Derived.Test.YtngdlgmehefocaaMixF
namespace Go.Proofs.Ytngdlgmehefocaa.Log
open Go.ChangeShapes Go.WideShapes Go.ChangeAt Go.RowKit Go.Proofs.Ytngdlgmehefocaa.Kit Go.Proofs.Ytngdlgmehefocaa.Mem Go.Proofs.Ytngdlgmehefocaa.Mix Go.Deep
set_option linter.unusedVariables false
set_option linter.unusedSimpArgs false
/-- What Note tells. -/
def NotePost (w : World) (r : Int × Int × List Chg × Int) (e : Ending) (w' : World) : Prop :=
  ∃ A c, e = .returned (.tuple #[.agg #[.int .i64 r.1, .int .i64 r.2.1, .slice A r.2.2.1.length c], .int .i64 r.2.2.2]) ∧ r.2.2.1.length ≤ c ∧ c ≤ maxLen ∧ w'.ownsRow w.heap.size 32 3 (.slice A r.2.2.1.length c) r.2.2.1.length (SV encC r.2.2.1) ∧ Below w.heap.size w w'
theorem info_chg : (Try.prog.info? 32).map (fun i => (i.zero, i.size, i.bytes)) = some (some (.agg #[.int .i64 0, .int .i64 0, .int .i64 0]), 3, 24) := by kernel_rfl
theorem notePost_of {w w5 : World} {g n5 c5 : Nat} {room last : Int} {l : List Chg} (hn : n5 = l.length) (ho : w5.ownsRow g 32 3 (.slice (some ⟨g, 0, none⟩) n5 c5) n5 (SV encC l)) (hg : w.heap.size + 2 ≤ g) (hc : n5 ≤ c5) (hm : c5 ≤ maxLen) (BB : Below w.heap.size w w5) (v0 v1 v2 v3 : Value) :
    NotePost w (room, last, l, 0) (.returned (.tuple #[.agg #[.int .i64 room, .int .i64 last, .slice (some ⟨g, 0, none⟩) n5 c5], .int .i64 0])) ((((w5.setCell ⟨w.heap.size, 2, none⟩ v0).setCell ⟨w.heap.size + 1, 0, none⟩ v1).setCell ⟨w.heap.size + 1, 1, none⟩ v2).setCell ⟨w.heap.size + 1, 2, none⟩ v3) := by
  subst hn
  refine ⟨_, c5, rfl, hc, hm, ?_, (((BB.setCell (Nat.le_refl _) _).setCell (by dsimp only; omega) _).setCell (by dsimp only; omega) _).setCell (by dsimp only; omega) _⟩
  have h1 := own_set (p := ⟨w.heap.size, 2, none⟩) ho (by dsimp only; omega) v0
  have h2 := own_set (p := ⟨w.heap.size + 1, 0, none⟩) h1 (by dsimp only; omega) v1
  have h3 := own_set (p := ⟨w.heap.size + 1, 1, none⟩) h2 (by dsimp only; omega) v2
  have h4 := own_set (p := ⟨w.heap.size + 1, 2, none⟩) h3 (by dsimp only; omega) v3
  exact own_down h4 (by omega)
def NoteF (A' : Option Addr) (n' n : Nat) (x : Chg) : Nat → Value → World → Prop
  | 4, v, _ => v = .int .i64 n
  | 6, v, _ => v = .int .i64 n
  | 7, v, _ => v = .slice A' n' n'
  | 13, v, w => ∃ b2 B2, v = .slice (some ⟨b2, 0, none⟩) 1 1 ∧ B2 ≤ w.heap.size ∧ LRow w B2 (some ⟨b2, 0, none⟩) 1 [x]
  | _, _, _ => True
theorem noteF_st {A' : Option Addr} {n' n : Nat} {x : Chg} : ∀ k v w w', Below w.heap.size w w' → NoteF A' n' n x k v w → NoteF A' n' n x k v w' := by
  intro k v w w' hb h
  unfold NoteF at *
  split at h
  · exact h
  · exact h
  · exact h
  · obtain ⟨b2, B2, e, h2, h3⟩ := h
    exact ⟨b2, B2, e, Nat.le_trans h2 hb.size, srow_below h3 hb h2⟩
  · trivial
set_option maxHeartbeats 2000000 in
theorem note_in {w : World} {A : Option Addr} {B n c : Nat} {room last b m : Int} {cs : List Chg} (h : LRow w B A n cs) (hB : B ≤ w.heap.size) (hn : n ≤ c) (hnm : c ≤ maxLen) (hr : rightL room last cs = true) (hm : mayB b m = true) (hl : last ≠ 2147483647) :
    Calls Try.prog 7 #[.agg #[.int .i64 room, .int .i64 last, .slice A n c], .int .i64 b, .int .i64 m] w (NotePost w (room, last + 1, cutL room cs ++ [(last + 1, b, m)], 0)) := by
  obtain ⟨i0, hi0, hz0, hz1, hz2⟩ := info_parts info_chg
  have e1 := h.1
  subst e1
  obtain ⟨q1, q2, q3, q4, q5, q6⟩ := right_pre hr
  have q7 : cs.length ≤ 64 := by omega
  have gl : (last == 2147483647) = false := by simpa using hl
  have R1 := right_any (c := c) (srow_alloc (srow_alloc h hB (.cells #[.int .i64 room, .int .i64 last, .slice A cs.length c] 24)) (by simp; omega) (.cells #[.int .i64 0, .int .i64 0, .slice none 0 0] 24)) (by simp; omega) (by omega) (room := room) (last := last)
  have M1 := fun w => may_any b m w
  rw [hr] at R1
  rw [hm] at M1
  have HR := hide hr
  have HM := hide hm
  have HH := hide h
  have hl1 : last ≤ 2147483646 := by omega
  clear hr hm h hl
  by_cases hc : (cs.length : Int) = room
  · have gc : ((cs.length : Int) == room) = true := by simpa using hc
    have HCUT : Hid (cutL room cs = cs.drop 1) := hide (by unfold cutL; rw [if_pos hc])
    have hpos : 0 < cs.length := by omega
    clear hc
    go_enter Try.func7, Try.ntmps7
    go_wp2_with (first | (go_at_call 10; refine (R1).mono ?_; rintro e w1 ⟨rfl, hb⟩; obtain ⟨hS, hE, hz, hc, hf⟩ := bcell hb; (try simp only [go_sem] at hE); subst hE) | (go_at_call 20; refine (M1 _).mono ?_; rintro e w1 ⟨rfl, rfl⟩) | (go_at_call 21; refine (kept_any _ _ _ _ _ _).mono ?_; rintro e w1 ⟨rfl, hb⟩; obtain ⟨hS, hE, hz, hc, hf⟩ := bcell hb; (try simp only [go_sem] at hE); subst hE) | (refine wp_region_quiet_below (by kernel_rfl) (by kernel_rfl) ?_; (repeat (first | go_big_quiet_step ((first | (go_at_call 10; exact Calls.regrown_of (R1)) | (go_at_call 20; exact Calls.regrown_of (below_of_same (M1 _))) | (go_at_call 21; exact Calls.regrown_of (kept_any _ _ _ _ _ _)))) | quiet_step ((first | (go_at_call 10; exact Calls.regrown_of (R1)) | (go_at_call 20; exact Calls.regrown_of (below_of_same (M1 _))) | (go_at_call 21; exact Calls.regrown_of (kept_any _ _ _ _ _ _)))))); refine wpQuiet_nil ?_; intro w1 hw1; have hb := below_of_regrown hw1; clear hw1; obtain ⟨hS, hE, hz, hc, hf⟩ := bcell hb; (try simp only [go_sem] at hE); subst hE))
    have HBW : Below w.heap.size w w1 := (by repeat' (first | (with_reducible exact Below.refl _ _) | (with_reducible refine below_drewN ?_ _) | (with_reducible refine Below.drew ?_) | (with_reducible refine Below.alloc ?_ ?_ _) | (with_reducible refine Below.setCell ?_ ?_ _) | (with_reducible refine below_step ?_ (by assumption) ?_) | go_size))
    have HBWh := hide HBW
    clear HBW
    refine wp_region_facts 14 [0, 1, 2, 3, 5, 8, 9, 10, 11, 12] [4, 6, 7, 13] (NoteF (if cs.length = 1 then A else A.map (·.add 3)) (cs.length - 1) cs.length (last + 1, b, m)) (by kernel_rfl) (by kernel_rfl) noteF_st ?_
    simp only [opsOf, List.filterMap_cons, List.filterMap_nil, List.getElem?_toArray, List.getElem?_cons_zero, List.getElem?_cons_succ]
    repeat (refine wpPure_any (fun K hK => ?_); go_simp; refine hK _ ?_; clear hK K)
    (refine wpPure_val (.slice A cs.length c) rfl (fun w' hw => by obtain ⟨hS, hE, hz, hc, hf⟩ := bcell hw; (try simp only [go_sem] at hE); subst hE; go_simp) ?_)
    repeat (refine wpPure_any (fun K hK => ?_); go_simp; refine hK _ ?_; clear hK K)
    (refine wpPure_val (.agg #[.int .i64 room, .int .i64 (last + 1), .slice A cs.length c]) rfl (fun w' hw => by obtain ⟨hS, hE, hz, hc, hf⟩ := bcell hw; (try simp only [go_sem] at hE); subst hE; go_simp) ?_)
    repeat (refine wpPure_any (fun K hK => ?_); go_simp; refine hK _ ?_; clear hK K)
    (refine wpPure_val (.agg #[.int .i64 room, .int .i64 (last + 1), .slice A cs.length c]) rfl (fun w' hw => by obtain ⟨hS, hE, hz, hc, hf⟩ := bcell hw; (try simp only [go_sem] at hE); subst hE; go_simp) ?_)
    repeat (refine wpPure_any (fun K hK => ?_); go_simp; refine hK _ ?_; clear hK K)
    (refine wpPure_val (.int .i64 (last + 1)) rfl (fun w' hw => by obtain ⟨hS, hE, hz, hc, hf⟩ := bcell hw; (try simp only [go_sem] at hE); subst hE; go_simp) ?_)
    repeat (refine wpPure_any (fun K hK => ?_); go_simp; refine hK _ ?_; clear hK K)
    refine wpPure_nil ⟨fun o ho => ?_, fun o ho => ?_, fun o ho => ?_, fun o ho => ?_, ?_⟩
    · (simp only [List.getElem?_toArray, List.getElem?_cons_succ, List.getElem?_cons_zero, Option.some.injEq] at ho; subst ho)
      intro vs w' hC hF
      simp only [puts]
      go_simp
      exact (kept_any _ _ _ _ _ _).mono fun e w'' ⟨h1, h2⟩ => ⟨_, h1, h2, rfl⟩
    · (simp only [List.getElem?_toArray, List.getElem?_cons_succ, List.getElem?_cons_zero, Option.some.injEq] at ho; subst ho)
      intro vs w' hC hF
      simp only [List.nil_append, List.cons_append, puts, dstOf, List.getElem?_toArray, List.getElem?_cons_succ, List.getElem?_cons_zero, Option.bind_some]
      go_simp
      exact (kept_any _ _ _ _ _ _).mono fun e w'' ⟨h1, h2⟩ => ⟨_, h1, h2, rfl⟩
    · (simp only [List.getElem?_toArray, List.getElem?_cons_succ, List.getElem?_cons_zero, Option.some.injEq] at ho; subst ho)
      intro vs w' hC hF
      have h4 : vs 4 = .int .i64 cs.length := hF 4 (by simp) (by kernel_rfl)
      have h6 : vs 6 = .int .i64 cs.length := hF 6 (by simp) (by kernel_rfl)
      simp only [List.nil_append, List.cons_append, puts, dstOf, List.getElem?_toArray, List.getElem?_cons_succ, List.getElem?_cons_zero, Option.bind_some]
      go_simp
      rw [if_pos (by omega)]
      exact ⟨Below.refl _ _, rfl⟩
    · (simp only [List.getElem?_toArray, List.getElem?_cons_succ, List.getElem?_cons_zero, Option.some.injEq] at ho; subst ho)
      intro vs w' hC hF
      simp only [List.nil_append, List.cons_append, puts, dstOf, List.getElem?_toArray, List.getElem?_cons_succ, List.getElem?_cons_zero, Option.bind_some]
      go_simp
      exact ⟨(by repeat' (first | (with_reducible exact Below.refl _ _) | (with_reducible refine below_drewN ?_ _) | (with_reducible refine Below.drew ?_) | (with_reducible refine Below.alloc ?_ ?_ _) | (with_reducible refine Below.setCell ?_ ?_ _) | (with_reducible refine below_step ?_ (by assumption) ?_) | go_size)), ⟨_, _, rfl, by simp, srow_one encC_len w' (last + 1, b, m) 32⟩⟩
    · intro vs w' hC hF
      have h4 : vs 4 = .int .i64 cs.length := hF 4 (by simp)
      have h6 : vs 6 = .int .i64 cs.length := hF 6 (by simp)
      have h7 : vs 7 = .slice (if cs.length = 1 then A else A.map (·.add 3)) (cs.length - 1) (cs.length - 1) := hF 7 (by simp)
      obtain ⟨b2, B2, h13, hB2, hrow⟩ : NoteF (if cs.length = 1 then A else A.map (·.add 3)) (cs.length - 1) cs.length (last + 1, b, m) 13 (vs 13) w' := hF 13 (by simp)
      simp only [puts, dstOf, List.getElem?_toArray, List.getElem?_cons_succ, List.getElem?_cons_zero, Option.bind_some, h4, h6, h7, h13, List.drop_succ_cons, List.drop_zero]
      have hCz := hC.size
      simp only [World.size_setCell] at hCz
      have HLR := hide (srow_below (srow_setCell (srow_below (srow_cut (c := cs.length) (m := 1) HH.out encC_len hpos (Nat.le_refl _) (by decide)) HBWh.out hB) (p := ⟨w.heap.size, 1, none⟩) hB (.int .i64 (last + 1))) hC (by simp only [World.size_setCell]; omega))
      have HRW := hide hrow
      obtain ⟨hS6, hE6, hz6, hc6, hf6⟩ := bcell hC
      (try simp only [go_sem] at hE6)
      subst hE6
      clear hF h4 h6 h7 h13 hrow
      rw [Nat.one_mul] at HLR
      generalize (if cs.length = 1 then A else A.map (·.add 3)) = A' at *
      go_wp2_with (at_builtin; go_loud (refine wp_append_full w' rfl (.tmp 41) (.tmp 47) 22 rfl encC_len (by decide) 32 i0 _ 24 Try.underlying22 hi0 hz0 hz1 hz2 rfl _ A' (cs.length - 1) (cs.drop 1) rfl HLR.out _ _ 1 1 _ rfl HRW.out (by decide) (by unfold maxLen; omega) (by omega) ?_); intro c5 w5 hown5 hbel5 hcap5 hcm5; obtain ⟨hS5, hE5, hz5, hc5, hf5⟩ := bcell hbel5; (try simp only [go_sem] at hE5); subst hE5)
      refine bodyPost_ret (v := .tuple #[.agg #[.int .i64 room, .int .i64 (last + 1), .slice (some ⟨w'.heap.size, 0, none⟩) (cs.length - 1 + 1) c5], .int .i64 0]) ?_ rfl ?_
      · simp only [results, Try.results7]
        go_simp
      · have BB : Below w.heap.size w w5 := ((HBWh.out.setCell (Nat.le_refl _) _).trans (hC.mono (by simp only [World.size_setCell]; omega))).trans (hbel5.mono (by omega))
        exact notePost_of (by simp [HCUT.out, List.length_drop]) (by rw [HCUT.out]; exact hown5) (by omega) hcap5 hcm5 BB _ _ _ _
  · have gc : ((cs.length : Int) == room) = false := by simpa using hc
    have HCUT : Hid (cutL room cs = cs) := hide (by unfold cutL; rw [if_neg hc]; rfl)
    clear hc
    go_enter Try.func7, Try.ntmps7
    go_wp2_with (first | (go_at_call 10; refine (R1).mono ?_; rintro e w1 ⟨rfl, hb⟩; obtain ⟨hS, hE, hz, hc, hf⟩ := bcell hb; (try simp only [go_sem] at hE); subst hE) | (go_at_call 20; refine (M1 _).mono ?_; rintro e w1 ⟨rfl, rfl⟩) | (go_at_call 21; refine (kept_any _ _ _ _ _ _).mono ?_; rintro e w1 ⟨rfl, hb⟩; obtain ⟨hS, hE, hz, hc, hf⟩ := bcell hb; (try simp only [go_sem] at hE); subst hE) | (refine wp_region_quiet_below (by kernel_rfl) (by kernel_rfl) ?_; (repeat (first | go_big_quiet_step ((first | (go_at_call 10; exact Calls.regrown_of (R1)) | (go_at_call 20; exact Calls.regrown_of (below_of_same (M1 _))) | (go_at_call 21; exact Calls.regrown_of (kept_any _ _ _ _ _ _)))) | quiet_step ((first | (go_at_call 10; exact Calls.regrown_of (R1)) | (go_at_call 20; exact Calls.regrown_of (below_of_same (M1 _))) | (go_at_call 21; exact Calls.regrown_of (kept_any _ _ _ _ _ _)))))); refine wpQuiet_nil ?_; intro w1 hw1; have hb := below_of_regrown hw1; clear hw1; obtain ⟨hS, hE, hz, hc, hf⟩ := bcell hb; (try simp only [go_sem] at hE); subst hE))
    have HBW : Below w.heap.size w w1 := (by repeat' (first | (with_reducible exact Below.refl _ _) | (with_reducible refine below_drewN ?_ _) | (with_reducible refine Below.drew ?_) | (with_reducible refine Below.alloc ?_ ?_ _) | (with_reducible refine Below.setCell ?_ ?_ _) | (with_reducible refine below_step ?_ (by assumption) ?_) | go_size))
    have HBWh := hide HBW
    clear HBW
    refine wp_region_facts 14 [0, 1, 2, 3, 5, 8, 9, 10, 11, 12] [4, 6, 7, 13] (NoteF A cs.length cs.length (last + 1, b, m)) (by kernel_rfl) (by kernel_rfl) noteF_st ?_
    simp only [opsOf, List.filterMap_cons, List.filterMap_nil, List.getElem?_toArray, List.getElem?_cons_zero, List.getElem?_cons_succ]
    repeat (refine wpPure_any (fun K hK => ?_); go_simp; refine hK _ ?_; clear hK K)
    (refine wpPure_val (.slice A cs.length c) rfl (fun w' hw => by obtain ⟨hS, hE, hz, hc, hf⟩ := bcell hw; (try simp only [go_sem] at hE); subst hE; go_simp) ?_)
    repeat (refine wpPure_any (fun K hK => ?_); go_simp; refine hK _ ?_; clear hK K)
    (refine wpPure_val (.agg #[.int .i64 room, .int .i64 (last + 1), .slice A cs.length c]) rfl (fun w' hw => by obtain ⟨hS, hE, hz, hc, hf⟩ := bcell hw; (try simp only [go_sem] at hE); subst hE; go_simp) ?_)
    repeat (refine wpPure_any (fun K hK => ?_); go_simp; refine hK _ ?_; clear hK K)
    (refine wpPure_val (.agg #[.int .i64 room, .int .i64 (last + 1), .slice A cs.length c]) rfl (fun w' hw => by obtain ⟨hS, hE, hz, hc, hf⟩ := bcell hw; (try simp only [go_sem] at hE); subst hE; go_simp) ?_)
    repeat (refine wpPure_any (fun K hK => ?_); go_simp; refine hK _ ?_; clear hK K)
    (refine wpPure_val (.int .i64 (last + 1)) rfl (fun w' hw => by obtain ⟨hS, hE, hz, hc, hf⟩ := bcell hw; (try simp only [go_sem] at hE); subst hE; go_simp) ?_)
    repeat (refine wpPure_any (fun K hK => ?_); go_simp; refine hK _ ?_; clear hK K)
    refine wpPure_nil ⟨fun o ho => ?_, fun o ho => ?_, fun o ho => ?_, fun o ho => ?_, ?_⟩
    · (simp only [List.getElem?_toArray, List.getElem?_cons_succ, List.getElem?_cons_zero, Option.some.injEq] at ho; subst ho)
      intro vs w' hC hF
      simp only [puts]
      go_simp
      exact (kept_any _ _ _ _ _ _).mono fun e w'' ⟨h1, h2⟩ => ⟨_, h1, h2, rfl⟩
    · (simp only [List.getElem?_toArray, List.getElem?_cons_succ, List.getElem?_cons_zero, Option.some.injEq] at ho; subst ho)
      intro vs w' hC hF
      simp only [List.nil_append, List.cons_append, puts, dstOf, List.getElem?_toArray, List.getElem?_cons_succ, List.getElem?_cons_zero, Option.bind_some]
      go_simp
      exact (kept_any _ _ _ _ _ _).mono fun e w'' ⟨h1, h2⟩ => ⟨_, h1, h2, rfl⟩
    · (simp only [List.getElem?_toArray, List.getElem?_cons_succ, List.getElem?_cons_zero, Option.some.injEq] at ho; subst ho)
      intro vs w' hC hF
      have h4 : vs 4 = .int .i64 cs.length := hF 4 (by simp) (by kernel_rfl)
      have h6 : vs 6 = .int .i64 cs.length := hF 6 (by simp) (by kernel_rfl)
      simp only [List.nil_append, List.cons_append, puts, dstOf, List.getElem?_toArray, List.getElem?_cons_succ, List.getElem?_cons_zero, Option.bind_some]
      go_simp
      exact ⟨Below.refl _ _, rfl⟩
    · (simp only [List.getElem?_toArray, List.getElem?_cons_succ, List.getElem?_cons_zero, Option.some.injEq] at ho; subst ho)
      intro vs w' hC hF
      simp only [List.nil_append, List.cons_append, puts, dstOf, List.getElem?_toArray, List.getElem?_cons_succ, List.getElem?_cons_zero, Option.bind_some]
      go_simp
      exact ⟨(by repeat' (first | (with_reducible exact Below.refl _ _) | (with_reducible refine below_drewN ?_ _) | (with_reducible refine Below.drew ?_) | (with_reducible refine Below.alloc ?_ ?_ _) | (with_reducible refine Below.setCell ?_ ?_ _) | (with_reducible refine below_step ?_ (by assumption) ?_) | go_size)), ⟨_, _, rfl, by simp, srow_one encC_len w' (last + 1, b, m) 32⟩⟩
    · intro vs w' hC hF
      have h4 : vs 4 = .int .i64 cs.length := hF 4 (by simp)
      have h6 : vs 6 = .int .i64 cs.length := hF 6 (by simp)
      have h7 : vs 7 = .slice A cs.length cs.length := hF 7 (by simp)
      obtain ⟨b2, B2, h13, hB2, hrow⟩ : NoteF A cs.length cs.length (last + 1, b, m) 13 (vs 13) w' := hF 13 (by simp)
      simp only [puts, dstOf, List.getElem?_toArray, List.getElem?_cons_succ, List.getElem?_cons_zero, Option.bind_some, h4, h6, h7, h13, List.drop_succ_cons, List.drop_zero]
      have hCz := hC.size
      simp only [World.size_setCell] at hCz
      have HLR := hide (srow_below (srow_setCell (srow_below HH.out HBWh.out hB) (p := ⟨w.heap.size, 1, none⟩) hB (.int .i64 (last + 1))) hC (by simp only [World.size_setCell]; omega))
      have HRW := hide hrow
      obtain ⟨hS6, hE6, hz6, hc6, hf6⟩ := bcell hC
      (try simp only [go_sem] at hE6)
      subst hE6
      clear hF h4 h6 h7 h13 hrow
      go_wp2_with (at_builtin; go_loud (refine wp_append_full w' rfl (.tmp 41) (.tmp 47) 22 rfl encC_len (by decide) 32 i0 _ 24 Try.underlying22 hi0 hz0 hz1 hz2 rfl _ A cs.length cs rfl HLR.out _ _ 1 1 _ rfl HRW.out (by decide) (by unfold maxLen; omega) (by omega) ?_); intro c5 w5 hown5 hbel5 hcap5 hcm5; obtain ⟨hS5, hE5, hz5, hc5, hf5⟩ := bcell hbel5; (try simp only [go_sem] at hE5); subst hE5)
      refine bodyPost_ret (v := .tuple #[.agg #[.int .i64 room, .int .i64 (last + 1), .slice (some ⟨w'.heap.size, 0, none⟩) (cs.length + 1) c5], .int .i64 0]) ?_ rfl ?_
      · simp only [results, Try.results7]
        go_simp
      · have BB : Below w.heap.size w w5 := ((HBWh.out.setCell (Nat.le_refl _) _).trans (hC.mono (by simp only [World.size_setCell]; omega))).trans (hbel5.mono (by omega))
        exact notePost_of (by simp [HCUT.out]) (by rw [HCUT.out]; exact hown5) (by omega) hcap5 hcm5 BB _ _ _ _
end Go.Proofs.Ytngdlgmehefocaa.Log
