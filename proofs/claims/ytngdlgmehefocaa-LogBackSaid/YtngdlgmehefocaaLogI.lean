/- What came since a version, by the program and by the document. No condition. -/
import Derived.Test.YtngdlgmehefocaaLogE
import Derived.Test.YtngdlgmehefocaaLogG
namespace Go.Proofs.Ytngdlgmehefocaa.Log
open Go.ChangeShapes Go.WideShapes Go.ChangeAt Go.RowKit Go.Proofs.Ytngdlgmehefocaa.Kit Go.Proofs.Ytngdlgmehefocaa.Mem Go.Proofs.Ytngdlgmehefocaa.Mix Go.Deep
set_option linter.unusedVariables false
set_option linter.unusedSimpArgs false
/-- What Since tells. -/
def SincePost (w : World) (r : List Chg × Int) (e : Ending) (w' : World) : Prop :=
  ∃ A c, e = .returned (.tuple #[.slice A r.1.length c, .int .i64 r.2]) ∧ r.1.length ≤ c ∧ c ≤ maxLen ∧ LRow w' w'.heap.size A r.1.length r.1 ∧ Below w.heap.size w w'
def SinceF (g : Nat) (cs : List Chg) (A' : Option Addr) (m n c : Nat) (last : Int) : Nat → Value → World → Prop
  | 0, v, w => ∃ b2, v = .slice (some ⟨b2, 0, none⟩) 0 0 ∧ w.ownsRow g 32 3 (.slice (some ⟨b2, 0, none⟩) 0 0) 0 (SV encC [])
  | 5, v, _ => v = .int .i64 (last - n)
  | 6, v, _ => v = .int .i64 m
  | 7, v, _ => v = .slice A' (n - m) (c - m)
  | _, _, _ => True
theorem sinceF_st {g : Nat} {cs : List Chg} {A' : Option Addr} {m n c : Nat} {last : Int} : ∀ k v w w', Below w.heap.size w w' → SinceF g cs A' m n c last k v w → SinceF g cs A' m n c last k v w' := by
  intro k v w w' hb h
  unfold SinceF at *
  split at h
  · obtain ⟨b2, e, ho⟩ := h
    exact ⟨b2, e, own_under ho hb (Nat.le_refl _)⟩
  · exact h
  · exact h
  · exact h
  · trivial
theorem wpList_step_append {P : Program} {w w' : World} {ops : Array Oper} {rest : List Oper} {o : Oper} {a : Act} {Q : Exit → Act → World → Prop} (hgd : o.guard = none) (s x : Operand) (t : TypeId)
    (ho : o.op = .call { callee := .builtin .append, args := #[s, x], argTypes := #[t, t] }) (v1 v2 v : Value) (hs : a.eval s = v1) (hx : a.eval x = v2) (hrun : (Builtin.append_ #[t, t] o.type #[v1, v2]).run P w = .ok v w')
    (h : wpList P ops Q rest (a.put o.dst v) w') : wpList P ops Q (o :: rest) a w := by
  refine wpList_plain hgd fun K hK => ?_
  unfold Oper.wp execOp
  simp only [ho, resolve, invoke, builtin, Sem.run_bind, Sem.run_pure, Result.andThen_ok, List.map_toArray, List.map_cons, List.map_nil, hs, hx, hrun]
  exact hK _ _ h
set_option maxHeartbeats 2000000 in
theorem since_in {w : World} {A : Option Addr} {B n c : Nat} {room last ver : Int} {cs : List Chg} (h : LRow w B A n cs) (hB : B ≤ w.heap.size) (hn : n ≤ c) (hnm : c ≤ maxLen) (hr : rightL room last cs = true) (h1 : 0 ≤ ver) (h2 : ver ≤ last) (h3 : oldL last cs ≤ ver) :
    Calls Try.prog 13 #[.agg #[.int .i64 room, .int .i64 last, .slice A n c], .int .i64 ver] w (SincePost w (cs.drop (ver - oldL last cs).toNat, 0)) := by
  obtain ⟨i0, hi0, hz0, hz1, hz2⟩ := info_parts info_chg
  have e1 := h.1
  subst e1
  obtain ⟨q1, q2, q3, q4, q5, q6⟩ := right_pre hr
  have q7 : cs.length ≤ 64 := by omega
  obtain ⟨m, hm⟩ : ∃ m : Nat, m = (ver - oldL last cs).toNat := ⟨_, rfl⟩
  have hmv : ver = last - cs.length + m := by unfold oldL at hm h3; omega
  have hml : m ≤ cs.length := by omega
  rw [← hm]
  have R1 := right_any (c := c) (srow_alloc h hB (.cells #[.int .i64 room, .int .i64 last, .slice A cs.length c] 24)) (by simp; omega) (by omega) (room := room) (last := last)
  rw [hr] at R1
  have HH := hide h
  clear hm h3 hr h
  subst hmv
  go_enter Try.func13, Try.ntmps13
  go_wp2_with (first | (go_at_call 10; refine (R1).mono ?_; rintro e w1 ⟨rfl, hb⟩; obtain ⟨hS, hE, hz, hc, hf⟩ := bcell hb; (try simp only [go_sem] at hE); subst hE) | (go_at_call 23; refine (oldest_any _ _ _ _ _ _ q3 q4 q7).mono ?_; rintro e w1 ⟨rfl, hb⟩; obtain ⟨hS, hE, hz, hc, hf⟩ := bcell hb; (try simp only [go_sem] at hE); subst hE) | (refine wp_region_quiet_below (by kernel_rfl) (by kernel_rfl) ?_; (repeat (first | go_big_quiet_step ((first | (go_at_call 10; exact Calls.regrown_of (R1)) | (go_at_call 23; exact Calls.regrown_of (oldest_any _ _ _ _ _ _ q3 q4 q7)))) | quiet_step ((first | (go_at_call 10; exact Calls.regrown_of (R1)) | (go_at_call 23; exact Calls.regrown_of (oldest_any _ _ _ _ _ _ q3 q4 q7)))))); refine wpQuiet_nil ?_; intro w1 hw1; have hb := below_of_regrown hw1; clear hw1; obtain ⟨hS, hE, hz, hc, hf⟩ := bcell hb; (try simp only [go_sem] at hE); subst hE))
  have HW1 := hide (show Below w.heap.size w w1 from (by repeat' (first | (with_reducible exact Below.refl _ _) | (with_reducible refine below_drewN ?_ _) | (with_reducible refine Below.drew ?_) | (with_reducible refine Below.alloc ?_ ?_ _) | (with_reducible refine Below.setCell ?_ ?_ _) | (with_reducible refine below_step ?_ (by assumption) ?_) | go_size)))
  have hwr : IntKind.i64.wrap (last - ↑cs.length + ↑m - (last - ↑cs.length)) = m := by rw [IntWalk.i64_in _ (by omega)]; omega
  refine wp_region_facts 8 [1, 2, 3, 4] [0, 5, 6, 7] (SinceF w1.heap.size cs (if c = m then A else A.map (·.add (m * 3))) m cs.length c last) (by kernel_rfl) (by kernel_rfl) sinceF_st ?_
  simp only [opsOf, List.filterMap_cons, List.filterMap_nil, List.getElem?_toArray, List.getElem?_cons_zero, List.getElem?_cons_succ]
  repeat (refine wpPure_any (fun K hK => ?_); go_simp; refine hK _ ?_; clear hK K)
  (refine wpPure_val (.slice A cs.length c) rfl (fun w' hw => by obtain ⟨hS, hE, hz, hc, hf⟩ := bcell hw; (try simp only [go_sem] at hE); subst hE; go_simp) ?_)
  repeat (refine wpPure_any (fun K hK => ?_); go_simp; refine hK _ ?_; clear hK K)
  (refine wpPure_val (.agg #[.int .i64 room, .int .i64 last, .slice A cs.length c]) rfl (fun w' hw => by obtain ⟨hS, hE, hz, hc, hf⟩ := bcell hw; (try simp only [go_sem] at hE); subst hE; go_simp) ?_)
  repeat (refine wpPure_any (fun K hK => ?_); go_simp; refine hK _ ?_; clear hK K)
  refine wpPure_nil ⟨fun o ho => ?_, fun o ho => ?_, fun o ho => ?_, fun o ho => ?_, ?_⟩
  · (simp only [List.getElem?_toArray, List.getElem?_cons_succ, List.getElem?_cons_zero, Option.some.injEq] at ho; subst ho)
    intro vs w' hC hF
    have hCz := hC.size
    simp only [List.nil_append, List.cons_append, puts, dstOf, List.getElem?_toArray, List.getElem?_cons_succ, List.getElem?_cons_zero, Option.bind_some]
    go_simp
    exact ⟨(by repeat' (first | (with_reducible exact Below.refl _ _) | (with_reducible refine below_drewN ?_ _) | (with_reducible refine Below.drew ?_) | (with_reducible refine Below.alloc ?_ ?_ _) | (with_reducible refine Below.setCell ?_ ?_ _) | (with_reducible refine below_step ?_ (by assumption) ?_) | go_size)), w'.heap.size, rfl, own_down (World.ownsRow_made w' #[] 0 (Nat.le_refl _) (Nat.zero_le _) rfl) hCz⟩
  · (simp only [List.getElem?_toArray, List.getElem?_cons_succ, List.getElem?_cons_zero, Option.some.injEq] at ho; subst ho)
    intro vs w' hC hF
    simp only [List.nil_append, List.cons_append, puts, dstOf, List.getElem?_toArray, List.getElem?_cons_succ, List.getElem?_cons_zero, Option.bind_some]
    go_simp
    exact (oldest_any _ _ _ _ _ _ q3 q4 q7).mono fun e w'' ⟨h1, h2⟩ => ⟨_, h1, h2, rfl⟩
  · (simp only [List.getElem?_toArray, List.getElem?_cons_succ, List.getElem?_cons_zero, Option.some.injEq] at ho; subst ho)
    intro vs w' hC hF
    have h5 : vs 5 = .int .i64 (last - cs.length) := hF 5 (by simp) (by kernel_rfl)
    simp only [List.nil_append, List.cons_append, puts, dstOf, List.getElem?_toArray, List.getElem?_cons_succ, List.getElem?_cons_zero, Option.bind_some]
    go_simp
    exact ⟨Below.refl _ _, rfl⟩
  · (simp only [List.getElem?_toArray, List.getElem?_cons_succ, List.getElem?_cons_zero, Option.some.injEq] at ho; subst ho)
    intro vs w' hC hF
    have h6 : vs 6 = .int .i64 m := hF 6 (by simp) (by kernel_rfl)
    simp only [List.nil_append, List.cons_append, puts, dstOf, List.getElem?_toArray, List.getElem?_cons_succ, List.getElem?_cons_zero, Option.bind_some]
    go_simp
    exact ⟨Below.refl _ _, rfl⟩
  · intro vs w' hC hF
    obtain ⟨b2, h0, ho2⟩ : SinceF w1.heap.size cs (if c = m then A else A.map (·.add (m * 3))) m cs.length c last 0 (vs 0) w' := hF 0 (by simp)
    have h5 : vs 5 = .int .i64 (last - cs.length) := hF 5 (by simp)
    have h6 : vs 6 = .int .i64 m := hF 6 (by simp)
    have h7 : vs 7 = .slice (if c = m then A else A.map (·.add (m * 3))) (cs.length - m) (c - m) := hF 7 (by simp)
    simp only [puts, dstOf, List.getElem?_toArray, List.getElem?_cons_succ, List.getElem?_cons_zero, Option.bind_some, h0, h5, h6, h7, List.drop_succ_cons, List.drop_zero]
    have hCz := hC.size
    have HLR := hide (srow_below (srow_cut (srow_below HH.out HW1.out hB) encC_len (c := c) hml hn (by decide)) hC (by have := HW1.out.size; omega))
    have HO2 := hide ho2
    have HBC := hide (HW1.out.trans (hC.mono HW1.out.size))
    clear hF h0 h5 h6 h7 ho2
    generalize (if c = m then A else A.map (·.add (m * 3))) = A' at *
    obtain ⟨A5, c5, w5, hrun, ho5, hb5, hc5, hm5⟩ := run_append_copy (P := Try.prog) w' encC_len (by decide) w1.heap.size 22 22 32 i0 _ 24 Try.underlying22 hi0 hz0 hz1 hz2 rfl b2 HO2.out hCz _ A' (cs.length - m) (c - m) (cs.drop m) HLR.out (by unfold maxLen; omega) (by omega)
    have HO5 := hide ho5
    have HB5 := hide hb5
    clear ho5 hb5
    refine wpList_step_append rfl (.tmp 24) (.tmp 31) 22 rfl _ _ _ rfl rfl hrun ?_
    clear hrun
    go_wp2
    go_ret2
    refine ⟨A5, c5, by rw [List.length_drop]; rfl, by rw [List.length_drop]; exact hc5, hm5, ?_, HBC.out.trans (HB5.out.mono (by have := HBC.out.size; omega))⟩
    have := srow_of_own encC_len (by decide) HO5.out
    rw [List.length_drop]
    exact this
theorem since_no {A : Option Addr} {c k : Nat} (w w' : World) (r : List Chg × Int) (e : Int) (hr : r = ([], e)) (hb : Below w.heap.size w w') : SincePost w r (.returned (.tuple #[.slice none 0 0, .int .i64 e])) w' := by
  subst hr
  exact ⟨none, 0, rfl, Nat.le_refl _, Nat.zero_le _, srow_nil _ _ _, hb⟩
set_option maxHeartbeats 2000000 in
theorem since_any {w : World} {A : Option Addr} {B n c : Nat} {room last ver : Int} {cs : List Chg} (h : LRow w B A n cs) (hB : B ≤ w.heap.size) (hn : n ≤ c) (hnm : c ≤ maxLen) (h47 : n ≤ 140737488351232) :
    Calls Try.prog 13 #[.agg #[.int .i64 room, .int .i64 last, .slice A n c], .int .i64 ver] w (SincePost w (sinceL room last cs ver)) := by
  have e1 := h.1
  subst e1
  have R1 := right_any (c := c) (srow_alloc h hB (.cells #[.int .i64 room, .int .i64 last, .slice A cs.length c] 24)) (by simp; omega) (by omega) (room := room) (last := last)
  by_cases hr : rightL room last cs = true
  · obtain ⟨q1, q2, q3, q4, q5, q6⟩ := right_pre hr
    have q7 : cs.length ≤ 64 := by omega
    by_cases h0 : ver < 0 ∨ last < ver
    · have HS : Hid (sinceL room last cs ver = ([], 1)) := hide (by unfold sinceL; rw [if_neg (by simp [hr]), if_pos h0])
      rw [hr] at R1
      clear hr
      rcases h0 with h0 | h0
      · go_enter Try.func13, Try.ntmps13
        go_wp2_with (first | (go_at_call 10; refine (R1).mono ?_; rintro e w1 ⟨rfl, hb⟩; obtain ⟨hS, hE, hz, hc, hf⟩ := bcell hb; (try simp only [go_sem] at hE); subst hE) | (refine wp_region_quiet_below (by kernel_rfl) (by kernel_rfl) ?_; (repeat (first | go_big_quiet_step ((first | (go_at_call 10; exact Calls.regrown_of (R1)))) | quiet_step ((first | (go_at_call 10; exact Calls.regrown_of (R1)))))); refine wpQuiet_nil ?_; intro w1 hw1; have hb := below_of_regrown hw1; clear hw1; obtain ⟨hS, hE, hz, hc, hf⟩ := bcell hb; (try simp only [go_sem] at hE); subst hE))
        go_ret2
        exact since_no (A := A) (c := c) (k := 0) _ _ _ _ HS.out (by repeat' (first | (with_reducible exact Below.refl _ _) | (with_reducible refine below_drewN ?_ _) | (with_reducible refine Below.drew ?_) | (with_reducible refine Below.alloc ?_ ?_ _) | (with_reducible refine Below.setCell ?_ ?_ _) | (with_reducible refine below_step ?_ (by assumption) ?_) | go_size))
      · by_cases h00 : ver < 0
        all_goals
          go_enter Try.func13, Try.ntmps13
          go_wp2_with (first | (go_at_call 10; refine (R1).mono ?_; rintro e w1 ⟨rfl, hb⟩; obtain ⟨hS, hE, hz, hc, hf⟩ := bcell hb; (try simp only [go_sem] at hE); subst hE) | (refine wp_region_quiet_below (by kernel_rfl) (by kernel_rfl) ?_; (repeat (first | go_big_quiet_step ((first | (go_at_call 10; exact Calls.regrown_of (R1)))) | quiet_step ((first | (go_at_call 10; exact Calls.regrown_of (R1)))))); refine wpQuiet_nil ?_; intro w1 hw1; have hb := below_of_regrown hw1; clear hw1; obtain ⟨hS, hE, hz, hc, hf⟩ := bcell hb; (try simp only [go_sem] at hE); subst hE))
          go_ret2
          exact since_no (A := A) (c := c) (k := 0) _ _ _ _ HS.out (by repeat' (first | (with_reducible exact Below.refl _ _) | (with_reducible refine below_drewN ?_ _) | (with_reducible refine Below.drew ?_) | (with_reducible refine Below.alloc ?_ ?_ _) | (with_reducible refine Below.setCell ?_ ?_ _) | (with_reducible refine below_step ?_ (by assumption) ?_) | go_size))
    · have h1 : 0 ≤ ver := by omega
      have h2 : ver ≤ last := by omega
      by_cases h3 : ver < oldL last cs
      · have HS : Hid (sinceL room last cs ver = ([], 111)) := hide (by unfold sinceL; rw [if_neg (by simp [hr]), if_neg h0, if_pos h3])
        rw [hr] at R1
        have h4 : ver < last - cs.length := h3
        clear hr h3 h0
        go_enter Try.func13, Try.ntmps13
        go_wp2_with (first | (go_at_call 10; refine (R1).mono ?_; rintro e w1 ⟨rfl, hb⟩; obtain ⟨hS, hE, hz, hc, hf⟩ := bcell hb; (try simp only [go_sem] at hE); subst hE) | (go_at_call 23; refine (oldest_any _ _ _ _ _ _ q3 q4 q7).mono ?_; rintro e w1 ⟨rfl, hb⟩; obtain ⟨hS, hE, hz, hc, hf⟩ := bcell hb; (try simp only [go_sem] at hE); subst hE) | (refine wp_region_quiet_below (by kernel_rfl) (by kernel_rfl) ?_; (repeat (first | go_big_quiet_step ((first | (go_at_call 10; exact Calls.regrown_of (R1)) | (go_at_call 23; exact Calls.regrown_of (oldest_any _ _ _ _ _ _ q3 q4 q7)))) | quiet_step ((first | (go_at_call 10; exact Calls.regrown_of (R1)) | (go_at_call 23; exact Calls.regrown_of (oldest_any _ _ _ _ _ _ q3 q4 q7)))))); refine wpQuiet_nil ?_; intro w1 hw1; have hb := below_of_regrown hw1; clear hw1; obtain ⟨hS, hE, hz, hc, hf⟩ := bcell hb; (try simp only [go_sem] at hE); subst hE))
        go_ret2
        exact since_no (A := A) (c := c) (k := 0) _ _ _ _ HS.out (by repeat' (first | (with_reducible exact Below.refl _ _) | (with_reducible refine below_drewN ?_ _) | (with_reducible refine Below.drew ?_) | (with_reducible refine Below.alloc ?_ ?_ _) | (with_reducible refine Below.setCell ?_ ?_ _) | (with_reducible refine below_step ?_ (by assumption) ?_) | go_size))
      · rw [show sinceL room last cs ver = (cs.drop (ver - oldL last cs).toNat, 0) by unfold sinceL; rw [if_neg (by simp [hr]), if_neg h0, if_neg h3]]
        exact since_in h hB hn hnm hr h1 h2 (by omega)
  · rw [Bool.not_eq_true] at hr
    have HS : Hid (sinceL room last cs ver = ([], 110)) := hide (by unfold sinceL; rw [if_pos hr])
    rw [hr] at R1
    clear hr
    go_enter Try.func13, Try.ntmps13
    go_wp2_with (first | (go_at_call 10; refine (R1).mono ?_; rintro e w1 ⟨rfl, hb⟩; obtain ⟨hS, hE, hz, hc, hf⟩ := bcell hb; (try simp only [go_sem] at hE); subst hE) | (refine wp_region_quiet_below (by kernel_rfl) (by kernel_rfl) ?_; (repeat (first | go_big_quiet_step ((first | (go_at_call 10; exact Calls.regrown_of (R1)))) | quiet_step ((first | (go_at_call 10; exact Calls.regrown_of (R1)))))); refine wpQuiet_nil ?_; intro w1 hw1; have hb := below_of_regrown hw1; clear hw1; obtain ⟨hS, hE, hz, hc, hf⟩ := bcell hb; (try simp only [go_sem] at hE); subst hE))
    go_ret2
    exact since_no (A := A) (c := c) (k := 0) _ _ _ _ HS.out (by repeat' (first | (with_reducible exact Below.refl _ _) | (with_reducible refine below_drewN ?_ _) | (with_reducible refine Below.drew ?_) | (with_reducible refine Below.alloc ?_ ?_ _) | (with_reducible refine Below.setCell ?_ ?_ _) | (with_reducible refine below_step ?_ (by assumption) ?_) | go_size))
end Go.Proofs.Ytngdlgmehefocaa.Log
