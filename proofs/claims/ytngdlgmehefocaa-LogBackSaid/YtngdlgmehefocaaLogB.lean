/- Which logs are right, by the program. No condition. -/
import Derived.Test.YtngdlgmehefocaaLogA
namespace Go.Proofs.Ytngdlgmehefocaa.Log
open Go.ChangeShapes Go.WideShapes Go.ChangeAt Go.RowKit Go.Proofs.Ytngdlgmehefocaa.Kit Go.Proofs.Ytngdlgmehefocaa.Mem Go.Deep
set_option linter.unusedVariables false
theorem pre_split {room last : Int} {n : Nat} (h : ¬ preL room last n) : room < 1 ∨ (1 ≤ room ∧ 64 < room) ∨ (1 ≤ room ∧ room ≤ 64 ∧ last < 0) ∨ (1 ≤ room ∧ room ≤ 64 ∧ 0 ≤ last ∧ 2147483647 < last) ∨ (1 ≤ room ∧ room ≤ 64 ∧ 0 ≤ last ∧ last ≤ 2147483647 ∧ min room last < n) := by
  unfold preL at h
  omega
set_option maxHeartbeats 1000000 in
theorem right_out {w : World} {A : Option Addr} {n c : Nat} {room last : Int} (hn : n ≤ 140737488351232) (h : ¬ preL room last n) :
    Calls Try.prog 10 #[.agg #[.int .i64 room, .int .i64 last, .slice A n c]] w fun e w' => e = .returned (.bool false) ∧ Below w.heap.size w w' := by
  rcases pre_split h with h | ⟨h, h2⟩ | ⟨h, h2, h3⟩ | ⟨h, h2, h3, h4⟩ | ⟨h, h2, h3, h4, h5⟩
  · have g1 : decide (room < 1) = true := decide_eq_true h
    (go_enter Try.func10, Try.ntmps10; go_wp2; go_step3; go_wp2_with (first | (go_at_call 21; refine (kept_any _ _ _ _ _ _).mono ?_; rintro e w1 ⟨rfl, hb⟩; obtain ⟨hS, hE, hz, hc, hf⟩ := bcell hb; (try simp only [go_sem] at hE); subst hE) | (refine wp_region_quiet_below (by kernel_rfl) (by kernel_rfl) ?_; (repeat (first | go_big_quiet_step ((first | (go_at_call 21; exact Calls.regrown_of (kept_any _ _ _ _ _ _)))) | quiet_step ((first | (go_at_call 21; exact Calls.regrown_of (kept_any _ _ _ _ _ _)))))); refine wpQuiet_nil ?_; intro w1 hw1; have hb := below_of_regrown hw1; clear hw1; obtain ⟨hS, hE, hz, hc, hf⟩ := bcell hb; (try simp only [go_sem] at hE); subst hE)); all_goals ((try rw [Exit.noGoto_ret]); go_ret; exact ⟨rfl, (by repeat' (first | (with_reducible exact Below.refl _ _) | (with_reducible refine below_drewN ?_ _) | (with_reducible refine Below.drew ?_) | (with_reducible refine Below.alloc ?_ ?_ _) | (with_reducible refine Below.setCell ?_ ?_ _) | (with_reducible refine below_step ?_ (by assumption) ?_) | go_size))⟩))
  · have g1 : decide (room < 1) = false := decide_eq_false (by omega)
    have g2 : decide (64 < room) = true := decide_eq_true h2
    (go_enter Try.func10, Try.ntmps10; go_wp2; go_step3; go_wp2_with (first | (go_at_call 21; refine (kept_any _ _ _ _ _ _).mono ?_; rintro e w1 ⟨rfl, hb⟩; obtain ⟨hS, hE, hz, hc, hf⟩ := bcell hb; (try simp only [go_sem] at hE); subst hE) | (refine wp_region_quiet_below (by kernel_rfl) (by kernel_rfl) ?_; (repeat (first | go_big_quiet_step ((first | (go_at_call 21; exact Calls.regrown_of (kept_any _ _ _ _ _ _)))) | quiet_step ((first | (go_at_call 21; exact Calls.regrown_of (kept_any _ _ _ _ _ _)))))); refine wpQuiet_nil ?_; intro w1 hw1; have hb := below_of_regrown hw1; clear hw1; obtain ⟨hS, hE, hz, hc, hf⟩ := bcell hb; (try simp only [go_sem] at hE); subst hE)); all_goals ((try rw [Exit.noGoto_ret]); go_ret; exact ⟨rfl, (by repeat' (first | (with_reducible exact Below.refl _ _) | (with_reducible refine below_drewN ?_ _) | (with_reducible refine Below.drew ?_) | (with_reducible refine Below.alloc ?_ ?_ _) | (with_reducible refine Below.setCell ?_ ?_ _) | (with_reducible refine below_step ?_ (by assumption) ?_) | go_size))⟩))
  · have g1 : decide (room < 1) = false := decide_eq_false (by omega)
    have g2 : decide (64 < room) = false := decide_eq_false (by omega)
    have g3 : decide (last < 0) = true := decide_eq_true h3
    (go_enter Try.func10, Try.ntmps10; go_wp2; go_step3; go_wp2_with (first | (go_at_call 21; refine (kept_any _ _ _ _ _ _).mono ?_; rintro e w1 ⟨rfl, hb⟩; obtain ⟨hS, hE, hz, hc, hf⟩ := bcell hb; (try simp only [go_sem] at hE); subst hE) | (refine wp_region_quiet_below (by kernel_rfl) (by kernel_rfl) ?_; (repeat (first | go_big_quiet_step ((first | (go_at_call 21; exact Calls.regrown_of (kept_any _ _ _ _ _ _)))) | quiet_step ((first | (go_at_call 21; exact Calls.regrown_of (kept_any _ _ _ _ _ _)))))); refine wpQuiet_nil ?_; intro w1 hw1; have hb := below_of_regrown hw1; clear hw1; obtain ⟨hS, hE, hz, hc, hf⟩ := bcell hb; (try simp only [go_sem] at hE); subst hE)); all_goals ((try rw [Exit.noGoto_ret]); go_ret; exact ⟨rfl, (by repeat' (first | (with_reducible exact Below.refl _ _) | (with_reducible refine below_drewN ?_ _) | (with_reducible refine Below.drew ?_) | (with_reducible refine Below.alloc ?_ ?_ _) | (with_reducible refine Below.setCell ?_ ?_ _) | (with_reducible refine below_step ?_ (by assumption) ?_) | go_size))⟩))
  · have g1 : decide (room < 1) = false := decide_eq_false (by omega)
    have g2 : decide (64 < room) = false := decide_eq_false (by omega)
    have g3 : decide (last < 0) = false := decide_eq_false (by omega)
    have g4 : decide (2147483647 < last) = true := decide_eq_true h4
    (go_enter Try.func10, Try.ntmps10; go_wp2; go_step3; go_wp2_with (first | (go_at_call 21; refine (kept_any _ _ _ _ _ _).mono ?_; rintro e w1 ⟨rfl, hb⟩; obtain ⟨hS, hE, hz, hc, hf⟩ := bcell hb; (try simp only [go_sem] at hE); subst hE) | (refine wp_region_quiet_below (by kernel_rfl) (by kernel_rfl) ?_; (repeat (first | go_big_quiet_step ((first | (go_at_call 21; exact Calls.regrown_of (kept_any _ _ _ _ _ _)))) | quiet_step ((first | (go_at_call 21; exact Calls.regrown_of (kept_any _ _ _ _ _ _)))))); refine wpQuiet_nil ?_; intro w1 hw1; have hb := below_of_regrown hw1; clear hw1; obtain ⟨hS, hE, hz, hc, hf⟩ := bcell hb; (try simp only [go_sem] at hE); subst hE)); all_goals ((try rw [Exit.noGoto_ret]); go_ret; exact ⟨rfl, (by repeat' (first | (with_reducible exact Below.refl _ _) | (with_reducible refine below_drewN ?_ _) | (with_reducible refine Below.drew ?_) | (with_reducible refine Below.alloc ?_ ?_ _) | (with_reducible refine Below.setCell ?_ ?_ _) | (with_reducible refine below_step ?_ (by assumption) ?_) | go_size))⟩))
  · have g1 : decide (room < 1) = false := decide_eq_false (by omega)
    have g2 : decide (64 < room) = false := decide_eq_false (by omega)
    have g3 : decide (last < 0) = false := decide_eq_false (by omega)
    have g4 : decide (2147483647 < last) = false := decide_eq_false (by omega)
    have g5 : decide (min room last < n) = true := decide_eq_true h5
    (go_enter Try.func10, Try.ntmps10; go_wp2; go_step3; go_wp2_with (first | (go_at_call 21; refine (kept_any _ _ _ _ _ _).mono ?_; rintro e w1 ⟨rfl, hb⟩; obtain ⟨hS, hE, hz, hc, hf⟩ := bcell hb; (try simp only [go_sem] at hE); subst hE) | (refine wp_region_quiet_below (by kernel_rfl) (by kernel_rfl) ?_; (repeat (first | go_big_quiet_step ((first | (go_at_call 21; exact Calls.regrown_of (kept_any _ _ _ _ _ _)))) | quiet_step ((first | (go_at_call 21; exact Calls.regrown_of (kept_any _ _ _ _ _ _)))))); refine wpQuiet_nil ?_; intro w1 hw1; have hb := below_of_regrown hw1; clear hw1; obtain ⟨hS, hE, hz, hc, hf⟩ := bcell hb; (try simp only [go_sem] at hE); subst hE)); all_goals ((try rw [Exit.noGoto_ret]); go_ret; exact ⟨rfl, (by repeat' (first | (with_reducible exact Below.refl _ _) | (with_reducible refine below_drewN ?_ _) | (with_reducible refine Below.drew ?_) | (with_reducible refine Below.alloc ?_ ?_ _) | (with_reducible refine Below.setCell ?_ ?_ _) | (with_reducible refine below_step ?_ (by assumption) ?_) | go_size))⟩))
set_option maxHeartbeats 1000000 in
theorem right_in1 {w : World} {A : Option Addr} {B n c : Nat} {room last : Int} {cs : List Chg} (h : LRow w B A n cs) (hB : B ≤ w.heap.size) (hp : preL room last cs.length) (hm : room ≤ last) :
    Calls Try.prog 10 #[.agg #[.int .i64 room, .int .i64 last, .slice A n c]] w fun e w' => e = .returned (.bool (rightL room last cs)) ∧ Below w.heap.size w w' := by
  have e1 := h.1
  subst e1
  obtain ⟨q1, q2, q3, q4, q5, q6⟩ := id hp
  have HP := hide hp
  have HR := hide h
  clear hp h
  have g1 : decide (room < 1) = false := decide_eq_false (by omega)
  have g2 : decide (64 < room) = false := decide_eq_false (by omega)
  have g3 : decide (last < 0) = false := decide_eq_false (by omega)
  have g4 : decide (2147483647 < last) = false := decide_eq_false (by omega)
  have g5 : decide (min room last < cs.length) = false := decide_eq_false (by omega)
  go_enter Try.func10, Try.ntmps10
  go_wp2
  go_step3
  go_wp2_with (first | (go_at_call 21; refine (kept_any _ _ _ _ _ _).mono ?_; rintro e w1 ⟨rfl, hb⟩; obtain ⟨hS, hE, hz, hc, hf⟩ := bcell hb; (try simp only [go_sem] at hE); subst hE) | (refine wp_region_quiet_below (by kernel_rfl) (by kernel_rfl) ?_; (repeat (first | go_big_quiet_step ((first | (go_at_call 21; exact Calls.regrown_of (kept_any _ _ _ _ _ _)))) | quiet_step ((first | (go_at_call 21; exact Calls.regrown_of (kept_any _ _ _ _ _ _)))))); refine wpQuiet_nil ?_; intro w1 hw1; have hb := below_of_regrown hw1; clear hw1; obtain ⟨hS, hE, hz, hc, hf⟩ := bcell hb; (try simp only [go_sem] at hE); subst hE))
  go_step3
  go_wp2
  have hw1 : Below w.heap.size w w1 := (by repeat' (first | (with_reducible exact Below.refl _ _) | (with_reducible refine below_drewN ?_ _) | (with_reducible refine Below.drew ?_) | (with_reducible refine Below.alloc ?_ ?_ _) | (with_reducible refine Below.setCell ?_ ?_ _) | (with_reducible refine below_step ?_ (by assumption) ?_) | go_size))
  go_loopw [3, 37] (fun r i wr => ∃ k : Nat, k ≤ cs.length ∧ r = .bool true ∧ i = .int .i64 k ∧ allTo last cs k = true ∧ Below (w.heap.size + 1) w1 wr) (fun _ i _ => cs.length - (intOf i).toNat)
  case atStart => exact ⟨0, Nat.zero_le _, rfl, rfl, rfl, Below.refl _ _⟩
  case round =>
    obtain ⟨k, hk, rfl, rfl, hall, hbw⟩ := hrel
    have hz2 : w.heap.size + 1 ≤ wr.heap.size := by have := hbw.size; omega
    have ca : ∀ j, wr.cell? ⟨w.heap.size, j, none⟩ = w1.cell? ⟨w.heap.size, j, none⟩ := fun j => hbw.cell (p := ⟨w.heap.size, j, none⟩) (by dsimp only; omega)
    have cb : ∀ j, w1.cell? ⟨w.heap.size, j, none⟩ = (w.alloc (.cells #[.int .i64 room, .int .i64 last, .slice A cs.length c] 24)).cell? ⟨w.heap.size, j, none⟩ := fun j => hc _ _ (by unfold ltA; omega)
    have c0 : wr.cell? ⟨w.heap.size, 0, none⟩ = some (.int .i64 room) := by rw [ca, cb, World.cell?_alloc_new]; rfl
    have c1 : wr.cell? ⟨w.heap.size, 1, none⟩ = some (.int .i64 last) := by rw [ca, cb, World.cell?_alloc_new]; rfl
    have c2 : wr.cell? ⟨w.heap.size, 2, none⟩ = some (.slice A cs.length c) := by rw [ca, cb, World.cell?_alloc_new]; rfl
    have hw0 : Below w.heap.size w wr := hw1.trans (hbw.mono (by omega))
    clear ca cb
    have HALL := hide hall
    clear hall
    by_cases hlt : k < cs.length
    · obtain ⟨b, off, rfl, hbB, hcell⟩ := lrow_cells HR.out (by omega)
      obtain ⟨e0, e1, e2⟩ := hcell k hlt
      have d0 := (hw0.cell (p := ⟨b, off + k * 3, none⟩) (by dsimp only; omega)).trans e0
      have d1 := (hw0.cell (p := ⟨b, off + k * 3 + 1, none⟩) (by dsimp only; omega)).trans e1
      have d2 := (hw0.cell (p := ⟨b, off + k * 3 + 2, none⟩) (by dsimp only; omega)).trans e2
      have HK : Hid (okC last cs k = (decide ((cs.getD k (0, 0, 0)).1 = last - cs.length + 1 + k) && mayB (cs.getD k (0, 0, 0)).2.1 (cs.getD k (0, 0, 0)).2.2)) := hide rfl
      have HA := hide (allTo_succ last cs k)
      have HN := hide (fun h => allTo_no (last := last) (cs := cs) (k := k) h hlt)
      clear hcell e0 e1 e2
      generalize cs.getD k (0, 0, 0) = ch at *
      obtain ⟨v, a, n⟩ := ch
      dsimp only at *
      by_cases hv : v = last - cs.length + 1 + k
      · have gv : (v != last - ↑cs.length + 1 + ↑k) = false := by simpa using hv
        have hv1 := hide hv
        clear hv
        by_cases hmay : mayB a n = true
        · have HY := hide (show allTo last cs (k + 1) = true by rw [HA.out, HALL.out, HK.out, hv1.out, hmay]; simp)
          go_wp2_with (first | (go_at_call 23; refine (oldest_any _ _ _ _ _ _ q3 q4 (by omega)).mono ?_; rintro e w1 ⟨rfl, hb⟩; obtain ⟨hS, hE, hz, hc, hf⟩ := bcell hb; (try simp only [go_sem] at hE); subst hE) | (go_at_call 20; refine (may_any _ _ _).mono ?_; rintro e w1 ⟨rfl, rfl⟩) | (refine wp_region_quiet_below (by kernel_rfl) (by kernel_rfl) ?_; (repeat (first | go_big_quiet_step ((first | (go_at_call 23; exact Calls.regrown_of (oldest_any _ _ _ _ _ _ q3 q4 (by omega))) | (go_at_call 20; exact Calls.regrown_of (below_of_same (may_any _ _ _))))) | quiet_step ((first | (go_at_call 23; exact Calls.regrown_of (oldest_any _ _ _ _ _ _ q3 q4 (by omega))) | (go_at_call 20; exact Calls.regrown_of (below_of_same (may_any _ _ _))))))); refine wpQuiet_nil ?_; intro w1 hw1; have hb := below_of_regrown hw1; clear hw1; obtain ⟨hS, hE, hz, hc, hf⟩ := bcell hb; (try simp only [go_sem] at hE); subst hE))
          refine ⟨⟨k + 1, by omega, rfl, by go_num, HY.out, (hbw.alloc (by omega) _).trans (hb.mono (by simp; omega))⟩, by simp [intOf]; omega⟩
        · rw [Bool.not_eq_true] at hmay
          have HNO := hide (HN.out (by rw [HK.out, hmay]; simp))
          go_wp2_with (first | (go_at_call 23; refine (oldest_any _ _ _ _ _ _ q3 q4 (by omega)).mono ?_; rintro e w1 ⟨rfl, hb⟩; obtain ⟨hS, hE, hz, hc, hf⟩ := bcell hb; (try simp only [go_sem] at hE); subst hE) | (go_at_call 20; refine (may_any _ _ _).mono ?_; rintro e w1 ⟨rfl, rfl⟩) | (refine wp_region_quiet_below (by kernel_rfl) (by kernel_rfl) ?_; (repeat (first | go_big_quiet_step ((first | (go_at_call 23; exact Calls.regrown_of (oldest_any _ _ _ _ _ _ q3 q4 (by omega))) | (go_at_call 20; exact Calls.regrown_of (below_of_same (may_any _ _ _))))) | quiet_step ((first | (go_at_call 23; exact Calls.regrown_of (oldest_any _ _ _ _ _ _ q3 q4 (by omega))) | (go_at_call 20; exact Calls.regrown_of (below_of_same (may_any _ _ _))))))); refine wpQuiet_nil ?_; intro w1 hw1; have hb := below_of_regrown hw1; clear hw1; obtain ⟨hS, hE, hz, hc, hf⟩ := bcell hb; (try simp only [go_sem] at hE); subst hE))
          (try rw [Exit.noGoto_ret])
          go_ret
          exact ⟨ret_bool (right_bad HNO.out).symm, (hw0.alloc (by omega) _).trans (hb.mono (by simp; omega))⟩
      · have gv : (v != last - ↑cs.length + 1 + ↑k) = true := by simpa using hv
        have HNO := hide (HN.out (by rw [HK.out, decide_eq_false hv]; rfl))
        clear hv
        go_wp2_with (first | (go_at_call 23; refine (oldest_any _ _ _ _ _ _ q3 q4 (by omega)).mono ?_; rintro e w1 ⟨rfl, hb⟩; obtain ⟨hS, hE, hz, hc, hf⟩ := bcell hb; (try simp only [go_sem] at hE); subst hE) | (go_at_call 20; refine (may_any _ _ _).mono ?_; rintro e w1 ⟨rfl, rfl⟩) | (refine wp_region_quiet_below (by kernel_rfl) (by kernel_rfl) ?_; (repeat (first | go_big_quiet_step ((first | (go_at_call 23; exact Calls.regrown_of (oldest_any _ _ _ _ _ _ q3 q4 (by omega))) | (go_at_call 20; exact Calls.regrown_of (below_of_same (may_any _ _ _))))) | quiet_step ((first | (go_at_call 23; exact Calls.regrown_of (oldest_any _ _ _ _ _ _ q3 q4 (by omega))) | (go_at_call 20; exact Calls.regrown_of (below_of_same (may_any _ _ _))))))); refine wpQuiet_nil ?_; intro w1 hw1; have hb := below_of_regrown hw1; clear hw1; obtain ⟨hS, hE, hz, hc, hf⟩ := bcell hb; (try simp only [go_sem] at hE); subst hE))
        (try rw [Exit.noGoto_ret])
        go_ret
        exact ⟨ret_bool (right_bad HNO.out).symm, (hw0.alloc (by omega) _).trans (hb.mono (by simp; omega))⟩
    · obtain rfl : k = cs.length := by omega
      go_wp2
      (try rw [Exit.noGoto_ret])
      go_ret
      exact ⟨ret_bool (right_yes HP.out HALL.out).symm, hw0⟩
set_option maxHeartbeats 1000000 in
theorem right_in2 {w : World} {A : Option Addr} {B n c : Nat} {room last : Int} {cs : List Chg} (h : LRow w B A n cs) (hB : B ≤ w.heap.size) (hp : preL room last cs.length) (hm : last < room) :
    Calls Try.prog 10 #[.agg #[.int .i64 room, .int .i64 last, .slice A n c]] w fun e w' => e = .returned (.bool (rightL room last cs)) ∧ Below w.heap.size w w' := by
  have e1 := h.1
  subst e1
  obtain ⟨q1, q2, q3, q4, q5, q6⟩ := id hp
  have HP := hide hp
  have HR := hide h
  clear hp h
  have g1 : decide (room < 1) = false := decide_eq_false (by omega)
  have g2 : decide (64 < room) = false := decide_eq_false (by omega)
  have g3 : decide (last < 0) = false := decide_eq_false (by omega)
  have g4 : decide (2147483647 < last) = false := decide_eq_false (by omega)
  have g5 : decide (min room last < cs.length) = false := decide_eq_false (by omega)
  go_enter Try.func10, Try.ntmps10
  go_wp2
  go_step3
  go_wp2_with (first | (go_at_call 21; refine (kept_any _ _ _ _ _ _).mono ?_; rintro e w1 ⟨rfl, hb⟩; obtain ⟨hS, hE, hz, hc, hf⟩ := bcell hb; (try simp only [go_sem] at hE); subst hE) | (refine wp_region_quiet_below (by kernel_rfl) (by kernel_rfl) ?_; (repeat (first | go_big_quiet_step ((first | (go_at_call 21; exact Calls.regrown_of (kept_any _ _ _ _ _ _)))) | quiet_step ((first | (go_at_call 21; exact Calls.regrown_of (kept_any _ _ _ _ _ _)))))); refine wpQuiet_nil ?_; intro w1 hw1; have hb := below_of_regrown hw1; clear hw1; obtain ⟨hS, hE, hz, hc, hf⟩ := bcell hb; (try simp only [go_sem] at hE); subst hE))
  go_step3
  go_wp2
  have hw1 : Below w.heap.size w w1 := (by repeat' (first | (with_reducible exact Below.refl _ _) | (with_reducible refine below_drewN ?_ _) | (with_reducible refine Below.drew ?_) | (with_reducible refine Below.alloc ?_ ?_ _) | (with_reducible refine Below.setCell ?_ ?_ _) | (with_reducible refine below_step ?_ (by assumption) ?_) | go_size))
  go_loopw [3, 37] (fun r i wr => ∃ k : Nat, k ≤ cs.length ∧ r = .bool true ∧ i = .int .i64 k ∧ allTo last cs k = true ∧ Below (w.heap.size + 1) w1 wr) (fun _ i _ => cs.length - (intOf i).toNat)
  case atStart => exact ⟨0, Nat.zero_le _, rfl, rfl, rfl, Below.refl _ _⟩
  case round =>
    obtain ⟨k, hk, rfl, rfl, hall, hbw⟩ := hrel
    have hz2 : w.heap.size + 1 ≤ wr.heap.size := by have := hbw.size; omega
    have ca : ∀ j, wr.cell? ⟨w.heap.size, j, none⟩ = w1.cell? ⟨w.heap.size, j, none⟩ := fun j => hbw.cell (p := ⟨w.heap.size, j, none⟩) (by dsimp only; omega)
    have cb : ∀ j, w1.cell? ⟨w.heap.size, j, none⟩ = (w.alloc (.cells #[.int .i64 room, .int .i64 last, .slice A cs.length c] 24)).cell? ⟨w.heap.size, j, none⟩ := fun j => hc _ _ (by unfold ltA; omega)
    have c0 : wr.cell? ⟨w.heap.size, 0, none⟩ = some (.int .i64 room) := by rw [ca, cb, World.cell?_alloc_new]; rfl
    have c1 : wr.cell? ⟨w.heap.size, 1, none⟩ = some (.int .i64 last) := by rw [ca, cb, World.cell?_alloc_new]; rfl
    have c2 : wr.cell? ⟨w.heap.size, 2, none⟩ = some (.slice A cs.length c) := by rw [ca, cb, World.cell?_alloc_new]; rfl
    have hw0 : Below w.heap.size w wr := hw1.trans (hbw.mono (by omega))
    clear ca cb
    have HALL := hide hall
    clear hall
    by_cases hlt : k < cs.length
    · obtain ⟨b, off, rfl, hbB, hcell⟩ := lrow_cells HR.out (by omega)
      obtain ⟨e0, e1, e2⟩ := hcell k hlt
      have d0 := (hw0.cell (p := ⟨b, off + k * 3, none⟩) (by dsimp only; omega)).trans e0
      have d1 := (hw0.cell (p := ⟨b, off + k * 3 + 1, none⟩) (by dsimp only; omega)).trans e1
      have d2 := (hw0.cell (p := ⟨b, off + k * 3 + 2, none⟩) (by dsimp only; omega)).trans e2
      have HK : Hid (okC last cs k = (decide ((cs.getD k (0, 0, 0)).1 = last - cs.length + 1 + k) && mayB (cs.getD k (0, 0, 0)).2.1 (cs.getD k (0, 0, 0)).2.2)) := hide rfl
      have HA := hide (allTo_succ last cs k)
      have HN := hide (fun h => allTo_no (last := last) (cs := cs) (k := k) h hlt)
      clear hcell e0 e1 e2
      generalize cs.getD k (0, 0, 0) = ch at *
      obtain ⟨v, a, n⟩ := ch
      dsimp only at *
      by_cases hv : v = last - cs.length + 1 + k
      · have gv : (v != last - ↑cs.length + 1 + ↑k) = false := by simpa using hv
        have hv1 := hide hv
        clear hv
        by_cases hmay : mayB a n = true
        · have HY := hide (show allTo last cs (k + 1) = true by rw [HA.out, HALL.out, HK.out, hv1.out, hmay]; simp)
          go_wp2_with (first | (go_at_call 23; refine (oldest_any _ _ _ _ _ _ q3 q4 (by omega)).mono ?_; rintro e w1 ⟨rfl, hb⟩; obtain ⟨hS, hE, hz, hc, hf⟩ := bcell hb; (try simp only [go_sem] at hE); subst hE) | (go_at_call 20; refine (may_any _ _ _).mono ?_; rintro e w1 ⟨rfl, rfl⟩) | (refine wp_region_quiet_below (by kernel_rfl) (by kernel_rfl) ?_; (repeat (first | go_big_quiet_step ((first | (go_at_call 23; exact Calls.regrown_of (oldest_any _ _ _ _ _ _ q3 q4 (by omega))) | (go_at_call 20; exact Calls.regrown_of (below_of_same (may_any _ _ _))))) | quiet_step ((first | (go_at_call 23; exact Calls.regrown_of (oldest_any _ _ _ _ _ _ q3 q4 (by omega))) | (go_at_call 20; exact Calls.regrown_of (below_of_same (may_any _ _ _))))))); refine wpQuiet_nil ?_; intro w1 hw1; have hb := below_of_regrown hw1; clear hw1; obtain ⟨hS, hE, hz, hc, hf⟩ := bcell hb; (try simp only [go_sem] at hE); subst hE))
          refine ⟨⟨k + 1, by omega, rfl, by go_num, HY.out, (hbw.alloc (by omega) _).trans (hb.mono (by simp; omega))⟩, by simp [intOf]; omega⟩
        · rw [Bool.not_eq_true] at hmay
          have HNO := hide (HN.out (by rw [HK.out, hmay]; simp))
          go_wp2_with (first | (go_at_call 23; refine (oldest_any _ _ _ _ _ _ q3 q4 (by omega)).mono ?_; rintro e w1 ⟨rfl, hb⟩; obtain ⟨hS, hE, hz, hc, hf⟩ := bcell hb; (try simp only [go_sem] at hE); subst hE) | (go_at_call 20; refine (may_any _ _ _).mono ?_; rintro e w1 ⟨rfl, rfl⟩) | (refine wp_region_quiet_below (by kernel_rfl) (by kernel_rfl) ?_; (repeat (first | go_big_quiet_step ((first | (go_at_call 23; exact Calls.regrown_of (oldest_any _ _ _ _ _ _ q3 q4 (by omega))) | (go_at_call 20; exact Calls.regrown_of (below_of_same (may_any _ _ _))))) | quiet_step ((first | (go_at_call 23; exact Calls.regrown_of (oldest_any _ _ _ _ _ _ q3 q4 (by omega))) | (go_at_call 20; exact Calls.regrown_of (below_of_same (may_any _ _ _))))))); refine wpQuiet_nil ?_; intro w1 hw1; have hb := below_of_regrown hw1; clear hw1; obtain ⟨hS, hE, hz, hc, hf⟩ := bcell hb; (try simp only [go_sem] at hE); subst hE))
          (try rw [Exit.noGoto_ret])
          go_ret
          exact ⟨ret_bool (right_bad HNO.out).symm, (hw0.alloc (by omega) _).trans (hb.mono (by simp; omega))⟩
      · have gv : (v != last - ↑cs.length + 1 + ↑k) = true := by simpa using hv
        have HNO := hide (HN.out (by rw [HK.out, decide_eq_false hv]; rfl))
        clear hv
        go_wp2_with (first | (go_at_call 23; refine (oldest_any _ _ _ _ _ _ q3 q4 (by omega)).mono ?_; rintro e w1 ⟨rfl, hb⟩; obtain ⟨hS, hE, hz, hc, hf⟩ := bcell hb; (try simp only [go_sem] at hE); subst hE) | (go_at_call 20; refine (may_any _ _ _).mono ?_; rintro e w1 ⟨rfl, rfl⟩) | (refine wp_region_quiet_below (by kernel_rfl) (by kernel_rfl) ?_; (repeat (first | go_big_quiet_step ((first | (go_at_call 23; exact Calls.regrown_of (oldest_any _ _ _ _ _ _ q3 q4 (by omega))) | (go_at_call 20; exact Calls.regrown_of (below_of_same (may_any _ _ _))))) | quiet_step ((first | (go_at_call 23; exact Calls.regrown_of (oldest_any _ _ _ _ _ _ q3 q4 (by omega))) | (go_at_call 20; exact Calls.regrown_of (below_of_same (may_any _ _ _))))))); refine wpQuiet_nil ?_; intro w1 hw1; have hb := below_of_regrown hw1; clear hw1; obtain ⟨hS, hE, hz, hc, hf⟩ := bcell hb; (try simp only [go_sem] at hE); subst hE))
        (try rw [Exit.noGoto_ret])
        go_ret
        exact ⟨ret_bool (right_bad HNO.out).symm, (hw0.alloc (by omega) _).trans (hb.mono (by simp; omega))⟩
    · obtain rfl : k = cs.length := by omega
      go_wp2
      (try rw [Exit.noGoto_ret])
      go_ret
      exact ⟨ret_bool (right_yes HP.out HALL.out).symm, hw0⟩
theorem right_any {w : World} {A : Option Addr} {B n c : Nat} {room last : Int} {cs : List Chg} (h : LRow w B A n cs) (hB : B ≤ w.heap.size) (hn : n ≤ 140737488351232) :
    Calls Try.prog 10 #[.agg #[.int .i64 room, .int .i64 last, .slice A n c]] w fun e w' => e = .returned (.bool (rightL room last cs)) ∧ Below w.heap.size w w' := by
  by_cases hp : preL room last cs.length
  · by_cases hm : last < room
    · exact right_in2 h hB hp hm
    · exact right_in1 h hB hp (by omega)
  · rw [right_no hp]
    exact right_out hn (by rw [← h.1]; exact hp)
end Go.Proofs.Ytngdlgmehefocaa.Log
