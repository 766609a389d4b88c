/- Which logs are right, by the document; whether two lists of changes are the same. No condition. -/
import Derived.Test.YtngdlgmehefocaaLogA
namespace Go.Proofs.Ytngdlgmehefocaa.Log
open Go.ChangeShapes Go.WideShapes Go.ChangeAt Go.RowKit Go.Proofs.Ytngdlgmehefocaa.Kit Go.Proofs.Ytngdlgmehefocaa.Mem Go.Deep
set_option linter.unusedVariables false
theorem rpre_split {room last : Int} {n : Nat} (h : ¬ preL room last n) : room < 1 ∨ (1 ≤ room ∧ 64 < room) ∨ (1 ≤ room ∧ room ≤ 64 ∧ last < 0) ∨ (1 ≤ room ∧ room ≤ 64 ∧ 0 ≤ last ∧ 2147483647 < last) ∨ (1 ≤ room ∧ room ≤ 64 ∧ 0 ≤ last ∧ last ≤ 2147483647 ∧ room < n) ∨ (1 ≤ room ∧ room ≤ 64 ∧ 0 ≤ last ∧ last ≤ 2147483647 ∧ n ≤ room ∧ last < n) := by
  unfold preL at h
  omega
set_option maxHeartbeats 1000000 in
theorem rright_out {w : World} {A : Option Addr} {n c : Nat} {room last : Int} (hn : n ≤ 140737488351232) (h : ¬ preL room last n) :
    Calls Try.prog 11 #[.agg #[.int .i64 room, .int .i64 last, .slice A n c]] w fun e w' => e = .returned (.bool false) ∧ Below w.heap.size w w' := by
  rcases rpre_split h with h | ⟨h, h2⟩ | ⟨h, h2, h3⟩ | ⟨h, h2, h3, h4⟩ | ⟨h, h2, h3, h4, h5⟩ | ⟨h, h2, h3, h4, h5, h6⟩
  all_goals
    go_enter Try.func11, Try.ntmps11
    go_wp2
    go_ret
    exact ⟨rfl, (by repeat' (first | (with_reducible exact Below.refl _ _) | (with_reducible refine below_drewN ?_ _) | (with_reducible refine Below.drew ?_) | (with_reducible refine Below.alloc ?_ ?_ _) | (with_reducible refine Below.setCell ?_ ?_ _) | (with_reducible refine below_step ?_ (by assumption) ?_) | go_size))⟩
set_option maxHeartbeats 1000000 in
theorem rright_in {w : World} {A : Option Addr} {B n c : Nat} {room last : Int} {cs : List Chg} (h : LRow w B A n cs) (hB : B ≤ w.heap.size) (hp : preL room last cs.length) :
    Calls Try.prog 11 #[.agg #[.int .i64 room, .int .i64 last, .slice A n c]] w fun e w' => e = .returned (.bool (rightL room last cs)) ∧ Below w.heap.size w w' := by
  have e1 := h.1
  subst e1
  obtain ⟨q1, q2, q3, q4, q5, q6⟩ := id hp
  have HP := hide hp
  have HR := hide h
  clear hp h
  go_enter Try.func11, Try.ntmps11
  go_wp2
  go_loopw [3] (fun i wr => ∃ k : Nat, k ≤ cs.length ∧ i = .int .i64 k ∧ allTo last cs k = true ∧ Below (w.heap.size + 1) (w.alloc (.cells #[.int .i64 room, .int .i64 last, .slice A cs.length c] 24)) wr) (fun i _ => cs.length - (intOf i).toNat)
  case atStart => exact ⟨0, Nat.zero_le _, rfl, rfl, Below.refl _ _⟩
  case round =>
    obtain ⟨k, hk, rfl, hall, hbw⟩ := hrel
    have hz2 : w.heap.size + 1 ≤ wr.heap.size := by have := hbw.size; simpa using this
    have ca : ∀ j, wr.cell? ⟨w.heap.size, j, none⟩ = (w.alloc (.cells #[.int .i64 room, .int .i64 last, .slice A cs.length c] 24)).cell? ⟨w.heap.size, j, none⟩ := fun j => hbw.cell (p := ⟨w.heap.size, j, none⟩) (by dsimp only; omega)
    have c0 : wr.cell? ⟨w.heap.size, 0, none⟩ = some (.int .i64 room) := by rw [ca, World.cell?_alloc_new]; rfl
    have c1 : wr.cell? ⟨w.heap.size, 1, none⟩ = some (.int .i64 last) := by rw [ca, World.cell?_alloc_new]; rfl
    have c2 : wr.cell? ⟨w.heap.size, 2, none⟩ = some (.slice A cs.length c) := by rw [ca, World.cell?_alloc_new]; rfl
    have hw0 : Below w.heap.size w wr := ((Below.refl _ _).alloc (Nat.le_refl _) _).trans (hbw.mono (by omega))
    clear ca
    have HALL := hide hall
    clear hall
    by_cases hlt : k < cs.length
    · obtain ⟨b, off, rfl, hbB, hcell⟩ := lrow_cells HR.out (by omega)
      obtain ⟨e0, e1, e2⟩ := hcell k hlt
      have d0 := (hw0.cell (p := ⟨b, off + k * 3, none⟩) (by dsimp only; omega)).trans e0
      have d1 := (hw0.cell (p := ⟨b, off + k * 3 + 1, none⟩) (by dsimp only; omega)).trans e1
      have d2 := (hw0.cell (p := ⟨b, off + k * 3 + 2, none⟩) (by dsimp only; omega)).trans e2
      have HK : Hid (okC last cs k = (decide ((cs.getD k (0, 0, 0)).1 = last - cs.length + 1 + k) && mayB (cs.getD k (0, 0, 0)).2.1 (cs.getD k (0, 0, 0)).2.2)) := hide rfl
      have HA := hide (allTo_succ last cs k)
      have HN := hide (fun h => allTo_no (last := last) (cs := cs) (k := k) h hlt)
      clear hcell e0 e1 e2
      generalize cs.getD k (0, 0, 0) = ch at *
      obtain ⟨v, a, n⟩ := ch
      dsimp only at *
      by_cases hv : v = last - cs.length + 1 + k
      · have gv : (v != last - ↑cs.length + 1 + ↑k) = false := by simpa using hv
        have hv1 := hide hv
        clear hv
        by_cases hmay : mayB a n = true
        · have HY := hide (show allTo last cs (k + 1) = true by rw [HA.out, HALL.out, HK.out, hv1.out, hmay]; simp)
          go_wp2_with (first | (go_at_call 22; refine (rmay_any _ _ _).mono ?_; rintro e w1 ⟨rfl, rfl⟩) | (refine wp_region_quiet_below (by kernel_rfl) (by kernel_rfl) ?_; (repeat (first | go_big_quiet_step ((first | (go_at_call 22; exact Calls.regrown_of (below_of_same (rmay_any _ _ _))))) | quiet_step ((first | (go_at_call 22; exact Calls.regrown_of (below_of_same (rmay_any _ _ _))))))); refine wpQuiet_nil ?_; intro w1 hw1; have hb := below_of_regrown hw1; clear hw1; obtain ⟨hS, hE, hz, hc, hf⟩ := bcell hb; (try simp only [go_sem] at hE); subst hE))
          refine ⟨⟨k + 1, by omega, by go_num, HY.out, hbw.alloc (by omega) _⟩, by simp [intOf]; omega⟩
        · rw [Bool.not_eq_true] at hmay
          have HNO := hide (HN.out (by rw [HK.out, hmay]; simp))
          go_wp2_with (first | (go_at_call 22; refine (rmay_any _ _ _).mono ?_; rintro e w1 ⟨rfl, rfl⟩) | (refine wp_region_quiet_below (by kernel_rfl) (by kernel_rfl) ?_; (repeat (first | go_big_quiet_step ((first | (go_at_call 22; exact Calls.regrown_of (below_of_same (rmay_any _ _ _))))) | quiet_step ((first | (go_at_call 22; exact Calls.regrown_of (below_of_same (rmay_any _ _ _))))))); refine wpQuiet_nil ?_; intro w1 hw1; have hb := below_of_regrown hw1; clear hw1; obtain ⟨hS, hE, hz, hc, hf⟩ := bcell hb; (try simp only [go_sem] at hE); subst hE))
          go_ret
          exact ⟨ret_bool (right_bad HNO.out).symm, hw0.alloc (by omega) _⟩
      · have gv : (v != last - ↑cs.length + 1 + ↑k) = true := by simpa using hv
        have HNO := hide (HN.out (by rw [HK.out, decide_eq_false hv]; rfl))
        clear hv
        go_wp2_with (first | (go_at_call 22; refine (rmay_any _ _ _).mono ?_; rintro e w1 ⟨rfl, rfl⟩) | (refine wp_region_quiet_below (by kernel_rfl) (by kernel_rfl) ?_; (repeat (first | go_big_quiet_step ((first | (go_at_call 22; exact Calls.regrown_of (below_of_same (rmay_any _ _ _))))) | quiet_step ((first | (go_at_call 22; exact Calls.regrown_of (below_of_same (rmay_any _ _ _))))))); refine wpQuiet_nil ?_; intro w1 hw1; have hb := below_of_regrown hw1; clear hw1; obtain ⟨hS, hE, hz, hc, hf⟩ := bcell hb; (try simp only [go_sem] at hE); subst hE))
        go_ret
        exact ⟨ret_bool (right_bad HNO.out).symm, hw0.alloc (by omega) _⟩
    · obtain rfl : k = cs.length := by omega
      go_wp2
      go_ret
      exact ⟨ret_bool (right_yes HP.out HALL.out).symm, hw0⟩
theorem rright_any {w : World} {A : Option Addr} {B n c : Nat} {room last : Int} {cs : List Chg} (h : LRow w B A n cs) (hB : B ≤ w.heap.size) (hn : n ≤ 140737488351232) :
    Calls Try.prog 11 #[.agg #[.int .i64 room, .int .i64 last, .slice A n c]] w fun e w' => e = .returned (.bool (rightL room last cs)) ∧ Below w.heap.size w w' := by
  by_cases hp : preL room last cs.length
  · exact rright_in h hB hp
  · rw [right_no hp]
    exact rright_out hn (by rw [← h.1]; exact hp)
end Go.Proofs.Ytngdlgmehefocaa.Log
