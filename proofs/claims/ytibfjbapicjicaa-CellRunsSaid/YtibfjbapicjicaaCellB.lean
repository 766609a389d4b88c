/- Contracts of the cell layer, over the first part: what each function answers, for every input. No condition. -/
import Derived.Test.YtibfjbapicjicaaCellA
namespace Go.Proofs.Ytibfjbapicjicaa.Cell
open Go.ChangeShapes Go.WideShapes Go.ChangeAt Go.RowKit Go.Proofs.Ytibfjbapicjicaa.Kit

/-- The room of a cell. -/
def roomOf (c v r : Int) : Int := if rightB c v r = true then c - v else 0
theorem rightB_iff (c v r : Int) : rightB c v r = true ↔ (1 ≤ c ∧ c ≤ 1099511627776 ∧ 0 ≤ v ∧ v ≤ c ∧ 0 ≤ r ∧ r ≤ 2147483647) := by unfold rightB; simp

set_option maxHeartbeats 400000 in
theorem room_any (c v r : Int) (w : World) : Calls Try.prog 16 #[.agg #[.int .i64 c, .int .i64 v, .int .i64 r]] w fun e w' => e = .returned (.int .i64 (roomOf c v r)) ∧ Below w.heap.size w w' := by
  by_cases h : rightB c v r = true
  · have hh := (rightB_iff c v r).1 h
    go_enter Try.func16, Try.ntmps16
    go_wp2_with (go_at_call 15; refine (right_any _ _ _ _).mono ?_; rintro e w1 ⟨rfl, hb⟩; obtain ⟨hc, hf⟩ := bcell hb; have hz := hb.size)
    go_ret
    exact ⟨ret_int (by unfold roomOf; rw [if_pos h]), (by repeat' (first | exact Below.refl _ _ | (refine below_drewN ?_ _) | (refine Below.drew ?_) | (refine Below.alloc ?_ ?_ _) | (refine Below.setCell ?_ ?_ _) | (refine below_step ?_ (by assumption) ?_) | go_size))⟩
  · have hh : rightB c v r = false := by simpa using h
    go_enter Try.func16, Try.ntmps16
    go_wp2_with (go_at_call 15; refine (right_any _ _ _ _).mono ?_; rintro e w1 ⟨rfl, hb⟩; obtain ⟨hc, hf⟩ := bcell hb; have hz := hb.size)
    go_ret
    exact ⟨ret_int (by unfold roomOf; rw [if_neg h]), (by repeat' (first | exact Below.refl _ _ | (refine below_drewN ?_ _) | (refine Below.drew ?_) | (refine Below.alloc ?_ ?_ _) | (refine Below.setCell ?_ ?_ _) | (refine below_step ?_ (by assumption) ?_) | go_size))⟩

/-- What a change makes of a cell: its three fields, and the error. -/
def chg (c v r n : Int) : Int × Int × Int × Int :=
  if rightB c v r = true then (if n = 0 then (0, 0, 0, 1) else if r = 2147483647 then (0, 0, 0, 101) else if n < -v then (0, 0, 0, 102) else if c - v < n then (0, 0, 0, 103) else (c, v + n, r + 1, 0)) else (0, 0, 0, 100)
theorem ret_cv {x y : Int × Int × Int × Int} (h : x = y) : Ending.returned (.tuple #[.agg #[.int .i64 (x).1, .int .i64 (x).2.1, .int .i64 (x).2.2.1], .int .i64 (x).2.2.2]) = .returned (.tuple #[.agg #[.int .i64 (y).1, .int .i64 (y).2.1, .int .i64 (y).2.2.1], .int .i64 (y).2.2.2]) := by rw [h]

section
variable (c v r n : Int)
theorem chg_not (h : ¬ rightB c v r = true) : chg c v r n = (0, 0, 0, 100) := by unfold chg; rw [if_neg h]
theorem chg_null (h : rightB c v r = true) (h1 : n = 0) : chg c v r n = (0, 0, 0, 1) := by unfold chg; rw [if_pos h, if_pos h1]
theorem chg_ver (h : rightB c v r = true) (h1 : ¬ n = 0) (h2 : r = 2147483647) : chg c v r n = (0, 0, 0, 101) := by unfold chg; rw [if_pos h, if_neg h1, if_pos h2]
theorem chg_under (h : rightB c v r = true) (h1 : ¬ n = 0) (h2 : ¬ r = 2147483647) (h3 : n < -v) : chg c v r n = (0, 0, 0, 102) := by unfold chg; rw [if_pos h, if_neg h1, if_neg h2, if_pos h3]
theorem chg_room (h : rightB c v r = true) (h1 : ¬ n = 0) (h2 : ¬ r = 2147483647) (h3 : ¬ n < -v) (h4 : c - v < n) : chg c v r n = (0, 0, 0, 103) := by unfold chg; rw [if_pos h, if_neg h1, if_neg h2, if_neg h3, if_pos h4]
theorem chg_ok (h : rightB c v r = true) (h1 : ¬ n = 0) (h2 : ¬ r = 2147483647) (h3 : ¬ n < -v) (h4 : ¬ c - v < n) : chg c v r n = (c, v + n, r + 1, 0) := by unfold chg; rw [if_pos h, if_neg h1, if_neg h2, if_neg h3, if_neg h4]
end

section
variable (c v r n : Int) (w : World)
set_option maxHeartbeats 1000000
theorem change_not (h : ¬ rightB c v r = true) : Calls Try.prog 7 #[.agg #[.int .i64 c, .int .i64 v, .int .i64 r], .int .i64 n] w fun e w' => e = .returned (.tuple #[.agg #[.int .i64 (chg c v r n).1, .int .i64 (chg c v r n).2.1, .int .i64 (chg c v r n).2.2.1], .int .i64 (chg c v r n).2.2.2]) ∧ Below w.heap.size w w' := by
  have hh : rightB c v r = false := by simpa using h
  (have Q := hide (chg_not c v r n h); go_enter Try.func7, Try.ntmps7; go_wp2_with (first | (go_at_call 15; refine (right_any _ _ _ _).mono ?_; rintro e w1 ⟨rfl, hb⟩; obtain ⟨hS, hE, hz, hc, hf⟩ := bcell hb; (try simp only [go_sem] at hE); subst hE) | (go_at_call 16; refine (room_any _ _ _ _).mono ?_; rintro e w1 ⟨rfl, hb⟩; obtain ⟨hS, hE, hz, hc, hf⟩ := bcell hb; (try simp only [go_sem] at hE); subst hE)); (refine bodyPost_ret (v := .tuple #[.agg #[.int .i64 (((0, 0, 0, 100) : Int × Int × Int × Int)).1, .int .i64 (((0, 0, 0, 100) : Int × Int × Int × Int)).2.1, .int .i64 (((0, 0, 0, 100) : Int × Int × Int × Int)).2.2.1], .int .i64 (((0, 0, 0, 100) : Int × Int × Int × Int)).2.2.2]) ?_ rfl ⟨?_, (by repeat' (first | (with_reducible exact Below.refl _ _) | (with_reducible refine below_drewN ?_ _) | (with_reducible refine Below.drew ?_) | (with_reducible refine Below.alloc ?_ ?_ _) | (with_reducible refine Below.setCell ?_ ?_ _) | (with_reducible refine below_step ?_ (by assumption) ?_) | go_size))⟩; (simp only [results, Try.results7]; go_simp); exact ret_cv Q.out.symm))
theorem change_null (h : rightB c v r = true) (h1 : n = 0) : Calls Try.prog 7 #[.agg #[.int .i64 c, .int .i64 v, .int .i64 r], .int .i64 n] w fun e w' => e = .returned (.tuple #[.agg #[.int .i64 (chg c v r n).1, .int .i64 (chg c v r n).2.1, .int .i64 (chg c v r n).2.2.1], .int .i64 (chg c v r n).2.2.2]) ∧ Below w.heap.size w w' := by
  have b1 : (n == 0) = true := by simp [h1]
  (have Q := hide (chg_null c v r n h h1); go_enter Try.func7, Try.ntmps7; go_wp2_with (first | (go_at_call 15; refine (right_any _ _ _ _).mono ?_; rintro e w1 ⟨rfl, hb⟩; obtain ⟨hS, hE, hz, hc, hf⟩ := bcell hb; (try simp only [go_sem] at hE); subst hE) | (go_at_call 16; refine (room_any _ _ _ _).mono ?_; rintro e w1 ⟨rfl, hb⟩; obtain ⟨hS, hE, hz, hc, hf⟩ := bcell hb; (try simp only [go_sem] at hE); subst hE)); (refine bodyPost_ret (v := .tuple #[.agg #[.int .i64 (((0, 0, 0, 1) : Int × Int × Int × Int)).1, .int .i64 (((0, 0, 0, 1) : Int × Int × Int × Int)).2.1, .int .i64 (((0, 0, 0, 1) : Int × Int × Int × Int)).2.2.1], .int .i64 (((0, 0, 0, 1) : Int × Int × Int × Int)).2.2.2]) ?_ rfl ⟨?_, (by repeat' (first | (with_reducible exact Below.refl _ _) | (with_reducible refine below_drewN ?_ _) | (with_reducible refine Below.drew ?_) | (with_reducible refine Below.alloc ?_ ?_ _) | (with_reducible refine Below.setCell ?_ ?_ _) | (with_reducible refine below_step ?_ (by assumption) ?_) | go_size))⟩; (simp only [results, Try.results7]; go_simp); exact ret_cv Q.out.symm))
theorem change_ver (h : rightB c v r = true) (h1 : ¬ n = 0) (h2 : r = 2147483647) : Calls Try.prog 7 #[.agg #[.int .i64 c, .int .i64 v, .int .i64 r], .int .i64 n] w fun e w' => e = .returned (.tuple #[.agg #[.int .i64 (chg c v r n).1, .int .i64 (chg c v r n).2.1, .int .i64 (chg c v r n).2.2.1], .int .i64 (chg c v r n).2.2.2]) ∧ Below w.heap.size w w' := by
  have b1 : (n == 0) = false := by simp [h1]
  subst h2
  have b2 : ((2147483647 : Int) == 2147483647) = true := by decide
  (have Q := hide (chg_ver c v 2147483647 n h h1 rfl); go_enter Try.func7, Try.ntmps7; go_wp2_with (first | (go_at_call 15; refine (right_any _ _ _ _).mono ?_; rintro e w1 ⟨rfl, hb⟩; obtain ⟨hS, hE, hz, hc, hf⟩ := bcell hb; (try simp only [go_sem] at hE); subst hE) | (go_at_call 16; refine (room_any _ _ _ _).mono ?_; rintro e w1 ⟨rfl, hb⟩; obtain ⟨hS, hE, hz, hc, hf⟩ := bcell hb; (try simp only [go_sem] at hE); subst hE)); (refine bodyPost_ret (v := .tuple #[.agg #[.int .i64 (((0, 0, 0, 101) : Int × Int × Int × Int)).1, .int .i64 (((0, 0, 0, 101) : Int × Int × Int × Int)).2.1, .int .i64 (((0, 0, 0, 101) : Int × Int × Int × Int)).2.2.1], .int .i64 (((0, 0, 0, 101) : Int × Int × Int × Int)).2.2.2]) ?_ rfl ⟨?_, (by repeat' (first | (with_reducible exact Below.refl _ _) | (with_reducible refine below_drewN ?_ _) | (with_reducible refine Below.drew ?_) | (with_reducible refine Below.alloc ?_ ?_ _) | (with_reducible refine Below.setCell ?_ ?_ _) | (with_reducible refine below_step ?_ (by assumption) ?_) | go_size))⟩; (simp only [results, Try.results7]; go_simp); exact ret_cv Q.out.symm))
theorem change_under (h : rightB c v r = true) (h1 : ¬ n = 0) (h2 : ¬ r = 2147483647) (h3 : n < -v) : Calls Try.prog 7 #[.agg #[.int .i64 c, .int .i64 v, .int .i64 r], .int .i64 n] w fun e w' => e = .returned (.tuple #[.agg #[.int .i64 (chg c v r n).1, .int .i64 (chg c v r n).2.1, .int .i64 (chg c v r n).2.2.1], .int .i64 (chg c v r n).2.2.2]) ∧ Below w.heap.size w w' := by
  have hh := (rightB_iff c v r).1 h
  have b1 : (n == 0) = false := by simp [h1]
  have b2 : (r == 2147483647) = false := by simp [h2]
  (have Q := hide (chg_under c v r n h h1 h2 h3); go_enter Try.func7, Try.ntmps7; go_wp2_with (first | (go_at_call 15; refine (right_any _ _ _ _).mono ?_; rintro e w1 ⟨rfl, hb⟩; obtain ⟨hS, hE, hz, hc, hf⟩ := bcell hb; (try simp only [go_sem] at hE); subst hE) | (go_at_call 16; refine (room_any _ _ _ _).mono ?_; rintro e w1 ⟨rfl, hb⟩; obtain ⟨hS, hE, hz, hc, hf⟩ := bcell hb; (try simp only [go_sem] at hE); subst hE)); (refine bodyPost_ret (v := .tuple #[.agg #[.int .i64 (((0, 0, 0, 102) : Int × Int × Int × Int)).1, .int .i64 (((0, 0, 0, 102) : Int × Int × Int × Int)).2.1, .int .i64 (((0, 0, 0, 102) : Int × Int × Int × Int)).2.2.1], .int .i64 (((0, 0, 0, 102) : Int × Int × Int × Int)).2.2.2]) ?_ rfl ⟨?_, (by repeat' (first | (with_reducible exact Below.refl _ _) | (with_reducible refine below_drewN ?_ _) | (with_reducible refine Below.drew ?_) | (with_reducible refine Below.alloc ?_ ?_ _) | (with_reducible refine Below.setCell ?_ ?_ _) | (with_reducible refine below_step ?_ (by assumption) ?_) | go_size))⟩; (simp only [results, Try.results7]; go_simp); exact ret_cv Q.out.symm))
theorem change_room (h : rightB c v r = true) (h1 : ¬ n = 0) (h2 : ¬ r = 2147483647) (h3 : ¬ n < -v) (h4 : c - v < n) : Calls Try.prog 7 #[.agg #[.int .i64 c, .int .i64 v, .int .i64 r], .int .i64 n] w fun e w' => e = .returned (.tuple #[.agg #[.int .i64 (chg c v r n).1, .int .i64 (chg c v r n).2.1, .int .i64 (chg c v r n).2.2.1], .int .i64 (chg c v r n).2.2.2]) ∧ Below w.heap.size w w' := by
  have hh := (rightB_iff c v r).1 h
  have hm : roomOf c v r = c - v := by unfold roomOf; rw [if_pos h]
  have b1 : (n == 0) = false := by simp [h1]
  have b2 : (r == 2147483647) = false := by simp [h2]
  (have Q := hide (chg_room c v r n h h1 h2 h3 h4); go_enter Try.func7, Try.ntmps7; go_wp2_with (first | (go_at_call 15; refine (right_any _ _ _ _).mono ?_; rintro e w1 ⟨rfl, hb⟩; obtain ⟨hS, hE, hz, hc, hf⟩ := bcell hb; (try simp only [go_sem] at hE); subst hE) | (go_at_call 16; refine (room_any _ _ _ _).mono ?_; rintro e w1 ⟨rfl, hb⟩; obtain ⟨hS, hE, hz, hc, hf⟩ := bcell hb; (try simp only [go_sem] at hE); subst hE)); (refine bodyPost_ret (v := .tuple #[.agg #[.int .i64 (((0, 0, 0, 103) : Int × Int × Int × Int)).1, .int .i64 (((0, 0, 0, 103) : Int × Int × Int × Int)).2.1, .int .i64 (((0, 0, 0, 103) : Int × Int × Int × Int)).2.2.1], .int .i64 (((0, 0, 0, 103) : Int × Int × Int × Int)).2.2.2]) ?_ rfl ⟨?_, (by repeat' (first | (with_reducible exact Below.refl _ _) | (with_reducible refine below_drewN ?_ _) | (with_reducible refine Below.drew ?_) | (with_reducible refine Below.alloc ?_ ?_ _) | (with_reducible refine Below.setCell ?_ ?_ _) | (with_reducible refine below_step ?_ (by assumption) ?_) | go_size))⟩; (simp only [results, Try.results7]; go_simp); exact ret_cv Q.out.symm))
theorem change_ok (h : rightB c v r = true) (h1 : ¬ n = 0) (h2 : ¬ r = 2147483647) (h3 : ¬ n < -v) (h4 : ¬ c - v < n) : Calls Try.prog 7 #[.agg #[.int .i64 c, .int .i64 v, .int .i64 r], .int .i64 n] w fun e w' => e = .returned (.tuple #[.agg #[.int .i64 (chg c v r n).1, .int .i64 (chg c v r n).2.1, .int .i64 (chg c v r n).2.2.1], .int .i64 (chg c v r n).2.2.2]) ∧ Below w.heap.size w w' := by
  have hh := (rightB_iff c v r).1 h
  have hm : roomOf c v r = c - v := by unfold roomOf; rw [if_pos h]
  have b1 : (n == 0) = false := by simp [h1]
  have b2 : (r == 2147483647) = false := by simp [h2]
  (have Q := hide (chg_ok c v r n h h1 h2 h3 h4); go_enter Try.func7, Try.ntmps7; go_wp2_with (first | (go_at_call 15; refine (right_any _ _ _ _).mono ?_; rintro e w1 ⟨rfl, hb⟩; obtain ⟨hS, hE, hz, hc, hf⟩ := bcell hb; (try simp only [go_sem] at hE); subst hE) | (go_at_call 16; refine (room_any _ _ _ _).mono ?_; rintro e w1 ⟨rfl, hb⟩; obtain ⟨hS, hE, hz, hc, hf⟩ := bcell hb; (try simp only [go_sem] at hE); subst hE)); (refine bodyPost_ret (v := .tuple #[.agg #[.int .i64 (((c, v + n, r + 1, 0) : Int × Int × Int × Int)).1, .int .i64 (((c, v + n, r + 1, 0) : Int × Int × Int × Int)).2.1, .int .i64 (((c, v + n, r + 1, 0) : Int × Int × Int × Int)).2.2.1], .int .i64 (((c, v + n, r + 1, 0) : Int × Int × Int × Int)).2.2.2]) ?_ rfl ⟨?_, (by repeat' (first | (with_reducible exact Below.refl _ _) | (with_reducible refine below_drewN ?_ _) | (with_reducible refine Below.drew ?_) | (with_reducible refine Below.alloc ?_ ?_ _) | (with_reducible refine Below.setCell ?_ ?_ _) | (with_reducible refine below_step ?_ (by assumption) ?_) | go_size))⟩; (simp only [results, Try.results7]; go_simp); exact ret_cv Q.out.symm))
theorem change_any : Calls Try.prog 7 #[.agg #[.int .i64 c, .int .i64 v, .int .i64 r], .int .i64 n] w fun e w' => e = .returned (.tuple #[.agg #[.int .i64 (chg c v r n).1, .int .i64 (chg c v r n).2.1, .int .i64 (chg c v r n).2.2.1], .int .i64 (chg c v r n).2.2.2]) ∧ Below w.heap.size w w' := by
  by_cases h : rightB c v r = true
  · by_cases h1 : n = 0
    · exact change_null c v r n w h h1
    · by_cases h2 : r = 2147483647
      · exact change_ver c v r n w h h1 h2
      · by_cases h3 : n < -v
        · exact change_under c v r n w h h1 h2 h3
        · by_cases h4 : c - v < n
          · exact change_room c v r n w h h1 h2 h3 h4
          · exact change_ok c v r n w h h1 h2 h3 h4
  · exact change_not c v r n w h
end
end Go.Proofs.Ytibfjbapicjicaa.Cell
