/- Contracts of the cell layer, third part: the references, and what pours, draws and moves. No condition. -/
import Derived.Test.YtibfjbapicjicaaCellB
namespace Go.Proofs.Ytibfjbapicjicaa.Cell
open Go.ChangeShapes Go.WideShapes Go.ChangeAt Go.RowKit Go.Proofs.Ytibfjbapicjicaa.Kit

theorem rright_any (c v r : Int) (w : World) : Calls Try.prog 13 #[.agg #[.int .i64 c, .int .i64 v, .int .i64 r]] w fun e w' => e = .returned (.bool (rightB c v r)) ∧ Below w.heap.size w w' := by
  go_enter Try.func13, Try.ntmps13
  go_wp2
  all_goals
    go_ret
    exact ⟨ret_bool (by unfold rightB; first | exact (decide_eq_decide.2 (by omega)) | exact (decide_eq_true (by omega)).symm | exact (decide_eq_false (by omega)).symm), (by repeat' (first | (with_reducible exact Below.refl _ _) | (with_reducible refine below_drewN ?_ _) | (with_reducible refine Below.drew ?_) | (with_reducible refine Below.alloc ?_ ?_ _) | (with_reducible refine Below.setCell ?_ ?_ _) | (with_reducible refine below_step ?_ (by assumption) ?_) | go_size))⟩
section
variable (c v r n : Int) (w : World)
set_option maxHeartbeats 1000000
theorem rchange_any (h : rightB c v r = true) (h1 : ¬ n = 0) : Calls Try.prog 21 #[.agg #[.int .i64 c, .int .i64 v, .int .i64 r], .int .i64 n] w fun e w' => e = .returned (.tuple #[.agg #[.int .i64 (chg c v r n).1, .int .i64 (chg c v r n).2.1, .int .i64 (chg c v r n).2.2.1], .int .i64 (chg c v r n).2.2.2]) ∧ Below w.heap.size w w' := by
  have hh := (rightB_iff c v r).1 h
  by_cases h2 : r = 2147483647
  · subst h2
    have Q := hide (chg_ver c v 2147483647 n h h1 rfl)
    go_enter Try.func21, Try.ntmps21
    go_wp2
    (refine bodyPost_ret (v := .tuple #[.agg #[.int .i64 (((0, 0, 0, 101) : Int × Int × Int × Int)).1, .int .i64 (((0, 0, 0, 101) : Int × Int × Int × Int)).2.1, .int .i64 (((0, 0, 0, 101) : Int × Int × Int × Int)).2.2.1], .int .i64 (((0, 0, 0, 101) : Int × Int × Int × Int)).2.2.2]) ?_ rfl ⟨?_, (by repeat' (first | (with_reducible exact Below.refl _ _) | (with_reducible refine below_drewN ?_ _) | (with_reducible refine Below.drew ?_) | (with_reducible refine Below.alloc ?_ ?_ _) | (with_reducible refine Below.setCell ?_ ?_ _) | (with_reducible refine below_step ?_ (by assumption) ?_) | go_size))⟩; (simp only [results, Try.results21]; go_simp); exact ret_cv Q.out.symm)
  · have b2 : (r == 2147483647) = false := by simp [h2]
    by_cases h3 : n < -v
    · have Q := hide (chg_under c v r n h h1 h2 h3)
      go_enter Try.func21, Try.ntmps21
      go_wp2
      (refine bodyPost_ret (v := .tuple #[.agg #[.int .i64 (((0, 0, 0, 102) : Int × Int × Int × Int)).1, .int .i64 (((0, 0, 0, 102) : Int × Int × Int × Int)).2.1, .int .i64 (((0, 0, 0, 102) : Int × Int × Int × Int)).2.2.1], .int .i64 (((0, 0, 0, 102) : Int × Int × Int × Int)).2.2.2]) ?_ rfl ⟨?_, (by repeat' (first | (with_reducible exact Below.refl _ _) | (with_reducible refine below_drewN ?_ _) | (with_reducible refine Below.drew ?_) | (with_reducible refine Below.alloc ?_ ?_ _) | (with_reducible refine Below.setCell ?_ ?_ _) | (with_reducible refine below_step ?_ (by assumption) ?_) | go_size))⟩; (simp only [results, Try.results21]; go_simp); exact ret_cv Q.out.symm)
    · by_cases h4 : c - v < n
      · have Q := hide (chg_room c v r n h h1 h2 h3 h4)
        go_enter Try.func21, Try.ntmps21
        go_wp2
        (refine bodyPost_ret (v := .tuple #[.agg #[.int .i64 (((0, 0, 0, 103) : Int × Int × Int × Int)).1, .int .i64 (((0, 0, 0, 103) : Int × Int × Int × Int)).2.1, .int .i64 (((0, 0, 0, 103) : Int × Int × Int × Int)).2.2.1], .int .i64 (((0, 0, 0, 103) : Int × Int × Int × Int)).2.2.2]) ?_ rfl ⟨?_, (by repeat' (first | (with_reducible exact Below.refl _ _) | (with_reducible refine below_drewN ?_ _) | (with_reducible refine Below.drew ?_) | (with_reducible refine Below.alloc ?_ ?_ _) | (with_reducible refine Below.setCell ?_ ?_ _) | (with_reducible refine below_step ?_ (by assumption) ?_) | go_size))⟩; (simp only [results, Try.results21]; go_simp); exact ret_cv Q.out.symm)
      · have Q := hide (chg_ok c v r n h h1 h2 h3 h4)
        go_enter Try.func21, Try.ntmps21
        go_wp2
        (refine bodyPost_ret (v := .tuple #[.agg #[.int .i64 (((c, v + n, r + 1, 0) : Int × Int × Int × Int)).1, .int .i64 (((c, v + n, r + 1, 0) : Int × Int × Int × Int)).2.1, .int .i64 (((c, v + n, r + 1, 0) : Int × Int × Int × Int)).2.2.1], .int .i64 (((c, v + n, r + 1, 0) : Int × Int × Int × Int)).2.2.2]) ?_ rfl ⟨?_, (by repeat' (first | (with_reducible exact Below.refl _ _) | (with_reducible refine below_drewN ?_ _) | (with_reducible refine Below.drew ?_) | (with_reducible refine Below.alloc ?_ ?_ _) | (with_reducible refine Below.setCell ?_ ?_ _) | (with_reducible refine below_step ?_ (by assumption) ?_) | go_size))⟩; (simp only [results, Try.results21]; go_simp); exact ret_cv Q.out.symm)
theorem Rchange_any : Calls Try.prog 10 #[.agg #[.int .i64 c, .int .i64 v, .int .i64 r], .int .i64 n] w fun e w' => e = .returned (.tuple #[.agg #[.int .i64 (chg c v r n).1, .int .i64 (chg c v r n).2.1, .int .i64 (chg c v r n).2.2.1], .int .i64 (chg c v r n).2.2.2]) ∧ Below w.heap.size w w' := by
  by_cases h : rightB c v r = true
  · by_cases h1 : n = 0
    · have b1 : (n == 0) = true := by simp [h1]
      have Q := hide (chg_null c v r n h h1)
      go_enter Try.func10, Try.ntmps10
      go_wp2_with (first | (go_at_call 13; refine (rright_any _ _ _ _).mono ?_; rintro e w1 ⟨rfl, hb⟩; obtain ⟨hS, hE, hz, hc, hf⟩ := bcell hb; (try simp only [go_sem] at hE); subst hE))
      (refine bodyPost_ret (v := .tuple #[.agg #[.int .i64 (((0, 0, 0, 1) : Int × Int × Int × Int)).1, .int .i64 (((0, 0, 0, 1) : Int × Int × Int × Int)).2.1, .int .i64 (((0, 0, 0, 1) : Int × Int × Int × Int)).2.2.1], .int .i64 (((0, 0, 0, 1) : Int × Int × Int × Int)).2.2.2]) ?_ rfl ⟨?_, (by repeat' (first | (with_reducible exact Below.refl _ _) | (with_reducible refine below_drewN ?_ _) | (with_reducible refine Below.drew ?_) | (with_reducible refine Below.alloc ?_ ?_ _) | (with_reducible refine Below.setCell ?_ ?_ _) | (with_reducible refine below_step ?_ (by assumption) ?_) | go_size))⟩; (simp only [results, Try.results10]; go_simp); exact ret_cv Q.out.symm)
    · have b1 : (n == 0) = false := by simp [h1]
      go_enter Try.func10, Try.ntmps10
      go_wp2_with (first | (go_at_call 13; refine (rright_any _ _ _ _).mono ?_; rintro e w1 ⟨rfl, hb⟩; obtain ⟨hS, hE, hz, hc, hf⟩ := bcell hb; (try simp only [go_sem] at hE); subst hE) | (go_at_call 21; refine (rchange_any c v r n _ h h1).mono ?_; rintro e w1 ⟨rfl, hb⟩; obtain ⟨hS, hE, hz, hc, hf⟩ := bcell hb; (try simp only [go_sem] at hE); subst hE))
      (refine bodyPost_ret (v := .tuple #[.agg #[.int .i64 ((chg c v r n)).1, .int .i64 ((chg c v r n)).2.1, .int .i64 ((chg c v r n)).2.2.1], .int .i64 ((chg c v r n)).2.2.2]) ?_ rfl ⟨?_, (by repeat' (first | (with_reducible exact Below.refl _ _) | (with_reducible refine below_drewN ?_ _) | (with_reducible refine Below.drew ?_) | (with_reducible refine Below.alloc ?_ ?_ _) | (with_reducible refine Below.setCell ?_ ?_ _) | (with_reducible refine below_step ?_ (by assumption) ?_) | go_size))⟩; (simp only [results, Try.results10]; go_simp); rfl)
  · have hh : rightB c v r = false := by simpa using h
    have Q := hide (chg_not c v r n h)
    go_enter Try.func10, Try.ntmps10
    go_wp2_with (first | (go_at_call 13; refine (rright_any _ _ _ _).mono ?_; rintro e w1 ⟨rfl, hb⟩; obtain ⟨hS, hE, hz, hc, hf⟩ := bcell hb; (try simp only [go_sem] at hE); subst hE))
    (refine bodyPost_ret (v := .tuple #[.agg #[.int .i64 (((0, 0, 0, 100) : Int × Int × Int × Int)).1, .int .i64 (((0, 0, 0, 100) : Int × Int × Int × Int)).2.1, .int .i64 (((0, 0, 0, 100) : Int × Int × Int × Int)).2.2.1], .int .i64 (((0, 0, 0, 100) : Int × Int × Int × Int)).2.2.2]) ?_ rfl ⟨?_, (by repeat' (first | (with_reducible exact Below.refl _ _) | (with_reducible refine below_drewN ?_ _) | (with_reducible refine Below.drew ?_) | (with_reducible refine Below.alloc ?_ ?_ _) | (with_reducible refine Below.setCell ?_ ?_ _) | (with_reducible refine below_step ?_ (by assumption) ?_) | go_size))⟩; (simp only [results, Try.results10]; go_simp); exact ret_cv Q.out.symm)

/-- What is poured or drawn: at least 1, where the cell is right. -/
def someF (c v r n m : Int) : Int × Int × Int × Int := if rightB c v r = true ∧ n < 1 then (0, 0, 0, 1) else chg c v r m
theorem some_any (s : Int) : Calls Try.prog 20 #[.agg #[.int .i64 c, .int .i64 v, .int .i64 r], .int .i64 n, .int .i64 s] w fun e w' => e = .returned (.tuple #[.agg #[.int .i64 (someF c v r n (wrap64 (s * n))).1, .int .i64 (someF c v r n (wrap64 (s * n))).2.1, .int .i64 (someF c v r n (wrap64 (s * n))).2.2.1], .int .i64 (someF c v r n (wrap64 (s * n))).2.2.2]) ∧ Below w.heap.size w w' := by
  by_cases h : rightB c v r = true
  · by_cases h1 : n < 1
    · have Q := hide (show someF c v r n (wrap64 (s * n)) = (0, 0, 0, 1) by unfold someF; rw [if_pos ⟨h, h1⟩])
      go_enter Try.func20, Try.ntmps20
      go_wp2_with (first | (go_at_call 15; refine (right_any _ _ _ _).mono ?_; rintro e w1 ⟨rfl, hb⟩; obtain ⟨hS, hE, hz, hc, hf⟩ := bcell hb; (try simp only [go_sem] at hE); subst hE))
      (refine bodyPost_ret (v := .tuple #[.agg #[.int .i64 (((0, 0, 0, 1) : Int × Int × Int × Int)).1, .int .i64 (((0, 0, 0, 1) : Int × Int × Int × Int)).2.1, .int .i64 (((0, 0, 0, 1) : Int × Int × Int × Int)).2.2.1], .int .i64 (((0, 0, 0, 1) : Int × Int × Int × Int)).2.2.2]) ?_ rfl ⟨?_, (by repeat' (first | (with_reducible exact Below.refl _ _) | (with_reducible refine below_drewN ?_ _) | (with_reducible refine Below.drew ?_) | (with_reducible refine Below.alloc ?_ ?_ _) | (with_reducible refine Below.setCell ?_ ?_ _) | (with_reducible refine below_step ?_ (by assumption) ?_) | go_size))⟩; (simp only [results, Try.results20]; go_simp); exact ret_cv Q.out.symm)
    · have Q := hide (show someF c v r n (wrap64 (s * n)) = chg c v r (wrap64 (s * n)) by unfold someF; rw [if_neg (fun x => h1 x.2)])
      go_enter Try.func20, Try.ntmps20
      go_wp2_with (first | (go_at_call 15; refine (right_any _ _ _ _).mono ?_; rintro e w1 ⟨rfl, hb⟩; obtain ⟨hS, hE, hz, hc, hf⟩ := bcell hb; (try simp only [go_sem] at hE); subst hE) | (go_at_call 7; refine (change_any _ _ _ _ _).mono ?_; rintro e w1 ⟨rfl, hb⟩; obtain ⟨hS, hE, hz, hc, hf⟩ := bcell hb; (try simp only [go_sem] at hE); subst hE))
      (refine bodyPost_ret (v := .tuple #[.agg #[.int .i64 ((chg c v r (wrap64 (s * n)))).1, .int .i64 ((chg c v r (wrap64 (s * n)))).2.1, .int .i64 ((chg c v r (wrap64 (s * n)))).2.2.1], .int .i64 ((chg c v r (wrap64 (s * n)))).2.2.2]) ?_ rfl ⟨?_, (by repeat' (first | (with_reducible exact Below.refl _ _) | (with_reducible refine below_drewN ?_ _) | (with_reducible refine Below.drew ?_) | (with_reducible refine Below.alloc ?_ ?_ _) | (with_reducible refine Below.setCell ?_ ?_ _) | (with_reducible refine below_step ?_ (by assumption) ?_) | go_size))⟩; (simp only [results, Try.results20]; go_simp); exact ret_cv Q.out.symm)
  · have Q := hide (show someF c v r n (wrap64 (s * n)) = chg c v r (wrap64 (s * n)) by unfold someF; rw [if_neg (fun x => h x.1)])
    have hh : rightB c v r = false := by simpa using h
    go_enter Try.func20, Try.ntmps20
    go_wp2_with (first | (go_at_call 15; refine (right_any _ _ _ _).mono ?_; rintro e w1 ⟨rfl, hb⟩; obtain ⟨hS, hE, hz, hc, hf⟩ := bcell hb; (try simp only [go_sem] at hE); subst hE) | (go_at_call 7; refine (change_any _ _ _ _ _).mono ?_; rintro e w1 ⟨rfl, hb⟩; obtain ⟨hS, hE, hz, hc, hf⟩ := bcell hb; (try simp only [go_sem] at hE); subst hE))
    (refine bodyPost_ret (v := .tuple #[.agg #[.int .i64 ((chg c v r (wrap64 (s * n)))).1, .int .i64 ((chg c v r (wrap64 (s * n)))).2.1, .int .i64 ((chg c v r (wrap64 (s * n)))).2.2.1], .int .i64 ((chg c v r (wrap64 (s * n)))).2.2.2]) ?_ rfl ⟨?_, (by repeat' (first | (with_reducible exact Below.refl _ _) | (with_reducible refine below_drewN ?_ _) | (with_reducible refine Below.drew ?_) | (with_reducible refine Below.alloc ?_ ?_ _) | (with_reducible refine Below.setCell ?_ ?_ _) | (with_reducible refine below_step ?_ (by assumption) ?_) | go_size))⟩; (simp only [results, Try.results20]; go_simp); exact ret_cv Q.out.symm)

def pourF (c v r n : Int) : Int × Int × Int × Int := someF c v r n n
def drawF (c v r n : Int) : Int × Int × Int × Int := someF c v r n (-n)
theorem chg_not' (m : Int) (h : ¬ rightB c v r = true) : chg c v r m = (0, 0, 0, 100) := chg_not c v r m h
theorem someF_pour (hn : -9223372036854775808 ≤ n ∧ n ≤ 9223372036854775807) : someF c v r n (wrap64 (1 * n)) = pourF c v r n := by
  unfold pourF; rw [Int.one_mul, IntWalk.wrap64_in n hn]
theorem someF_draw (hn : -9223372036854775808 ≤ n ∧ n ≤ 9223372036854775807) : someF c v r n (wrap64 (-1 * n)) = drawF c v r n := by
  unfold drawF
  by_cases h : rightB c v r = true
  · by_cases h1 : n < 1
    · unfold someF; rw [if_pos ⟨h, h1⟩, if_pos ⟨h, h1⟩]
    · rw [IntWalk.wrap64_in (-1 * n) (by omega), show -1 * n = -n by omega]
  · unfold someF; rw [if_neg (fun x => h x.1), if_neg (fun x => h x.1), chg_not _ _ _ _ h, chg_not _ _ _ _ h]
theorem pour_any (hn : -9223372036854775808 ≤ n ∧ n ≤ 9223372036854775807) : Calls Try.prog 8 #[.agg #[.int .i64 c, .int .i64 v, .int .i64 r], .int .i64 n] w fun e w' => e = .returned (.tuple #[.agg #[.int .i64 (pourF c v r n).1, .int .i64 (pourF c v r n).2.1, .int .i64 (pourF c v r n).2.2.1], .int .i64 (pourF c v r n).2.2.2]) ∧ Below w.heap.size w w' := by
  rw [← someF_pour c v r n hn]
  go_enter Try.func8, Try.ntmps8
  go_wp2_with (first | (go_at_call 20; refine (some_any _ _ _ _ _ _).mono ?_; rintro e w1 ⟨rfl, hb⟩; obtain ⟨hS, hE, hz, hc, hf⟩ := bcell hb; (try simp only [go_sem] at hE); subst hE))
  (refine bodyPost_ret (v := .tuple #[.agg #[.int .i64 ((someF c v r n (wrap64 (1 * n)))).1, .int .i64 ((someF c v r n (wrap64 (1 * n)))).2.1, .int .i64 ((someF c v r n (wrap64 (1 * n)))).2.2.1], .int .i64 ((someF c v r n (wrap64 (1 * n)))).2.2.2]) ?_ rfl ⟨?_, (by repeat' (first | (with_reducible exact Below.refl _ _) | (with_reducible refine below_drewN ?_ _) | (with_reducible refine Below.drew ?_) | (with_reducible refine Below.alloc ?_ ?_ _) | (with_reducible refine Below.setCell ?_ ?_ _) | (with_reducible refine below_step ?_ (by assumption) ?_) | go_size))⟩; (simp only [results, Try.results8]; go_simp); rfl)
theorem draw_any (hn : -9223372036854775808 ≤ n ∧ n ≤ 9223372036854775807) : Calls Try.prog 9 #[.agg #[.int .i64 c, .int .i64 v, .int .i64 r], .int .i64 n] w fun e w' => e = .returned (.tuple #[.agg #[.int .i64 (drawF c v r n).1, .int .i64 (drawF c v r n).2.1, .int .i64 (drawF c v r n).2.2.1], .int .i64 (drawF c v r n).2.2.2]) ∧ Below w.heap.size w w' := by
  rw [← someF_draw c v r n hn]
  go_enter Try.func9, Try.ntmps9
  go_wp2_with (first | (go_at_call 20; refine (some_any _ _ _ _ _ _).mono ?_; rintro e w1 ⟨rfl, hb⟩; obtain ⟨hS, hE, hz, hc, hf⟩ := bcell hb; (try simp only [go_sem] at hE); subst hE))
  (refine bodyPost_ret (v := .tuple #[.agg #[.int .i64 ((someF c v r n (wrap64 (-1 * n)))).1, .int .i64 ((someF c v r n (wrap64 (-1 * n)))).2.1, .int .i64 ((someF c v r n (wrap64 (-1 * n)))).2.2.1], .int .i64 ((someF c v r n (wrap64 (-1 * n)))).2.2.2]) ?_ rfl ⟨?_, (by repeat' (first | (with_reducible exact Below.refl _ _) | (with_reducible refine below_drewN ?_ _) | (with_reducible refine Below.drew ?_) | (with_reducible refine Below.alloc ?_ ?_ _) | (with_reducible refine Below.setCell ?_ ?_ _) | (with_reducible refine below_step ?_ (by assumption) ?_) | go_size))⟩; (simp only [results, Try.results9]; go_simp); rfl)
theorem rpour_any : Calls Try.prog 11 #[.agg #[.int .i64 c, .int .i64 v, .int .i64 r], .int .i64 n] w fun e w' => e = .returned (.tuple #[.agg #[.int .i64 (pourF c v r n).1, .int .i64 (pourF c v r n).2.1, .int .i64 (pourF c v r n).2.2.1], .int .i64 (pourF c v r n).2.2.2]) ∧ Below w.heap.size w w' := by
  by_cases h : rightB c v r = true
  · by_cases h1 : n < 1
    · have Q := hide (show pourF c v r n = (0, 0, 0, 1) by unfold pourF someF; rw [if_pos ⟨h, h1⟩])
      go_enter Try.func11, Try.ntmps11
      go_wp2_with (first | (go_at_call 13; refine (rright_any _ _ _ _).mono ?_; rintro e w1 ⟨rfl, hb⟩; obtain ⟨hS, hE, hz, hc, hf⟩ := bcell hb; (try simp only [go_sem] at hE); subst hE))
      (refine bodyPost_ret (v := .tuple #[.agg #[.int .i64 (((0, 0, 0, 1) : Int × Int × Int × Int)).1, .int .i64 (((0, 0, 0, 1) : Int × Int × Int × Int)).2.1, .int .i64 (((0, 0, 0, 1) : Int × Int × Int × Int)).2.2.1], .int .i64 (((0, 0, 0, 1) : Int × Int × Int × Int)).2.2.2]) ?_ rfl ⟨?_, (by repeat' (first | (with_reducible exact Below.refl _ _) | (with_reducible refine below_drewN ?_ _) | (with_reducible refine Below.drew ?_) | (with_reducible refine Below.alloc ?_ ?_ _) | (with_reducible refine Below.setCell ?_ ?_ _) | (with_reducible refine below_step ?_ (by assumption) ?_) | go_size))⟩; (simp only [results, Try.results11]; go_simp); exact ret_cv Q.out.symm)
    · have Q := hide (show pourF c v r n = chg c v r n by unfold pourF someF; rw [if_neg (fun x => h1 x.2)])
      go_enter Try.func11, Try.ntmps11
      go_wp2_with (first | (go_at_call 13; refine (rright_any _ _ _ _).mono ?_; rintro e w1 ⟨rfl, hb⟩; obtain ⟨hS, hE, hz, hc, hf⟩ := bcell hb; (try simp only [go_sem] at hE); subst hE) | (go_at_call 10; refine (Rchange_any _ _ _ _ _).mono ?_; rintro e w1 ⟨rfl, hb⟩; obtain ⟨hS, hE, hz, hc, hf⟩ := bcell hb; (try simp only [go_sem] at hE); subst hE))
      (refine bodyPost_ret (v := .tuple #[.agg #[.int .i64 ((chg c v r n)).1, .int .i64 ((chg c v r n)).2.1, .int .i64 ((chg c v r n)).2.2.1], .int .i64 ((chg c v r n)).2.2.2]) ?_ rfl ⟨?_, (by repeat' (first | (with_reducible exact Below.refl _ _) | (with_reducible refine below_drewN ?_ _) | (with_reducible refine Below.drew ?_) | (with_reducible refine Below.alloc ?_ ?_ _) | (with_reducible refine Below.setCell ?_ ?_ _) | (with_reducible refine below_step ?_ (by assumption) ?_) | go_size))⟩; (simp only [results, Try.results11]; go_simp); exact ret_cv Q.out.symm)
  · have Q := hide (show pourF c v r n = chg c v r n by unfold pourF someF; rw [if_neg (fun x => h x.1)])
    have hh : rightB c v r = false := by simpa using h
    go_enter Try.func11, Try.ntmps11
    go_wp2_with (first | (go_at_call 13; refine (rright_any _ _ _ _).mono ?_; rintro e w1 ⟨rfl, hb⟩; obtain ⟨hS, hE, hz, hc, hf⟩ := bcell hb; (try simp only [go_sem] at hE); subst hE) | (go_at_call 10; refine (Rchange_any _ _ _ _ _).mono ?_; rintro e w1 ⟨rfl, hb⟩; obtain ⟨hS, hE, hz, hc, hf⟩ := bcell hb; (try simp only [go_sem] at hE); subst hE))
    (refine bodyPost_ret (v := .tuple #[.agg #[.int .i64 ((chg c v r n)).1, .int .i64 ((chg c v r n)).2.1, .int .i64 ((chg c v r n)).2.2.1], .int .i64 ((chg c v r n)).2.2.2]) ?_ rfl ⟨?_, (by repeat' (first | (with_reducible exact Below.refl _ _) | (with_reducible refine below_drewN ?_ _) | (with_reducible refine Below.drew ?_) | (with_reducible refine Below.alloc ?_ ?_ _) | (with_reducible refine Below.setCell ?_ ?_ _) | (with_reducible refine below_step ?_ (by assumption) ?_) | go_size))⟩; (simp only [results, Try.results11]; go_simp); exact ret_cv Q.out.symm)
theorem rdraw_any (hn : -9223372036854775808 ≤ n ∧ n ≤ 9223372036854775807) : Calls Try.prog 12 #[.agg #[.int .i64 c, .int .i64 v, .int .i64 r], .int .i64 n] w fun e w' => e = .returned (.tuple #[.agg #[.int .i64 (drawF c v r n).1, .int .i64 (drawF c v r n).2.1, .int .i64 (drawF c v r n).2.2.1], .int .i64 (drawF c v r n).2.2.2]) ∧ Below w.heap.size w w' := by
  by_cases h : rightB c v r = true
  · by_cases h1 : n < 1
    · have Q := hide (show drawF c v r n = (0, 0, 0, 1) by unfold drawF someF; rw [if_pos ⟨h, h1⟩])
      go_enter Try.func12, Try.ntmps12
      go_wp2_with (first | (go_at_call 13; refine (rright_any _ _ _ _).mono ?_; rintro e w1 ⟨rfl, hb⟩; obtain ⟨hS, hE, hz, hc, hf⟩ := bcell hb; (try simp only [go_sem] at hE); subst hE))
      (refine bodyPost_ret (v := .tuple #[.agg #[.int .i64 (((0, 0, 0, 1) : Int × Int × Int × Int)).1, .int .i64 (((0, 0, 0, 1) : Int × Int × Int × Int)).2.1, .int .i64 (((0, 0, 0, 1) : Int × Int × Int × Int)).2.2.1], .int .i64 (((0, 0, 0, 1) : Int × Int × Int × Int)).2.2.2]) ?_ rfl ⟨?_, (by repeat' (first | (with_reducible exact Below.refl _ _) | (with_reducible refine below_drewN ?_ _) | (with_reducible refine Below.drew ?_) | (with_reducible refine Below.alloc ?_ ?_ _) | (with_reducible refine Below.setCell ?_ ?_ _) | (with_reducible refine below_step ?_ (by assumption) ?_) | go_size))⟩; (simp only [results, Try.results12]; go_simp); exact ret_cv Q.out.symm)
    · have Q := hide (show drawF c v r n = chg c v r (-n) by unfold drawF someF; rw [if_neg (fun x => h1 x.2)])
      go_enter Try.func12, Try.ntmps12
      go_wp2_with (first | (go_at_call 13; refine (rright_any _ _ _ _).mono ?_; rintro e w1 ⟨rfl, hb⟩; obtain ⟨hS, hE, hz, hc, hf⟩ := bcell hb; (try simp only [go_sem] at hE); subst hE) | (go_at_call 10; refine (Rchange_any _ _ _ _ _).mono ?_; rintro e w1 ⟨rfl, hb⟩; obtain ⟨hS, hE, hz, hc, hf⟩ := bcell hb; (try simp only [go_sem] at hE); subst hE))
      (refine bodyPost_ret (v := .tuple #[.agg #[.int .i64 ((chg c v r (-n))).1, .int .i64 ((chg c v r (-n))).2.1, .int .i64 ((chg c v r (-n))).2.2.1], .int .i64 ((chg c v r (-n))).2.2.2]) ?_ rfl ⟨?_, (by repeat' (first | (with_reducible exact Below.refl _ _) | (with_reducible refine below_drewN ?_ _) | (with_reducible refine Below.drew ?_) | (with_reducible refine Below.alloc ?_ ?_ _) | (with_reducible refine Below.setCell ?_ ?_ _) | (with_reducible refine below_step ?_ (by assumption) ?_) | go_size))⟩; (simp only [results, Try.results12]; go_simp); exact ret_cv Q.out.symm)
  · have Q := hide (show drawF c v r n = chg c v r (-n) by unfold drawF someF; rw [if_neg (fun x => h x.1)])
    have Q2 := hide (chg_not c v r (-n) h)
    have hh : rightB c v r = false := by simpa using h
    by_cases h1 : n < 1
    · go_enter Try.func12, Try.ntmps12
      go_wp2_with (first | (go_at_call 13; refine (rright_any _ _ _ _).mono ?_; rintro e w1 ⟨rfl, hb⟩; obtain ⟨hS, hE, hz, hc, hf⟩ := bcell hb; (try simp only [go_sem] at hE); subst hE))
      rw [Q2.out] at Q
      (refine bodyPost_ret (v := .tuple #[.agg #[.int .i64 (((0, 0, 0, 100) : Int × Int × Int × Int)).1, .int .i64 (((0, 0, 0, 100) : Int × Int × Int × Int)).2.1, .int .i64 (((0, 0, 0, 100) : Int × Int × Int × Int)).2.2.1], .int .i64 (((0, 0, 0, 100) : Int × Int × Int × Int)).2.2.2]) ?_ rfl ⟨?_, (by repeat' (first | (with_reducible exact Below.refl _ _) | (with_reducible refine below_drewN ?_ _) | (with_reducible refine Below.drew ?_) | (with_reducible refine Below.alloc ?_ ?_ _) | (with_reducible refine Below.setCell ?_ ?_ _) | (with_reducible refine below_step ?_ (by assumption) ?_) | go_size))⟩; (simp only [results, Try.results12]; go_simp); exact ret_cv Q.out.symm)
    · go_enter Try.func12, Try.ntmps12
      go_wp2_with (first | (go_at_call 13; refine (rright_any _ _ _ _).mono ?_; rintro e w1 ⟨rfl, hb⟩; obtain ⟨hS, hE, hz, hc, hf⟩ := bcell hb; (try simp only [go_sem] at hE); subst hE) | (go_at_call 10; refine (Rchange_any _ _ _ _ _).mono ?_; rintro e w1 ⟨rfl, hb⟩; obtain ⟨hS, hE, hz, hc, hf⟩ := bcell hb; (try simp only [go_sem] at hE); subst hE))
      (refine bodyPost_ret (v := .tuple #[.agg #[.int .i64 ((chg c v r (-n))).1, .int .i64 ((chg c v r (-n))).2.1, .int .i64 ((chg c v r (-n))).2.2.1], .int .i64 ((chg c v r (-n))).2.2.2]) ?_ rfl ⟨?_, (by repeat' (first | (with_reducible exact Below.refl _ _) | (with_reducible refine below_drewN ?_ _) | (with_reducible refine Below.drew ?_) | (with_reducible refine Below.alloc ?_ ?_ _) | (with_reducible refine Below.setCell ?_ ?_ _) | (with_reducible refine below_step ?_ (by assumption) ?_) | go_size))⟩; (simp only [results, Try.results12]; go_simp); exact ret_cv Q.out.symm)
end
end Go.Proofs.Ytibfjbapicjicaa.Cell
