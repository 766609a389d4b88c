/- For every two cells and every number the law 'CellMoves' returns true. No condition. -/
import Derived.Test.YtibfjbapicjicaaCellD
namespace Go.Proofs.Ytibfjbapicjicaa.CellMoves
open Go.ChangeShapes Go.WideShapes Go.ChangeAt Go.RowKit Go.Proofs.Ytibfjbapicjicaa.Kit Go.Proofs.Ytibfjbapicjicaa.Cell Go.Joins


theorem pourF_ok (c v r n : Int) (h : (pourF c v r n).2.2.2 = 0) : rightB c v r = true ∧ 1 ≤ n ∧ r ≠ 2147483647 ∧ n ≤ c - v ∧ pourF c v r n = (c, v + n, r + 1, 0) := by
  revert h
  unfold pourF someF chg
  repeat' split
  all_goals (intro h; first | (exfalso; revert h; decide) | (refine ⟨by assumption, ?_, by assumption, ?_, rfl⟩ <;> simp_all <;> omega))
theorem drawF_ok (c v r n : Int) (h : (drawF c v r n).2.2.2 = 0) : rightB c v r = true ∧ 1 ≤ n ∧ r ≠ 2147483647 ∧ n ≤ v ∧ drawF c v r n = (c, v + -n, r + 1, 0) := by
  revert h
  unfold drawF someF chg
  repeat' split
  all_goals (intro h; first | (exfalso; revert h; decide) | (refine ⟨by assumption, ?_, by assumption, ?_, rfl⟩ <;> simp_all <;> omega))
theorem pourF_is (c v r n : Int) (h : rightB c v r = true) (h1 : 1 ≤ n) (h2 : r ≠ 2147483647) (h3 : n ≤ c - v) : pourF c v r n = (c, v + n, r + 1, 0) := by
  have hh := (rightB_iff c v r).1 h
  unfold pourF someF
  rw [if_neg (fun x => by have := x.2; omega), chg_ok c v r n h (by omega) h2 (by omega) (by omega)]
theorem drawF_is (c v r n : Int) (h : rightB c v r = true) (h1 : 1 ≤ n) (h2 : r ≠ 2147483647) (h3 : n ≤ v) : drawF c v r n = (c, v + -n, r + 1, 0) := by
  have hh := (rightB_iff c v r).1 h
  unfold drawF someF
  rw [if_neg (fun x => by have := x.2; omega), chg_ok c v r (-n) h (by omega) h2 (by omega) (by omega)]
theorem pourF_last (c v n : Int) (h : rightB c v 2147483647 = true) (h1 : 1 ≤ n) : (pourF c v 2147483647 n).2.2.2 = 101 := by
  unfold pourF someF
  rw [if_neg (fun x => by have := x.2; omega), chg_ver c v 2147483647 n h (by omega) rfl]
theorem drawF_last (c v n : Int) (h : rightB c v 2147483647 = true) (h1 : 1 ≤ n) : (drawF c v 2147483647 n).2.2.2 = 101 := by
  unfold drawF someF
  rw [if_neg (fun x => by have := x.2; omega), chg_ver c v 2147483647 (-n) h (by omega) rfl]
/-- What a move makes of two cells, where it is not refused. -/
theorem mv_ok' (a1 a2 a3 b1 b2 b3 n : Int) (h : (mvF (a1, a2, a3) (b1, b2, b3) n).2.2 = 0) :
    rightB a1 a2 a3 = true ∧ rightB b1 b2 b3 = true ∧ 1 ≤ n ∧ a3 ≠ 2147483647 ∧ b3 ≠ 2147483647 ∧ n ≤ a2 ∧ n ≤ b1 - b2 ∧ mvF (a1, a2, a3) (b1, b2, b3) n = ((a1, a2 + -n, a3 + 1), (b1, b2 + n, b3 + 1), 0) := by
  by_cases hd : (drawF a1 a2 a3 n).2.2.2 = 0
  · by_cases hp : (pourF b1 b2 b3 n).2.2.2 = 0
    · obtain ⟨x1, x2, x3, x4, x5⟩ := drawF_ok _ _ _ _ hd
      obtain ⟨y1, y2, y3, y4, y5⟩ := pourF_ok _ _ _ _ hp
      refine ⟨x1, y1, x2, x3, y3, x4, y4, ?_⟩
      rw [mv_ok _ _ _ _ _ _ _ hd hp, x5, y5]
    · rw [mv_to _ _ _ _ _ _ _ hd hp] at h; exact absurd h hp
  · rw [mv_from _ _ _ _ _ _ _ hd] at h; exact absurd h hd
theorem right_mk (c v r : Int) (h : 1 ≤ c ∧ c ≤ 1099511627776 ∧ 0 ≤ v ∧ v ≤ c ∧ 0 ≤ r ∧ r ≤ 2147483647) : rightB c v r = true := (rightB_iff c v r).2 h

set_option maxHeartbeats 1000000 in
theorem walk_not (a1 a2 a3 b1 b2 b3 n : Int) (hn : -9223372036854775808 ≤ n ∧ n ≤ 9223372036854775807) (w : World) (h : ¬ (mvF (a1, a2, a3) (b1, b2, b3) n).2.2 = 0) :
    Calls Try.prog 6 #[.agg #[.int .i64 a1, .int .i64 a2, .int .i64 a3], .agg #[.int .i64 b1, .int .i64 b2, .int .i64 b3], .int .i64 n] w fun e w' => e = .returned (.bool true) ∧ Below w.heap.size w w' := by
  have hne : ((mvF (a1, a2, a3) (b1, b2, b3) n).2.2 != 0) = true := by simpa using h
  go_enter Try.func6, Try.ntmps6
  go_wp2_with (first | (go_at_call 18; refine (move_any _ _ _ _ _ _ _ _ hn).mono ?_; rintro e w1 ⟨rfl, hb⟩; obtain ⟨hc, hf⟩ := bcell hb; have hz := hb.size; (try simp only [World.size_alloc, World.size_setCell, World.size_drew, size_drewN] at hz)) | (go_at_call 19; refine (rmove_any _ _ _ _ _ _ _ _ hn).mono ?_; rintro e w1 ⟨rfl, hb⟩; obtain ⟨hc, hf⟩ := bcell hb; have hz := hb.size; (try simp only [World.size_alloc, World.size_setCell, World.size_drew, size_drewN] at hz)) | (go_at_call 14; refine (lives_any _).mono ?_; rintro e w1 ⟨rfl, hb⟩; obtain ⟨hc, hf⟩ := bcell hb; have hz := hb.size; (try simp only [World.size_alloc, World.size_setCell, World.size_drew, size_drewN] at hz)) | (go_at_call 15; refine (right_any _ _ _ _).mono ?_; rintro e w1 ⟨rfl, hb⟩; obtain ⟨hc, hf⟩ := bcell hb; have hz := hb.size; (try simp only [World.size_alloc, World.size_setCell, World.size_drew, size_drewN] at hz)) | (refine wp_region_quiet_below (by kernel_rfl) (by kernel_rfl) ?_; (repeat (first | go_big_quiet_step ((first | (go_at_call 18; exact Calls.regrown_of (move_any _ _ _ _ _ _ _ _ hn)) | (go_at_call 19; exact Calls.regrown_of (rmove_any _ _ _ _ _ _ _ _ hn)) | (go_at_call 14; exact Calls.regrown_of (lives_any _)) | (go_at_call 15; exact Calls.regrown_of (right_any _ _ _ _)))) | quiet_step ((first | (go_at_call 18; exact Calls.regrown_of (move_any _ _ _ _ _ _ _ _ hn)) | (go_at_call 19; exact Calls.regrown_of (rmove_any _ _ _ _ _ _ _ _ hn)) | (go_at_call 14; exact Calls.regrown_of (lives_any _)) | (go_at_call 15; exact Calls.regrown_of (right_any _ _ _ _)))))); refine wpQuiet_nil ?_; intro w1 hw1; have hb := below_of_regrown hw1; clear hw1; obtain ⟨hc, hf⟩ := bcell hb; have hz := hb.size; (try simp only [World.size_alloc, World.size_setCell, World.size_drew, size_drewN] at hz)))
  go_ret
  exact ⟨rfl, (by repeat' (first | (with_reducible exact Below.refl _ _) | (with_reducible refine below_drewN ?_ _) | (with_reducible refine Below.drew ?_) | (with_reducible refine Below.alloc ?_ ?_ _) | (with_reducible refine Below.setCell ?_ ?_ _) | (with_reducible refine below_step ?_ (by assumption) ?_) | go_size))⟩

/-- Back again: both are as they were, two versions on. -/
theorem mv_back (a1 a2 a3 b1 b2 b3 n : Int) (ra : rightB a1 a2 a3 = true) (rb : rightB b1 b2 b3 = true) (h1 : 1 ≤ n) (h2 : n ≤ a2) (h3 : n ≤ b1 - b2) (ha : a3 ≤ 2147483645) (hb : b3 ≤ 2147483645) :
    mvF (b1, b2 + n, b3 + 1) (a1, a2 + -n, a3 + 1) n = ((b1, b2, b3 + 2), (a1, a2, a3 + 2), 0) := by
  have ba := (rightB_iff _ _ _).1 ra
  have bb := (rightB_iff _ _ _).1 rb
  have e1 := drawF_is b1 (b2 + n) (b3 + 1) n (right_mk _ _ _ (by omega)) h1 (by omega) (by omega)
  have e2 := pourF_is a1 (a2 + -n) (a3 + 1) n (right_mk _ _ _ (by omega)) h1 (by omega) (by omega)
  rw [mv_ok _ _ _ _ _ _ _ (by rw [e1]) (by rw [e2]), e1, e2]
  simp only [Prod.mk.injEq, true_and, and_true]
  omega
theorem mv_last (a1 a2 a3 b1 b2 b3 n : Int) (ra : rightB a1 a2 a3 = true) (rb : rightB b1 b2 b3 = true) (h1 : 1 ≤ n) (h2 : n ≤ a2) (h3 : n ≤ b1 - b2) (na : a3 ≠ 2147483647) (nb : b3 ≠ 2147483647) (h : 2147483645 < a3 ∨ 2147483645 < b3) :
    (mvF (b1, b2 + n, b3 + 1) (a1, a2 + -n, a3 + 1) n).2.2 = 101 := by
  have ba := (rightB_iff _ _ _).1 ra
  have bb := (rightB_iff _ _ _).1 rb
  by_cases hb : 2147483645 < b3
  · obtain rfl : b3 = 2147483646 := by omega
    have e1 := drawF_last b1 (b2 + n) n (right_mk _ _ _ (by omega)) h1
    rw [mv_from _ _ _ _ _ _ _ (by rw [show (2147483646 : Int) + 1 = 2147483647 from rfl, e1]; decide)]
    exact e1
  · obtain rfl : a3 = 2147483646 := by omega
    have e1 := drawF_is b1 (b2 + n) (b3 + 1) n (right_mk _ _ _ (by omega)) h1 (by omega) (by omega)
    have e2 := pourF_last a1 (a2 + -n) n (right_mk _ _ _ (by omega)) h1
    rw [mv_to _ _ _ _ _ _ _ (by rw [e1]) (by rw [show (2147483646 : Int) + 1 = 2147483647 from rfl, e2]; decide)]
    exact e2
section
variable (a1 a2 a3 b1 b2 b3 n : Int) (hn : -9223372036854775808 ≤ n ∧ n ≤ 9223372036854775807) (w : World) (ra : rightB a1 a2 a3 = true) (rb : rightB b1 b2 b3 = true) (h1 : 1 ≤ n) (na : a3 ≠ 2147483647) (nb : b3 ≠ 2147483647) (h2 : n ≤ a2) (h3 : n ≤ b1 - b2)
  (hq : mvF (a1, a2, a3) (b1, b2, b3) n = ((a1, a2 + -n, a3 + 1), (b1, b2 + n, b3 + 1), 0))
include hn ra rb h1 na nb h2 h3 hq
set_option maxHeartbeats 1000000
omit na nb in
theorem walk_back (ha : a3 ≤ 2147483645) (hb : b3 ≤ 2147483645) : Calls Try.prog 6 #[.agg #[.int .i64 a1, .int .i64 a2, .int .i64 a3], .agg #[.int .i64 b1, .int .i64 b2, .int .i64 b3], .int .i64 n] w fun e w' => e = .returned (.bool true) ∧ Below w.heap.size w w' := by
  have hq2 := mv_back a1 a2 a3 b1 b2 b3 n ra rb h1 h2 h3 ha hb
  have ba := (rightB_iff _ _ _).1 ra
  have bb := (rightB_iff _ _ _).1 rb
  have rx : rightB a1 (a2 + -n) (a3 + 1) = true := right_mk _ _ _ (by omega)
  have ry : rightB b1 (b2 + n) (b3 + 1) = true := right_mk _ _ _ (by omega)
  have hs : (a2 + -n + (b2 + n) != a2 + b2) = false := by simp; omega
  clear ra rb
  go_enter Try.func6, Try.ntmps6
  go_wp2_with (first | (go_at_call 18; refine (move_any _ _ _ _ _ _ _ _ hn).mono ?_; rintro e w1 ⟨rfl, hb⟩; obtain ⟨hc, hf⟩ := bcell hb; have hz := hb.size; (try simp only [World.size_alloc, World.size_setCell, World.size_drew, size_drewN] at hz)) | (go_at_call 19; refine (rmove_any _ _ _ _ _ _ _ _ hn).mono ?_; rintro e w1 ⟨rfl, hb⟩; obtain ⟨hc, hf⟩ := bcell hb; have hz := hb.size; (try simp only [World.size_alloc, World.size_setCell, World.size_drew, size_drewN] at hz)) | (go_at_call 14; refine (lives_any _).mono ?_; rintro e w1 ⟨rfl, hb⟩; obtain ⟨hc, hf⟩ := bcell hb; have hz := hb.size; (try simp only [World.size_alloc, World.size_setCell, World.size_drew, size_drewN] at hz)) | (go_at_call 15; refine (right_any _ _ _ _).mono ?_; rintro e w1 ⟨rfl, hb⟩; obtain ⟨hc, hf⟩ := bcell hb; have hz := hb.size; (try simp only [World.size_alloc, World.size_setCell, World.size_drew, size_drewN] at hz)) | (refine wp_region_quiet_below (by kernel_rfl) (by kernel_rfl) ?_; (repeat (first | go_big_quiet_step ((first | (go_at_call 18; exact Calls.regrown_of (move_any _ _ _ _ _ _ _ _ hn)) | (go_at_call 19; exact Calls.regrown_of (rmove_any _ _ _ _ _ _ _ _ hn)) | (go_at_call 14; exact Calls.regrown_of (lives_any _)) | (go_at_call 15; exact Calls.regrown_of (right_any _ _ _ _)))) | quiet_step ((first | (go_at_call 18; exact Calls.regrown_of (move_any _ _ _ _ _ _ _ _ hn)) | (go_at_call 19; exact Calls.regrown_of (rmove_any _ _ _ _ _ _ _ _ hn)) | (go_at_call 14; exact Calls.regrown_of (lives_any _)) | (go_at_call 15; exact Calls.regrown_of (right_any _ _ _ _)))))); refine wpQuiet_nil ?_; intro w1 hw1; have hb := below_of_regrown hw1; clear hw1; obtain ⟨hc, hf⟩ := bcell hb; have hz := hb.size; (try simp only [World.size_alloc, World.size_setCell, World.size_drew, size_drewN] at hz)))
  go_ret
  exact ⟨rfl, (by repeat' (first | (with_reducible exact Below.refl _ _) | (with_reducible refine below_drewN ?_ _) | (with_reducible refine Below.drew ?_) | (with_reducible refine Below.alloc ?_ ?_ _) | (with_reducible refine Below.setCell ?_ ?_ _) | (with_reducible refine below_step ?_ (by assumption) ?_) | go_size))⟩
theorem walk_last1 (ha : 2147483645 < a3) : Calls Try.prog 6 #[.agg #[.int .i64 a1, .int .i64 a2, .int .i64 a3], .agg #[.int .i64 b1, .int .i64 b2, .int .i64 b3], .int .i64 n] w fun e w' => e = .returned (.bool true) ∧ Below w.heap.size w w' := by
  have hq2 := mv_last a1 a2 a3 b1 b2 b3 n ra rb h1 h2 h3 na nb (.inl ha)
  have ba := (rightB_iff _ _ _).1 ra
  have bb := (rightB_iff _ _ _).1 rb
  have rx : rightB a1 (a2 + -n) (a3 + 1) = true := right_mk _ _ _ (by omega)
  have ry : rightB b1 (b2 + n) (b3 + 1) = true := right_mk _ _ _ (by omega)
  have hs : (a2 + -n + (b2 + n) != a2 + b2) = false := by simp; omega
  clear na nb ra rb
  go_enter Try.func6, Try.ntmps6
  go_wp2_with (first | (go_at_call 18; refine (move_any _ _ _ _ _ _ _ _ hn).mono ?_; rintro e w1 ⟨rfl, hb⟩; obtain ⟨hc, hf⟩ := bcell hb; have hz := hb.size; (try simp only [World.size_alloc, World.size_setCell, World.size_drew, size_drewN] at hz)) | (go_at_call 19; refine (rmove_any _ _ _ _ _ _ _ _ hn).mono ?_; rintro e w1 ⟨rfl, hb⟩; obtain ⟨hc, hf⟩ := bcell hb; have hz := hb.size; (try simp only [World.size_alloc, World.size_setCell, World.size_drew, size_drewN] at hz)) | (go_at_call 14; refine (lives_any _).mono ?_; rintro e w1 ⟨rfl, hb⟩; obtain ⟨hc, hf⟩ := bcell hb; have hz := hb.size; (try simp only [World.size_alloc, World.size_setCell, World.size_drew, size_drewN] at hz)) | (go_at_call 15; refine (right_any _ _ _ _).mono ?_; rintro e w1 ⟨rfl, hb⟩; obtain ⟨hc, hf⟩ := bcell hb; have hz := hb.size; (try simp only [World.size_alloc, World.size_setCell, World.size_drew, size_drewN] at hz)) | (refine wp_region_quiet_below (by kernel_rfl) (by kernel_rfl) ?_; (repeat (first | go_big_quiet_step ((first | (go_at_call 18; exact Calls.regrown_of (move_any _ _ _ _ _ _ _ _ hn)) | (go_at_call 19; exact Calls.regrown_of (rmove_any _ _ _ _ _ _ _ _ hn)) | (go_at_call 14; exact Calls.regrown_of (lives_any _)) | (go_at_call 15; exact Calls.regrown_of (right_any _ _ _ _)))) | quiet_step ((first | (go_at_call 18; exact Calls.regrown_of (move_any _ _ _ _ _ _ _ _ hn)) | (go_at_call 19; exact Calls.regrown_of (rmove_any _ _ _ _ _ _ _ _ hn)) | (go_at_call 14; exact Calls.regrown_of (lives_any _)) | (go_at_call 15; exact Calls.regrown_of (right_any _ _ _ _)))))); refine wpQuiet_nil ?_; intro w1 hw1; have hb := below_of_regrown hw1; clear hw1; obtain ⟨hc, hf⟩ := bcell hb; have hz := hb.size; (try simp only [World.size_alloc, World.size_setCell, World.size_drew, size_drewN] at hz)))
  go_ret
  exact ⟨rfl, (by repeat' (first | (with_reducible exact Below.refl _ _) | (with_reducible refine below_drewN ?_ _) | (with_reducible refine Below.drew ?_) | (with_reducible refine Below.alloc ?_ ?_ _) | (with_reducible refine Below.setCell ?_ ?_ _) | (with_reducible refine below_step ?_ (by assumption) ?_) | go_size))⟩
theorem walk_last2 (ha : a3 ≤ 2147483645) (hb : 2147483645 < b3) : Calls Try.prog 6 #[.agg #[.int .i64 a1, .int .i64 a2, .int .i64 a3], .agg #[.int .i64 b1, .int .i64 b2, .int .i64 b3], .int .i64 n] w fun e w' => e = .returned (.bool true) ∧ Below w.heap.size w w' := by
  have hq2 := mv_last a1 a2 a3 b1 b2 b3 n ra rb h1 h2 h3 na nb (.inr hb)
  have ba := (rightB_iff _ _ _).1 ra
  have bb := (rightB_iff _ _ _).1 rb
  have rx : rightB a1 (a2 + -n) (a3 + 1) = true := right_mk _ _ _ (by omega)
  have ry : rightB b1 (b2 + n) (b3 + 1) = true := right_mk _ _ _ (by omega)
  have hs : (a2 + -n + (b2 + n) != a2 + b2) = false := by simp; omega
  clear na nb ra rb
  go_enter Try.func6, Try.ntmps6
  go_wp2_with (first | (go_at_call 18; refine (move_any _ _ _ _ _ _ _ _ hn).mono ?_; rintro e w1 ⟨rfl, hb⟩; obtain ⟨hc, hf⟩ := bcell hb; have hz := hb.size; (try simp only [World.size_alloc, World.size_setCell, World.size_drew, size_drewN] at hz)) | (go_at_call 19; refine (rmove_any _ _ _ _ _ _ _ _ hn).mono ?_; rintro e w1 ⟨rfl, hb⟩; obtain ⟨hc, hf⟩ := bcell hb; have hz := hb.size; (try simp only [World.size_alloc, World.size_setCell, World.size_drew, size_drewN] at hz)) | (go_at_call 14; refine (lives_any _).mono ?_; rintro e w1 ⟨rfl, hb⟩; obtain ⟨hc, hf⟩ := bcell hb; have hz := hb.size; (try simp only [World.size_alloc, World.size_setCell, World.size_drew, size_drewN] at hz)) | (go_at_call 15; refine (right_any _ _ _ _).mono ?_; rintro e w1 ⟨rfl, hb⟩; obtain ⟨hc, hf⟩ := bcell hb; have hz := hb.size; (try simp only [World.size_alloc, World.size_setCell, World.size_drew, size_drewN] at hz)) | (refine wp_region_quiet_below (by kernel_rfl) (by kernel_rfl) ?_; (repeat (first | go_big_quiet_step ((first | (go_at_call 18; exact Calls.regrown_of (move_any _ _ _ _ _ _ _ _ hn)) | (go_at_call 19; exact Calls.regrown_of (rmove_any _ _ _ _ _ _ _ _ hn)) | (go_at_call 14; exact Calls.regrown_of (lives_any _)) | (go_at_call 15; exact Calls.regrown_of (right_any _ _ _ _)))) | quiet_step ((first | (go_at_call 18; exact Calls.regrown_of (move_any _ _ _ _ _ _ _ _ hn)) | (go_at_call 19; exact Calls.regrown_of (rmove_any _ _ _ _ _ _ _ _ hn)) | (go_at_call 14; exact Calls.regrown_of (lives_any _)) | (go_at_call 15; exact Calls.regrown_of (right_any _ _ _ _)))))); refine wpQuiet_nil ?_; intro w1 hw1; have hb := below_of_regrown hw1; clear hw1; obtain ⟨hc, hf⟩ := bcell hb; have hz := hb.size; (try simp only [World.size_alloc, World.size_setCell, World.size_drew, size_drewN] at hz)))
  go_ret
  exact ⟨rfl, (by repeat' (first | (with_reducible exact Below.refl _ _) | (with_reducible refine below_drewN ?_ _) | (with_reducible refine Below.drew ?_) | (with_reducible refine Below.alloc ?_ ?_ _) | (with_reducible refine Below.setCell ?_ ?_ _) | (with_reducible refine below_step ?_ (by assumption) ?_) | go_size))⟩
end
theorem walk (a1 a2 a3 b1 b2 b3 n : Int) (hn : -9223372036854775808 ≤ n ∧ n ≤ 9223372036854775807) (w : World) : Calls Try.prog 6 #[.agg #[.int .i64 a1, .int .i64 a2, .int .i64 a3], .agg #[.int .i64 b1, .int .i64 b2, .int .i64 b3], .int .i64 n] w fun e w' => e = .returned (.bool true) ∧ Below w.heap.size w w' := by
  by_cases h : (mvF (a1, a2, a3) (b1, b2, b3) n).2.2 = 0
  · obtain ⟨ra, rb, h1, na, nb, h2, h3, hq⟩ := mv_ok' _ _ _ _ _ _ _ h
    by_cases ha : a3 ≤ 2147483645
    · by_cases hb : b3 ≤ 2147483645
      · exact walk_back a1 a2 a3 b1 b2 b3 n hn w ra rb h1 h2 h3 hq ha hb
      · exact walk_last2 a1 a2 a3 b1 b2 b3 n hn w ra rb h1 na nb h2 h3 hq ha (by omega)
    · exact walk_last1 a1 a2 a3 b1 b2 b3 n hn w ra rb h1 na nb h2 h3 hq (by omega)
  · exact walk_not a1 a2 a3 b1 b2 b3 n hn w h

theorem law : Law Try.checked 6 Try.f6 := by
  intro H enc W base args ds ps hval hA _
  have hA1 : DataW.TrodAll enc Try.prog W 0 (fun _ => true) true Try.f6.params.toList args.toList ds ps := hA
  rw [Try.params6] at hA1 hval
  obtain ⟨v0, vs0, d0, ds0, p0, q0, hargs, rfl, rfl, h0, r0⟩ := trodAll_cons hA1
  obtain ⟨v1, vs1, d1, ds1, p1, q1, rfl, rfl, rfl, h1, r1⟩ := trodAll_cons r0
  obtain ⟨v2, vs2, d2, ds2, p2, q2, rfl, rfl, rfl, h2, r2⟩ := trodAll_cons r1
  obtain ⟨rfl, rfl, rfl⟩ := trodAll_nil r2
  obtain rfl : args = #[v0, v1, v2] := by cases args; simp_all
  obtain ⟨a1, a2, a3, rfl, -, -, -⟩ := arg_ints3 Try.underlying23 (by kernel_rfl) (by kernel_rfl) Try.underlying3 Try.underlying3 Try.underlying3 (hval 0 _ v0 rfl rfl) h0
  obtain ⟨b1, b2, b3, rfl, -, -, -⟩ := arg_ints3 Try.underlying23 (by kernel_rfl) (by kernel_rfl) Try.underlying3 Try.underlying3 Try.underlying3 (hval 1 _ v1 rfl rfl) h1
  obtain ⟨n, rfl, rfl, rfl, wn⟩ := open_int Try.underlying3 (hval 2 _ v2 rfl rfl) h2
  exact walk a1 a2 a3 b1 b2 b3 n (bounds_i64 wn) W

set_option maxRecDepth 100000 in
theorem step (os : Os) (started : os.Started) (H : Type) (enc : TypeId × Value → H) :
    ReturnsInHanded {} Try.checked os 6 .any (Rows.cellMovesSpec.pre6 enc Try.prog Try.f6 Rows.cellMovesRow.domain false) (Rows.cellMovesSpec.post enc Try.prog Try.f6 false true false false) :=
  lifted (C := Try.checked) (s := Rows.cellMovesSpec) own started (by kernel_rfl) Try.func6
    (ChangeSpec.witness6 (enc := enc) (C := Try.checked) false ⟨#[], #[.agg #[.int .i64 0, .int .i64 0, .int .i64 0], .agg #[.int .i64 0, .int .i64 0, .int .i64 0], .int .i64 0], []⟩ 8 (by kernel_rfl) (by kernel_rfl) (by kernel_rfl) (by kernel_rfl))
    laidOut (by kernel_rfl) (by kernel_rfl) Try.underlying4 rfl (fun ds h => by match ds, h with | [d0, d1, d2], _ => rfl) law
set_option maxRecDepth 100000 in
theorem over : Rows.cellMovesRow.holds Try.pinned (OpenSpec.ofChange Rows.cellMovesSpec) :=
  OpenClaim.holds_of_wide 6 Try.f6 rfl rfl rfl rfl rfl rfl rfl ⟨rfl, rfl, rfl, rfl, rfl⟩ rfl rfl rfl rfl rfl (by kernel_rfl) Try.func6 (by kernel_rfl)
    (of_decide_eq_true (by kernel_rfl)) (by unfold Func.isWrapper; first | (rw [if_pos (by decide +kernel)]; kernel_rfl) | (rw [if_neg (by decide +kernel)]; exact ⟨rfl, rfl⟩))
    (fun os started H enc _ => step os started H enc)
theorem proved : Rows.CellMovesSaid := over
#print axioms proved

end Go.Proofs.Ytibfjbapicjicaa.CellMoves
