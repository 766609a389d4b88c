/- Products, of this layer and of the reference. No condition. -/
import Derived.Test.YtbgakceljbigjaaDoorNumT
namespace Go.Proofs.YtbgakceljbigjaaDoor.Num
open Go.ChangeShapes Go.WideShapes Go.ChangeAt Go.RowKit Go.Proofs.YtbgakceljbigjaaDoor.Kit Go.Proofs.YtbgakceljbigjaaDoor.Wide Go.Deep
set_option linter.unusedVariables false
theorem mul_bd {a b : Int} (ha : In64 a) (hb : In64 b) : -85070591730234615865843651857942052864 ≤ a * b ∧ a * b ≤ 85070591730234615865843651857942052864 := by
  obtain ⟨h1, h2⟩ := ha
  obtain ⟨h3, h4⟩ := hb
  have e := Int.natAbs_mul a b
  have l := Nat.mul_le_mul (show a.natAbs ≤ 9223372036854775808 by omega) (show b.natAbs ≤ 9223372036854775808 by omega)
  omega
theorem mul64_int (x y : Int) (hx : 0 ≤ x) (hx1 : x < 18446744073709551616) (hy : 0 ≤ y) (hy1 : y < 18446744073709551616) (w : World) :
    Calls Tryd.prog 34 #[.int .u64 x, .int .u64 y] w fun e w' => e = .returned (.tuple #[.int .u64 (x * y / 18446744073709551616), .int .u64 (x * y % 18446744073709551616)]) ∧ w = w' := by
  obtain ⟨a, rfl⟩ : ∃ a : Nat, x = a := ⟨x.toNat, by omega⟩
  obtain ⟨b, rfl⟩ : ∃ b : Nat, y = b := ⟨y.toNat, by omega⟩
  refine (Tryd.bits_Mul64 a b (by omega) (by omega) w).mono fun _ _ ⟨he, hw⟩ => ⟨?_, hw.symm⟩
  rw [he]
  rw [Int.natCast_ediv, Int.natCast_emod, Int.natCast_mul]
  rfl
set_option maxHeartbeats 1000000 in
theorem mul_any (a b : Int) (w : World) (ha : In64 a) (hb : In64 b) :
    Calls Tryd.prog 23 #[.int .i64 a, .int .i64 b] w fun e w' => e = .returned (.tuple #[.int .i64 (oneW (a * b)).1, .int .i64 (oneW (a * b)).2]) ∧ Below w.heap.size w w' := by
  obtain ⟨p1, p2⟩ := mul_bd ha hb
  have N := fun w => number_any (a * b) w (by omega) (by omega)
  obtain ⟨h1, h2⟩ := ha
  obtain ⟨h3, h4⟩ := hb
  obtain ⟨x, hx⟩ : ∃ x, IntKind.u64.wrap a = x := ⟨_, rfl⟩
  obtain ⟨y, hy⟩ : ∃ y, IntKind.u64.wrap b = y := ⟨_, rfl⟩
  have ex := hx
  have ey := hy
  rw [IntKind.wrap_u64] at ex ey
  have M := fun w => mul64_int x y (by omega) (by omega) (by omega) (by omega) w
  have key : ∃ hi lo : Int, x * y / 18446744073709551616 = hi ∧ x * y % 18446744073709551616 = lo ∧ lo = loW (a * b) ∧ 
      (a < 0 → b < 0 → ((hi - y) % 18446744073709551616 - x) % 18446744073709551616 = hiW (a * b)) ∧
      (a < 0 → ¬ b < 0 → (hi - y) % 18446744073709551616 = hiW (a * b)) ∧
      (¬ a < 0 → b < 0 → (hi - x) % 18446744073709551616 = hiW (a * b)) ∧
      (¬ a < 0 → ¬ b < 0 → hi = hiW (a * b)) := by
    refine ⟨_, _, rfl, rfl, ?_⟩
    unfold hiW loW
    by_cases a0 : a < 0 <;> by_cases b0 : b < 0
    · have e1 : x = a + 18446744073709551616 := by omega
      have e2 : y = b + 18446744073709551616 := by omega
      rw [e1, e2, Int.add_mul, Int.mul_add, Int.mul_add]
      generalize a * b = p at *
      omega
    · have e1 : x = a + 18446744073709551616 := by omega
      have e2 : y = b := by omega
      rw [e1, e2, Int.add_mul]
      generalize a * b = p at *
      omega
    · have e1 : x = a := by omega
      have e2 : y = b + 18446744073709551616 := by omega
      rw [e1, e2, Int.mul_add]
      generalize a * b = p at *
      omega
    · have e1 : x = a := by omega
      have e2 : y = b := by omega
      have p0 : 0 ≤ a * b := Int.mul_nonneg (by omega) (by omega)
      rw [e1, e2]
      generalize a * b = p at *
      omega
  obtain ⟨hi, lo, k1, k2, k3, k4, k5, k6, k7⟩ := key
  rw [k1, k2] at M
  rw [← k3] at N
  clear ex ey k1 k2 k3 p1 p2
  generalize hiW (a * b) = H at *
  generalize oneW (a * b) = r at *
  by_cases a0 : a < 0 <;> by_cases b0 : b < 0
  · obtain ⟨v, hv⟩ : ∃ v, IntKind.u64.wrap (hi - y) = v := ⟨_, rfl⟩
    have hH : IntKind.u64.wrap (v - x) = H := by rw [← hv, IntKind.wrap_u64, IntKind.wrap_u64]; exact k4 a0 b0
    clear k4 k5 k6 k7
    go_enter Tryd.func23, Tryd.ntmps23
    go_wp2_with (first | (go_at_call 34; refine (M _).mono ?_; rintro e w1 ⟨rfl, rfl⟩) | (go_at_call 33; refine (N _).mono ?_; rintro e w1 ⟨rfl, hb⟩; obtain ⟨hS, hE, hz, hc, hf⟩ := bcell hb; (try simp only [go_sem] at hE); subst hE) | (refine wp_region_quiet_below (by kernel_rfl) (by kernel_rfl) ?_; (repeat (first | go_big_quiet_step ((first | (go_at_call 34; exact Calls.regrown_of (below_of_same (M _))) | (go_at_call 33; exact Calls.regrown_of (N _)))) | quiet_step ((first | (go_at_call 34; exact Calls.regrown_of (below_of_same (M _))) | (go_at_call 33; exact Calls.regrown_of (N _)))))); refine wpQuiet_nil ?_; intro w1 hw1; have hb := below_of_regrown hw1; clear hw1; obtain ⟨hS, hE, hz, hc, hf⟩ := bcell hb; (try simp only [go_sem] at hE); subst hE))
    go_ret2
    exact ⟨rfl, (by repeat' (first | (with_reducible exact Below.refl _ _) | (with_reducible refine below_drewN ?_ _) | (with_reducible refine Below.drew ?_) | (with_reducible refine Below.alloc ?_ ?_ _) | (with_reducible refine Below.setCell ?_ ?_ _) | (with_reducible refine below_step ?_ (by assumption) ?_) | go_size))⟩
  · have hH : IntKind.u64.wrap (hi - y) = H := by rw [IntKind.wrap_u64]; exact k5 a0 b0
    clear k4 k5 k6 k7
    go_enter Tryd.func23, Tryd.ntmps23
    go_wp2_with (first | (go_at_call 34; refine (M _).mono ?_; rintro e w1 ⟨rfl, rfl⟩) | (go_at_call 33; refine (N _).mono ?_; rintro e w1 ⟨rfl, hb⟩; obtain ⟨hS, hE, hz, hc, hf⟩ := bcell hb; (try simp only [go_sem] at hE); subst hE) | (refine wp_region_quiet_below (by kernel_rfl) (by kernel_rfl) ?_; (repeat (first | go_big_quiet_step ((first | (go_at_call 34; exact Calls.regrown_of (below_of_same (M _))) | (go_at_call 33; exact Calls.regrown_of (N _)))) | quiet_step ((first | (go_at_call 34; exact Calls.regrown_of (below_of_same (M _))) | (go_at_call 33; exact Calls.regrown_of (N _)))))); refine wpQuiet_nil ?_; intro w1 hw1; have hb := below_of_regrown hw1; clear hw1; obtain ⟨hS, hE, hz, hc, hf⟩ := bcell hb; (try simp only [go_sem] at hE); subst hE))
    go_ret2
    exact ⟨rfl, (by repeat' (first | (with_reducible exact Below.refl _ _) | (with_reducible refine below_drewN ?_ _) | (with_reducible refine Below.drew ?_) | (with_reducible refine Below.alloc ?_ ?_ _) | (with_reducible refine Below.setCell ?_ ?_ _) | (with_reducible refine below_step ?_ (by assumption) ?_) | go_size))⟩
  · have hH : IntKind.u64.wrap (hi - x) = H := by rw [IntKind.wrap_u64]; exact k6 a0 b0
    clear k4 k5 k6 k7
    go_enter Tryd.func23, Tryd.ntmps23
    go_wp2_with (first | (go_at_call 34; refine (M _).mono ?_; rintro e w1 ⟨rfl, rfl⟩) | (go_at_call 33; refine (N _).mono ?_; rintro e w1 ⟨rfl, hb⟩; obtain ⟨hS, hE, hz, hc, hf⟩ := bcell hb; (try simp only [go_sem] at hE); subst hE) | (refine wp_region_quiet_below (by kernel_rfl) (by kernel_rfl) ?_; (repeat (first | go_big_quiet_step ((first | (go_at_call 34; exact Calls.regrown_of (below_of_same (M _))) | (go_at_call 33; exact Calls.regrown_of (N _)))) | quiet_step ((first | (go_at_call 34; exact Calls.regrown_of (below_of_same (M _))) | (go_at_call 33; exact Calls.regrown_of (N _)))))); refine wpQuiet_nil ?_; intro w1 hw1; have hb := below_of_regrown hw1; clear hw1; obtain ⟨hS, hE, hz, hc, hf⟩ := bcell hb; (try simp only [go_sem] at hE); subst hE))
    go_ret2
    exact ⟨rfl, (by repeat' (first | (with_reducible exact Below.refl _ _) | (with_reducible refine below_drewN ?_ _) | (with_reducible refine Below.drew ?_) | (with_reducible refine Below.alloc ?_ ?_ _) | (with_reducible refine Below.setCell ?_ ?_ _) | (with_reducible refine below_step ?_ (by assumption) ?_) | go_size))⟩
  · have hH := k7 a0 b0
    subst hH
    clear k4 k5 k6 k7
    go_enter Tryd.func23, Tryd.ntmps23
    go_wp2_with (first | (go_at_call 34; refine (M _).mono ?_; rintro e w1 ⟨rfl, rfl⟩) | (go_at_call 33; refine (N _).mono ?_; rintro e w1 ⟨rfl, hb⟩; obtain ⟨hS, hE, hz, hc, hf⟩ := bcell hb; (try simp only [go_sem] at hE); subst hE) | (refine wp_region_quiet_below (by kernel_rfl) (by kernel_rfl) ?_; (repeat (first | go_big_quiet_step ((first | (go_at_call 34; exact Calls.regrown_of (below_of_same (M _))) | (go_at_call 33; exact Calls.regrown_of (N _)))) | quiet_step ((first | (go_at_call 34; exact Calls.regrown_of (below_of_same (M _))) | (go_at_call 33; exact Calls.regrown_of (N _)))))); refine wpQuiet_nil ?_; intro w1 hw1; have hb := below_of_regrown hw1; clear hw1; obtain ⟨hS, hE, hz, hc, hf⟩ := bcell hb; (try simp only [go_sem] at hE); subst hE))
    go_ret2
    exact ⟨rfl, (by repeat' (first | (with_reducible exact Below.refl _ _) | (with_reducible refine below_drewN ?_ _) | (with_reducible refine Below.drew ?_) | (with_reducible refine Below.alloc ?_ ?_ _) | (with_reducible refine Below.setCell ?_ ?_ _) | (with_reducible refine below_step ?_ (by assumption) ?_) | go_size))⟩
theorem size_le {a : Int} (h : In64 a) : a.natAbs ≤ 9223372036854775808 := by
  obtain ⟨h1, h2⟩ := h
  omega
/-- The comparison that the reference makes is the one of the product. -/
theorem over_iff {X Y E : Nat} (hY : 0 < Y) : E / Y < X ↔ E < X * Y := by
  rw [← Nat.not_le, Nat.le_div_iff_mul_le hY, Nat.not_le]
set_option maxHeartbeats 1000000 in
theorem rmul_neg (a b : Int) (X Y : Nat) (w : World) (hx0 : 0 < X) (hy0 : 0 < Y) (hx1 : X ≤ 9223372036854775808) (hy1 : Y ≤ 9223372036854775808) (hX : ∀ w, Calls Tryd.prog 30 #[.int .i64 a] w fun e w' => e = .returned (.int .u64 X) ∧ w = w') (hY : ∀ w, Calls Tryd.prog 30 #[.int .i64 b] w fun e w' => e = .returned (.int .u64 Y) ∧ w = w')
    (hs : decide (a < 0) ≠ decide (b < 0)) :
    Calls Tryd.prog 26 #[.int .i64 a, .int .i64 b] w fun e w' => e = .returned (.tuple #[.int .i64 (oneW (-((X * Y : Nat) : Int))).1, .int .i64 (oneW (-((X * Y : Nat) : Int))).2]) ∧ w = w' := by
  obtain ⟨q, hq⟩ : ∃ q, 9223372036854775808 / Y = q := ⟨_, rfl⟩
  have hov := over_iff (X := X) (E := 9223372036854775808) hy0
  rw [hq] at hov
  have dq : Int.tdiv 9223372036854775808 (Y : Int) = q := by rw [← hq, Int.tdiv_eq_ediv_of_nonneg (by omega)]; rfl
  have dq2 : (9223372036854775808 : Int) / (Y : Int) = q := by rw [← hq]; rfl
  have hql : q ≤ 9223372036854775808 := by rw [← hq]; exact Nat.div_le_self _ _
  have wq : IntKind.u64.wrap (q : Int) = q := by rw [IntKind.wrap_u64]; omega
  have hq := hide hq
  have x0 : ((X : Int) == 0) = false := by rw [beq_eq_false_iff_ne]; omega
  have y0 : ((Y : Int) == 0) = false := by rw [beq_eq_false_iff_ne]; omega
  have yn : (Y : Int) ≠ 0 := by omega
  have em : ((X : Int) * (Y : Int)) = ((X * Y : Nat) : Int) := by rw [Int.natCast_mul]
  have epos : 0 < X * Y := Nat.mul_pos hx0 hy0
  generalize X * Y = z at *
  by_cases ho : q < X
  · have hz := hov.1 ho
    have HO : Hid (oneW (-(z : Int)) = (0, 4)) := hide (if_neg (by omega))
    generalize oneW (-(z : Int)) = r at *
    clear hov em
    cases ga : decide (a < 0) <;> cases gb : decide (b < 0)
    all_goals first | (exfalso; rw [ga, gb] at hs; revert hs; decide) | skip
    all_goals
      clear hs
      go_enter Tryd.func26, Tryd.ntmps26
      go_wp2_with (first | (go_at_call 30; (with_reducible refine (hX _).mono ?_); rintro e w1 ⟨rfl, rfl⟩) | (go_at_call 30; (with_reducible refine (hY _).mono ?_); rintro e w1 ⟨rfl, rfl⟩) | (refine wp_region_quiet_below (by kernel_rfl) (by kernel_rfl) ?_; (repeat (first | go_big_quiet_step ((first | (go_at_call 30; (with_reducible refine Calls.regrown_of (below_of_same (hX _)));) | (go_at_call 30; (with_reducible refine Calls.regrown_of (below_of_same (hY _)));))) | quiet_step ((first | (go_at_call 30; (with_reducible refine Calls.regrown_of (below_of_same (hX _)));) | (go_at_call 30; (with_reducible refine Calls.regrown_of (below_of_same (hY _)));))))); refine wpQuiet_nil ?_; intro w1 hw1; have hb := below_of_regrown hw1; clear hw1; obtain ⟨hS, hE, hz, hc, hf⟩ := bcell hb; (try simp only [go_sem] at hE); subst hE))
      go_ret2
      exact ⟨by rw [HO.out]; rfl, rfl⟩
  · have hz : z ≤ 9223372036854775808 := Nat.not_lt.1 fun h => ho (hov.2 h)
    have HO : Hid (oneW (-(z : Int)) = (-(z : Int), 0)) := hide (if_pos (by omega))
    generalize oneW (-(z : Int)) = r at *
    clear hov
    have w1 : IntKind.u64.wrap (z : Int) = z := by rw [IntKind.wrap_u64]; omega
    have w2 : IntKind.u64.wrap ((z : Int) - 1) = (z : Int) - 1 := by rw [IntKind.wrap_u64]; omega
    have w3 : IntKind.i64.wrap ((z : Int) - 1) = (z : Int) - 1 := IntWalk.i64_in _ (by omega)
    have w4 : IntKind.i64.wrap (-((z : Int) - 1)) = -((z : Int) - 1) := IntWalk.i64_in _ (by omega)
    have w5 : IntKind.i64.wrap (-((z : Int) - 1) - 1) = -(z : Int) := by rw [show -((z : Int) - 1) - 1 = -(z : Int) by omega]; exact IntWalk.i64_in _ (by omega)
    cases ga : decide (a < 0) <;> cases gb : decide (b < 0)
    all_goals first | (exfalso; rw [ga, gb] at hs; revert hs; decide) | skip
    all_goals
      clear hs
      go_enter Tryd.func26, Tryd.ntmps26
      go_wp2_with (first | (go_at_call 30; (with_reducible refine (hX _).mono ?_); rintro e w1 ⟨rfl, rfl⟩) | (go_at_call 30; (with_reducible refine (hY _).mono ?_); rintro e w1 ⟨rfl, rfl⟩) | (refine wp_region_quiet_below (by kernel_rfl) (by kernel_rfl) ?_; (repeat (first | go_big_quiet_step ((first | (go_at_call 30; (with_reducible refine Calls.regrown_of (below_of_same (hX _)));) | (go_at_call 30; (with_reducible refine Calls.regrown_of (below_of_same (hY _)));))) | quiet_step ((first | (go_at_call 30; (with_reducible refine Calls.regrown_of (below_of_same (hX _)));) | (go_at_call 30; (with_reducible refine Calls.regrown_of (below_of_same (hY _)));))))); refine wpQuiet_nil ?_; intro w1 hw1; have hb := below_of_regrown hw1; clear hw1; obtain ⟨hS, hE, hz, hc, hf⟩ := bcell hb; (try simp only [go_sem] at hE); subst hE))
      go_ret2
      exact ⟨by rw [HO.out]; rfl, rfl⟩
set_option maxHeartbeats 1000000 in
theorem rmul_pos (a b : Int) (X Y : Nat) (w : World) (hx0 : 0 < X) (hy0 : 0 < Y) (hx1 : X ≤ 9223372036854775808) (hy1 : Y ≤ 9223372036854775808) (hX : ∀ w, Calls Tryd.prog 30 #[.int .i64 a] w fun e w' => e = .returned (.int .u64 X) ∧ w = w') (hY : ∀ w, Calls Tryd.prog 30 #[.int .i64 b] w fun e w' => e = .returned (.int .u64 Y) ∧ w = w')
    (hs : decide (a < 0) = decide (b < 0)) :
    Calls Tryd.prog 26 #[.int .i64 a, .int .i64 b] w fun e w' => e = .returned (.tuple #[.int .i64 (oneW (((X * Y : Nat) : Int))).1, .int .i64 (oneW (((X * Y : Nat) : Int))).2]) ∧ w = w' := by
  obtain ⟨q, hq⟩ : ∃ q, 9223372036854775807 / Y = q := ⟨_, rfl⟩
  have hov := over_iff (X := X) (E := 9223372036854775807) hy0
  rw [hq] at hov
  have dq : Int.tdiv 9223372036854775807 (Y : Int) = q := by rw [← hq, Int.tdiv_eq_ediv_of_nonneg (by omega)]; rfl
  have dq2 : (9223372036854775807 : Int) / (Y : Int) = q := by rw [← hq]; rfl
  have hql : q ≤ 9223372036854775807 := by rw [← hq]; exact Nat.div_le_self _ _
  have wq : IntKind.u64.wrap (q : Int) = q := by rw [IntKind.wrap_u64]; omega
  have hq := hide hq
  have x0 : ((X : Int) == 0) = false := by rw [beq_eq_false_iff_ne]; omega
  have y0 : ((Y : Int) == 0) = false := by rw [beq_eq_false_iff_ne]; omega
  have yn : (Y : Int) ≠ 0 := by omega
  have em : ((X : Int) * (Y : Int)) = ((X * Y : Nat) : Int) := by rw [Int.natCast_mul]
  have epos : 0 < X * Y := Nat.mul_pos hx0 hy0
  generalize X * Y = z at *
  by_cases ho : q < X
  · have hz := hov.1 ho
    have HO : Hid (oneW ((z : Int)) = (0, 4)) := hide (if_neg (by omega))
    generalize oneW ((z : Int)) = r at *
    clear hov em
    cases ga : decide (a < 0) <;> cases gb : decide (b < 0)
    all_goals first | (exfalso; rw [ga, gb] at hs; revert hs; decide) | skip
    all_goals
      clear hs
      go_enter Tryd.func26, Tryd.ntmps26
      go_wp2_with (first | (go_at_call 30; (with_reducible refine (hX _).mono ?_); rintro e w1 ⟨rfl, rfl⟩) | (go_at_call 30; (with_reducible refine (hY _).mono ?_); rintro e w1 ⟨rfl, rfl⟩) | (refine wp_region_quiet_below (by kernel_rfl) (by kernel_rfl) ?_; (repeat (first | go_big_quiet_step ((first | (go_at_call 30; (with_reducible refine Calls.regrown_of (below_of_same (hX _)));) | (go_at_call 30; (with_reducible refine Calls.regrown_of (below_of_same (hY _)));))) | quiet_step ((first | (go_at_call 30; (with_reducible refine Calls.regrown_of (below_of_same (hX _)));) | (go_at_call 30; (with_reducible refine Calls.regrown_of (below_of_same (hY _)));))))); refine wpQuiet_nil ?_; intro w1 hw1; have hb := below_of_regrown hw1; clear hw1; obtain ⟨hS, hE, hz, hc, hf⟩ := bcell hb; (try simp only [go_sem] at hE); subst hE))
      go_ret2
      exact ⟨by rw [HO.out]; rfl, rfl⟩
  · have hz : z ≤ 9223372036854775807 := Nat.not_lt.1 fun h => ho (hov.2 h)
    have HO : Hid (oneW ((z : Int)) = ((z : Int), 0)) := hide (if_pos (by omega))
    generalize oneW ((z : Int)) = r at *
    clear hov
    have w1 : IntKind.u64.wrap (z : Int) = z := by rw [IntKind.wrap_u64]; omega
    have w2 : IntKind.i64.wrap (z : Int) = z := IntWalk.i64_in _ (by omega)
    cases ga : decide (a < 0) <;> cases gb : decide (b < 0)
    all_goals first | (exfalso; rw [ga, gb] at hs; revert hs; decide) | skip
    all_goals
      clear hs
      go_enter Tryd.func26, Tryd.ntmps26
      go_wp2_with (first | (go_at_call 30; (with_reducible refine (hX _).mono ?_); rintro e w1 ⟨rfl, rfl⟩) | (go_at_call 30; (with_reducible refine (hY _).mono ?_); rintro e w1 ⟨rfl, rfl⟩) | (refine wp_region_quiet_below (by kernel_rfl) (by kernel_rfl) ?_; (repeat (first | go_big_quiet_step ((first | (go_at_call 30; (with_reducible refine Calls.regrown_of (below_of_same (hX _)));) | (go_at_call 30; (with_reducible refine Calls.regrown_of (below_of_same (hY _)));))) | quiet_step ((first | (go_at_call 30; (with_reducible refine Calls.regrown_of (below_of_same (hX _)));) | (go_at_call 30; (with_reducible refine Calls.regrown_of (below_of_same (hY _)));))))); refine wpQuiet_nil ?_; intro w1 hw1; have hb := below_of_regrown hw1; clear hw1; obtain ⟨hS, hE, hz, hc, hf⟩ := bcell hb; (try simp only [go_sem] at hE); subst hE))
      go_ret2
      exact ⟨by rw [HO.out]; rfl, rfl⟩
theorem rmul_zero (a b : Int) (X Y : Nat) (w : World) (h0 : X = 0 ∨ (X ≠ 0 ∧ Y = 0)) (hX : ∀ w, Calls Tryd.prog 30 #[.int .i64 a] w fun e w' => e = .returned (.int .u64 X) ∧ w = w') (hY : ∀ w, Calls Tryd.prog 30 #[.int .i64 b] w fun e w' => e = .returned (.int .u64 Y) ∧ w = w') :
    Calls Tryd.prog 26 #[.int .i64 a, .int .i64 b] w fun e w' => e = .returned (.tuple #[.int .i64 0, .int .i64 0]) ∧ w = w' := by
  rcases h0 with rfl | ⟨h1, rfl⟩
  · go_enter Tryd.func26, Tryd.ntmps26
    go_wp2_with (first | (go_at_call 30; (with_reducible refine (hX _).mono ?_); rintro e w1 ⟨rfl, rfl⟩) | (go_at_call 30; (with_reducible refine (hY _).mono ?_); rintro e w1 ⟨rfl, rfl⟩) | (refine wp_region_quiet_below (by kernel_rfl) (by kernel_rfl) ?_; (repeat (first | go_big_quiet_step ((first | (go_at_call 30; (with_reducible refine Calls.regrown_of (below_of_same (hX _)));) | (go_at_call 30; (with_reducible refine Calls.regrown_of (below_of_same (hY _)));))) | quiet_step ((first | (go_at_call 30; (with_reducible refine Calls.regrown_of (below_of_same (hX _)));) | (go_at_call 30; (with_reducible refine Calls.regrown_of (below_of_same (hY _)));))))); refine wpQuiet_nil ?_; intro w1 hw1; have hb := below_of_regrown hw1; clear hw1; obtain ⟨hS, hE, hz, hc, hf⟩ := bcell hb; (try simp only [go_sem] at hE); subst hE))
    go_ret2
    exact ⟨rfl, rfl⟩
  · have x0 : ((X : Int) == 0) = false := by rw [beq_eq_false_iff_ne]; omega
    go_enter Tryd.func26, Tryd.ntmps26
    go_wp2_with (first | (go_at_call 30; (with_reducible refine (hX _).mono ?_); rintro e w1 ⟨rfl, rfl⟩) | (go_at_call 30; (with_reducible refine (hY _).mono ?_); rintro e w1 ⟨rfl, rfl⟩) | (refine wp_region_quiet_below (by kernel_rfl) (by kernel_rfl) ?_; (repeat (first | go_big_quiet_step ((first | (go_at_call 30; (with_reducible refine Calls.regrown_of (below_of_same (hX _)));) | (go_at_call 30; (with_reducible refine Calls.regrown_of (below_of_same (hY _)));))) | quiet_step ((first | (go_at_call 30; (with_reducible refine Calls.regrown_of (below_of_same (hX _)));) | (go_at_call 30; (with_reducible refine Calls.regrown_of (below_of_same (hY _)));))))); refine wpQuiet_nil ?_; intro w1 hw1; have hb := below_of_regrown hw1; clear hw1; obtain ⟨hS, hE, hz, hc, hf⟩ := bcell hb; (try simp only [go_sem] at hE); subst hE))
    go_ret2
    exact ⟨rfl, rfl⟩
theorem rmul_any (a b : Int) (w : World) (ha : In64 a) (hb : In64 b) :
    Calls Tryd.prog 26 #[.int .i64 a, .int .i64 b] w fun e w' => e = .returned (.tuple #[.int .i64 (oneW (a * b)).1, .int .i64 (oneW (a * b)).2]) ∧ w = w' := by
  have hX := fun w => size_any a ha w
  have hY := fun w => size_any b hb w
  have lx := size_le ha
  have ly := size_le hb
  by_cases h0 : a = 0 ∨ b = 0
  · have e : a * b = 0 := by rcases h0 with rfl | rfl <;> simp
    rw [e]
    exact rmul_zero a b _ _ w (by omega) hX hY
  · have e := Int.natAbs_mul a b
    by_cases hs : decide (a < 0) = decide (b < 0)
    · have e2 : a * b = ((a.natAbs * b.natAbs : Nat) : Int) := by
        have : 0 ≤ a * b := by
          by_cases a0 : a < 0
          · have b0 : b < 0 := by simpa [a0] using hs
            have := Int.mul_nonneg_of_nonpos_of_nonpos (show a ≤ 0 by omega) (show b ≤ 0 by omega)
            exact this
          · have b0 : ¬ b < 0 := by simpa [a0] using hs
            exact Int.mul_nonneg (by omega) (by omega)
        omega
      rw [e2]
      exact rmul_pos a b _ _ w (by omega) (by omega) lx ly hX hY hs
    · have e2 : a * b = -((a.natAbs * b.natAbs : Nat) : Int) := by
        have : a * b ≤ 0 := by
          by_cases a0 : a < 0
          · have b0 : ¬ b < 0 := by simpa [a0] using hs
            exact Int.mul_nonpos_of_nonpos_of_nonneg (show a ≤ 0 by omega) (show 0 ≤ b by omega)
          · have b0 : b < 0 := by simpa [a0] using hs
            exact Int.mul_nonpos_of_nonneg_of_nonpos (show 0 ≤ a by omega) (show b ≤ 0 by omega)
        omega
      rw [e2]
      exact rmul_neg a b _ _ w (by omega) (by omega) lx ly hX hY hs
end Go.Proofs.YtbgakceljbigjaaDoor.Num
