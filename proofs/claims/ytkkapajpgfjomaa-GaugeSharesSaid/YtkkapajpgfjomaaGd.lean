/- The middle of any floats, by the program and by the reference. No condition. -/
import Derived.Test.YtkkapajpgfjomaaGc
namespace Go.Proofs.Ytkkapajpgfjomaa.Gauge
open Go.ChangeShapes Go.WideShapes Go.ChangeAt Go.RowKit Go.Proofs.Ytkkapajpgfjomaa.Kit Go.Proofs.Ytkkapajpgfjomaa.Flt Go.Proofs.Ytkkapajpgfjomaa.Real Go.Proofs.Ytkkapajpgfjomaa.Mem Go.Deep
open Ieee
set_option linter.unusedVariables false
set_option linter.unusedSimpArgs false
def halfO (a b : Nat) : Option Nat := ((double.sub b a).bind fun d => double.div d 4611686018427387904).bind fun h => double.add a h
def midO (N : List Nat) : Option Nat := if N.length = 0 then none else if N.length % 2 = 1 then some (N.getD (N.length / 2) 0) else halfO (N.getD (N.length / 2 - 1) 0) (N.getD (N.length / 2) 0)
/-- How the three operations of a half between two floats come out. -/
theorem half_cases (a b : Nat) : (double.sub b a = none ∧ halfO a b = none) ∨ (∃ d, double.sub b a = some d ∧ double.div d 4611686018427387904 = none ∧ halfO a b = none) ∨
    (∃ d h, double.sub b a = some d ∧ double.div d 4611686018427387904 = some h ∧ double.add a h = none ∧ halfO a b = none) ∨ (∃ d h z, double.sub b a = some d ∧ double.div d 4611686018427387904 = some h ∧ double.add a h = some z ∧ halfO a b = some z) := by
  unfold halfO
  cases h1 : double.sub b a with
  | none => exact .inl ⟨rfl, rfl⟩
  | some d =>
    cases h2 : double.div d 4611686018427387904 with
    | none => exact .inr (.inl ⟨d, rfl, h2, by simp [h2]⟩)
    | some h =>
      cases h3 : double.add a h with
      | none => exact .inr (.inr (.inl ⟨d, h, rfl, h2, h3, by simp [h2, h3]⟩))
      | some z => exact .inr (.inr (.inr ⟨d, h, z, rfl, h2, h3, by simp [h2, h3]⟩))
theorem mid_zero {N : List Nat} (h : N.length = 0) : midO N = none := if_pos h
theorem mid_odd {N : List Nat} {t : Nat} (h : N.length = 2 * t + 1) : midO N = some (N.getD t 0) := by
  unfold midO
  rw [if_neg (by omega), if_pos (by omega), show N.length / 2 = t by omega]
theorem mid_even {N : List Nat} {t : Nat} (h : N.length = 2 * t + 2) : midO N = halfO (N.getD t 0) (N.getD (t + 1) 0) := by
  unfold midO
  rw [if_neg (by omega), if_neg (by omega), show N.length / 2 - 1 = t by omega, show N.length / 2 = t + 1 by omega]
set_option maxHeartbeats 4000000 in
theorem middle_any {w : World} {B n c : Nat} {A : Option Addr} {l : List Nat} (hr : SRow encF 1 w B A n l) (hB : B ≤ w.heap.size) (hn : n ≤ 100000) (hfit : ∀ z ∈ l, z < 18446744073709551616) :
    Calls Try.prog 16 #[.slice A n c] w (FltPost w (midO (numsV l))) := by
  have M1 := numbers_any hr hB hn hfit (c := c)
  have e1 := hr.1
  subst e1
  obtain ⟨f1, f2, f3, f4⟩ := nums_facts l hfit
  have cN := fun w => nan_any w
  clear hr hfit f2 f3
  unfold NumsPost at M1
  generalize numsV l = N at *
  have hF : ∀ j, N.getD j 0 < 18446744073709551616 := fun j => by
    by_cases hj : j < N.length
    · rw [List.getD_eq_getElem?_getD, List.getElem?_eq_getElem hj]
      exact f4 _ (List.getElem_mem hj)
    · rw [List.getD_eq_getElem?_getD, List.getElem?_eq_none (by omega)]
      decide
  clear f4
  by_cases h0 : N.length = 0
  · have hM := hide (mid_zero h0)
    rw [h0] at M1
    go_enter Try.func16, Try.ntmps16
    go_wp2_with (first | (go_at_call 28; refine M1.mono ?_; rintro e w1 ⟨A1, c1, rfl, k1, hc1', hm1', hb1⟩; obtain ⟨hS1, hE1, hz1, hc1, hf1⟩ := bcell hb1; (try simp only [go_sem] at hE1); subst hE1) | (go_at_call 25; refine (cN _).mono ?_; rintro e w2 ⟨rfl, rfl⟩))
    go_ret
    exact ⟨_, rfl, by rw [hM.out]; exact ⟨by decide, nan_lit⟩, hb1⟩
  rcases Nat.mod_two_eq_zero_or_one N.length with hp | hp
  · obtain ⟨t, ht⟩ : ∃ t, N.length = 2 * t + 2 := ⟨N.length / 2 - 1, by omega⟩
    have hM := hide (mid_even ht)
    have ha := hF t
    have hb := hF (t + 1)
    have hte : t ≤ 100000 := by omega
    have p1 : Int.tmod (2 * (t : Int) + 2) 2 = 0 := by rw [Int.tmod_eq_emod_of_nonneg (by omega)]; omega
    have p2 : Int.tdiv (2 * (t : Int) + 2) 2 = (t : Int) + 1 := by rw [Int.tdiv_eq_ediv_of_nonneg (by omega)]; omega
    have HG : Hid (∀ (w1 : World) (A1 : Option Addr), SRow encF 1 w1 w1.heap.size A1 (2 * t + 2) N → ∃ b off, A1 = some ⟨b, off, none⟩ ∧ b < w1.heap.size ∧ w1.cell? ⟨b, off + t, none⟩ = some (.float .f64 (N.getD t 0)) ∧ w1.cell? ⟨b, off + (t + 1), none⟩ = some (.float .f64 (N.getD (t + 1) 0))) := hide (fun w1 A1 k1 => by
      obtain ⟨b, off, e, hb, hc⟩ := frow_cells k1 (by omega)
      exact ⟨b, off, e, hb, hc t (by omega), hc (t + 1) (by omega)⟩)
    rw [ht] at M1
    clear hp h0 ht hF
    generalize N.getD t 0 = a at *
    generalize N.getD (t + 1) 0 = b at *
    rcases half_cases a b with ⟨h1, h4⟩ | ⟨d, h1, h2, h4⟩ | ⟨d, h, h1, h2, h3, h4⟩ | ⟨d, h, z, h1, h2, h3, h4⟩
    · have q1 := fun t (w : World) => run_bad_sub (P := Try.prog) h1 t w
      have q2 := fun w' t (w : World) => run_bad_quo (P := Try.prog) (x := nanZ w' b a) (y := 4611686018427387904) (div_nan _ (nanZ_nan _ _ _)) t w
      have q3 := fun w' w'' t (w : World) => run_bad_add (P := Try.prog) (x := a) (y := nanZ w'' (nanZ w' b a) 4611686018427387904) (add_nan2 _ (nanZ_nan _ _ _)) t w
      have HH := hide (hM.out.trans h4)
      clear hM h1 h4
      go_enter Try.func16, Try.ntmps16
      go_wp2_with (go_at_call 28; refine M1.mono ?_; rintro e w1 ⟨A1, c1, rfl, k1, hc1', hm1', hb1⟩; obtain ⟨hS1, hE1, hz1, hc1, hf1⟩ := bcell hb1; (try simp only [go_sem] at hE1); subst hE1)
      obtain ⟨b0, off0, rfl, hbb, d0, d1⟩ := HG.out _ _ k1
      go_wp2_with (first | ((with_reducible change Code.wp _ (Code.region _ _ _) _ _ _); refine wp_region_quiet_below (by kernel_rfl) (by kernel_rfl) ?_; (repeat (first | go_big_quiet_step (fail) | quiet_step (fail))); refine wpQuiet_nil ?_; intro w1 hw1; have hb := below_of_regrown hw1; clear hw1; obtain ⟨hS, hE, hz, hc, hf⟩ := bcell hb; (try simp only [go_sem] at hE); subst hE))
      go_ret
      exact ⟨_, rfl, by rw [HH.out]; exact isO_nanZ _ _ _, (by repeat' (first | (with_reducible exact Below.refl _ _) | (with_reducible refine below_drewN ?_ _) | (with_reducible refine Below.drew ?_) | (with_reducible refine Below.alloc ?_ ?_ _) | (with_reducible refine Below.setCell ?_ ?_ _) | (with_reducible refine below_step ?_ (by assumption) ?_) | (with_reducible refine below_step ?_ (below_regrown _ _ _) ?_) | go_size))⟩
    · have q1 := fun t (w : World) => run_ok_sub (P := Try.prog) h1 t w
      have q2 := fun t (w : World) => run_bad_quo (P := Try.prog) h2 t w
      have q3 := fun w' t (w : World) => run_bad_add (P := Try.prog) (x := a) (y := nanZ w' d 4611686018427387904) (add_nan2 _ (nanZ_nan _ _ _)) t w
      have HH := hide (hM.out.trans h4)
      clear hM h1 h2 h4
      go_enter Try.func16, Try.ntmps16
      go_wp2_with (go_at_call 28; refine M1.mono ?_; rintro e w1 ⟨A1, c1, rfl, k1, hc1', hm1', hb1⟩; obtain ⟨hS1, hE1, hz1, hc1, hf1⟩ := bcell hb1; (try simp only [go_sem] at hE1); subst hE1)
      obtain ⟨b0, off0, rfl, hbb, d0, d1⟩ := HG.out _ _ k1
      go_wp2_with (first | ((with_reducible change Code.wp _ (Code.region _ _ _) _ _ _); refine wp_region_quiet_below (by kernel_rfl) (by kernel_rfl) ?_; (repeat (first | go_big_quiet_step (fail) | quiet_step (fail))); refine wpQuiet_nil ?_; intro w1 hw1; have hb := below_of_regrown hw1; clear hw1; obtain ⟨hS, hE, hz, hc, hf⟩ := bcell hb; (try simp only [go_sem] at hE); subst hE))
      go_ret
      exact ⟨_, rfl, by rw [HH.out]; exact isO_nanZ _ _ _, (by repeat' (first | (with_reducible exact Below.refl _ _) | (with_reducible refine below_drewN ?_ _) | (with_reducible refine Below.drew ?_) | (with_reducible refine Below.alloc ?_ ?_ _) | (with_reducible refine Below.setCell ?_ ?_ _) | (with_reducible refine below_step ?_ (by assumption) ?_) | (with_reducible refine below_step ?_ (below_regrown _ _ _) ?_) | go_size))⟩
    · have q1 := fun t (w : World) => run_ok_sub (P := Try.prog) h1 t w
      have q2 := fun t (w : World) => run_ok_quo (P := Try.prog) h2 t w
      have q3 := fun t (w : World) => run_bad_add (P := Try.prog) h3 t w
      have HH := hide (hM.out.trans h4)
      clear hM h1 h2 h3 h4
      go_enter Try.func16, Try.ntmps16
      go_wp2_with (go_at_call 28; refine M1.mono ?_; rintro e w1 ⟨A1, c1, rfl, k1, hc1', hm1', hb1⟩; obtain ⟨hS1, hE1, hz1, hc1, hf1⟩ := bcell hb1; (try simp only [go_sem] at hE1); subst hE1)
      obtain ⟨b0, off0, rfl, hbb, d0, d1⟩ := HG.out _ _ k1
      go_wp2_with (first | ((with_reducible change Code.wp _ (Code.region _ _ _) _ _ _); refine wp_region_quiet_below (by kernel_rfl) (by kernel_rfl) ?_; (repeat (first | go_big_quiet_step (fail) | quiet_step (fail))); refine wpQuiet_nil ?_; intro w1 hw1; have hb := below_of_regrown hw1; clear hw1; obtain ⟨hS, hE, hz, hc, hf⟩ := bcell hb; (try simp only [go_sem] at hE); subst hE))
      go_ret
      exact ⟨_, rfl, by rw [HH.out]; exact isO_nanZ _ _ _, (by repeat' (first | (with_reducible exact Below.refl _ _) | (with_reducible refine below_drewN ?_ _) | (with_reducible refine Below.drew ?_) | (with_reducible refine Below.alloc ?_ ?_ _) | (with_reducible refine Below.setCell ?_ ?_ _) | (with_reducible refine below_step ?_ (by assumption) ?_) | (with_reducible refine below_step ?_ (below_regrown _ _ _) ?_) | go_size))⟩
    · have q1 := fun t (w : World) => run_ok_sub (P := Try.prog) h1 t w
      have q2 := fun t (w : World) => run_ok_quo (P := Try.prog) h2 t w
      have q3 := fun t (w : World) => run_ok_add (P := Try.prog) h3 t w
      have HH := hide (hM.out.trans h4)
      have hzl := add_lt h3
      clear hM h1 h2 h3 h4
      go_enter Try.func16, Try.ntmps16
      go_wp2_with (go_at_call 28; refine M1.mono ?_; rintro e w1 ⟨A1, c1, rfl, k1, hc1', hm1', hb1⟩; obtain ⟨hS1, hE1, hz1, hc1, hf1⟩ := bcell hb1; (try simp only [go_sem] at hE1); subst hE1)
      obtain ⟨b0, off0, rfl, hbb, d0, d1⟩ := HG.out _ _ k1
      go_wp2_with (first | ((with_reducible change Code.wp _ (Code.region _ _ _) _ _ _); refine wp_region_quiet_below (by kernel_rfl) (by kernel_rfl) ?_; (repeat (first | go_big_quiet_step (fail) | quiet_step (fail))); refine wpQuiet_nil ?_; intro w1 hw1; have hb := below_of_regrown hw1; clear hw1; obtain ⟨hS, hE, hz, hc, hf⟩ := bcell hb; (try simp only [go_sem] at hE); subst hE))
      go_ret
      exact ⟨_, rfl, by rw [HH.out]; exact isO_some hzl, (by repeat' (first | (with_reducible exact Below.refl _ _) | (with_reducible refine below_drewN ?_ _) | (with_reducible refine Below.drew ?_) | (with_reducible refine Below.alloc ?_ ?_ _) | (with_reducible refine Below.setCell ?_ ?_ _) | (with_reducible refine below_step ?_ (by assumption) ?_) | (with_reducible refine below_step ?_ (below_regrown _ _ _) ?_) | go_size))⟩
  · obtain ⟨t, ht⟩ : ∃ t, N.length = 2 * t + 1 := ⟨N.length / 2, by omega⟩
    have hM := hide (mid_odd ht)
    have ha := hF t
    have hte : t ≤ 100000 := by omega
    generalize N.length = nn at *
    have hi : t < nn := by omega
    have hnn : ((nn : Int) == 0) = false := beq_eq_false_iff_ne.2 (by omega)
    have p1 : Int.tmod (nn : Int) 2 = 1 := by rw [Int.tmod_eq_emod_of_nonneg (by omega)]; omega
    have p2 : Int.tdiv (nn : Int) 2 = (t : Int) := by rw [Int.tdiv_eq_ediv_of_nonneg (by omega)]; omega
    have HG : Hid (∀ (w1 : World) (A1 : Option Addr), SRow encF 1 w1 w1.heap.size A1 nn N → ∃ b off, A1 = some ⟨b, off, none⟩ ∧ b < w1.heap.size ∧ w1.cell? ⟨b, off + t, none⟩ = some (.float .f64 (N.getD t 0))) := hide (fun w1 A1 k1 => by
      obtain ⟨b, off, e, hb, hc⟩ := frow_cells k1 (by omega)
      exact ⟨b, off, e, hb, hc t (by omega)⟩)
    clear hp h0 ht hF
    generalize N.getD t 0 = a at *
    go_enter Try.func16, Try.ntmps16
    go_wp2_with (go_at_call 28; refine M1.mono ?_; rintro e w1 ⟨A1, c1, rfl, k1, hc1', hm1', hb1⟩; obtain ⟨hS1, hE1, hz1, hc1, hf1⟩ := bcell hb1; (try simp only [go_sem] at hE1); subst hE1)
    obtain ⟨b0, off0, rfl, hbb, d0⟩ := HG.out _ _ k1
    go_wp2_with (first | ((with_reducible change Code.wp _ (Code.region _ _ _) _ _ _); refine wp_region_quiet_below (by kernel_rfl) (by kernel_rfl) ?_; (repeat (first | go_big_quiet_step (fail) | quiet_step (fail))); refine wpQuiet_nil ?_; intro w1 hw1; have hb := below_of_regrown hw1; clear hw1; obtain ⟨hS, hE, hz, hc, hf⟩ := bcell hb; (try simp only [go_sem] at hE); subst hE))
    go_simp
    go_wp2_with (first | ((with_reducible change Code.wp _ (Code.region _ _ _) _ _ _); refine wp_region_quiet_below (by kernel_rfl) (by kernel_rfl) ?_; (repeat (first | go_big_quiet_step (fail) | quiet_step (fail))); refine wpQuiet_nil ?_; intro w1 hw1; have hb := below_of_regrown hw1; clear hw1; obtain ⟨hS, hE, hz, hc, hf⟩ := bcell hb; (try simp only [go_sem] at hE); subst hE))
    go_ret
    exact ⟨_, rfl, by rw [hM.out]; exact isO_some ha, (by repeat' (first | (with_reducible exact Below.refl _ _) | (with_reducible refine below_drewN ?_ _) | (with_reducible refine Below.drew ?_) | (with_reducible refine Below.alloc ?_ ?_ _) | (with_reducible refine Below.setCell ?_ ?_ _) | (with_reducible refine below_step ?_ (by assumption) ?_) | (with_reducible refine below_step ?_ (below_regrown _ _ _) ?_) | go_size))⟩
end Go.Proofs.Ytkkapajpgfjomaa.Gauge
