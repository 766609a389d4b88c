/- How wide lanes are; what must come of every program. No condition. -/
import Derived.Test.YtoombjndcegggaaRailE
namespace Go.Proofs.Ytoombjndcegggaa.Rail
open Go.ChangeShapes Go.WideShapes Go.ChangeAt Go.RowKit Go.Proofs.Ytoombjndcegggaa.Kit Go.Proofs.Ytoombjndcegggaa.Mem Go.Proofs.Ytoombjndcegggaa.Flt
set_option linter.unusedVariables false
section
variable {l : List Nat} {A : Option Addr} {B0 : Nat} {w : World}
/-- How wide a lane is. -/
def widthS (l : List Nat) (k : Int) : Nat := if chkS l ≠ 0 ∨ k < 0 ∨ (l.length : Int) - 1 ≤ k then 0 else (Ieee.double.sub (B l (k.toNat + 1)) (B l k.toNat)).getD 0
set_option maxHeartbeats 1000000 in
theorem width_any (hr : FRow w B0 A l) (hB : B0 ≤ w.heap.size) (c : Nat) (k : Int) :
    Calls Try.prog 11 #[.slice A l.length c, .int .i64 k] w fun e w' => e = .returned (.float .f64 (widthS l k)) ∧ Below w.heap.size w w' := by
  have hlen := hr.len
  by_cases h0 : chkS l = 0
  · have hg := good_of l h0
    have htwo := hg.two
    have hfew := hg.few
    by_cases h1 : k < 0
    · have HS : Hid (widthS l k = 0) := hide (by unfold widthS; rw [if_pos (.inr (.inl h1))])
      go_enter Try.func11, Try.ntmps11
      go_wp2_with (first | (go_at_call 8; refine (check_ok hr c h0).mono ?_; rintro e w1 ⟨rfl, rfl⟩) | (go_at_call 22; refine (lanes_any _ _ _ (by omega) hlen _).mono ?_; rintro e w1 ⟨rfl, rfl⟩) | (refine wp_region_quiet_below (by kernel_rfl) (by kernel_rfl) ?_; (repeat (first | go_big_quiet_step ((first | (go_at_call 8; exact Calls.regrown_of (below_of_same (check_ok hr c h0))) | (go_at_call 22; exact Calls.regrown_of (below_of_same (lanes_any _ _ _ (by omega) hlen _))))) | quiet_step ((first | (go_at_call 8; exact Calls.regrown_of (below_of_same (check_ok hr c h0))) | (go_at_call 22; exact Calls.regrown_of (below_of_same (lanes_any _ _ _ (by omega) hlen _))))))); refine wpQuiet_nil ?_; intro w1 hw1; have hb := below_of_regrown hw1; clear hw1; obtain ⟨hS, hE, hz, hc, hf⟩ := bcell hb; (try simp only [go_sem] at hE); subst hE))
      (go_ret; exact ⟨by rw [HS.out]; rfl, (by repeat' (first | (with_reducible exact Below.refl _ _) | (with_reducible refine below_drewN ?_ _) | (with_reducible refine Below.drew ?_) | (with_reducible refine Below.alloc ?_ ?_ _) | (with_reducible refine Below.setCell ?_ ?_ _) | (with_reducible refine below_step ?_ (by assumption) ?_) | go_size))⟩)
    by_cases h2 : (l.length : Int) - 1 ≤ k
    · have HS : Hid (widthS l k = 0) := hide (by unfold widthS; rw [if_pos (.inr (.inr h2))])
      go_enter Try.func11, Try.ntmps11
      go_wp2_with (first | (go_at_call 8; refine (check_ok hr c h0).mono ?_; rintro e w1 ⟨rfl, rfl⟩) | (go_at_call 22; refine (lanes_any _ _ _ (by omega) hlen _).mono ?_; rintro e w1 ⟨rfl, rfl⟩) | (refine wp_region_quiet_below (by kernel_rfl) (by kernel_rfl) ?_; (repeat (first | go_big_quiet_step ((first | (go_at_call 8; exact Calls.regrown_of (below_of_same (check_ok hr c h0))) | (go_at_call 22; exact Calls.regrown_of (below_of_same (lanes_any _ _ _ (by omega) hlen _))))) | quiet_step ((first | (go_at_call 8; exact Calls.regrown_of (below_of_same (check_ok hr c h0))) | (go_at_call 22; exact Calls.regrown_of (below_of_same (lanes_any _ _ _ (by omega) hlen _))))))); refine wpQuiet_nil ?_; intro w1 hw1; have hb := below_of_regrown hw1; clear hw1; obtain ⟨hS, hE, hz, hc, hf⟩ := bcell hb; (try simp only [go_sem] at hE); subst hE))
      (go_ret; exact ⟨by rw [HS.out]; rfl, (by repeat' (first | (with_reducible exact Below.refl _ _) | (with_reducible refine below_drewN ?_ _) | (with_reducible refine Below.drew ?_) | (with_reducible refine Below.alloc ?_ ?_ _) | (with_reducible refine Below.setCell ?_ ?_ _) | (with_reducible refine below_step ?_ (by assumption) ?_) | go_size))⟩)
    obtain ⟨q, rfl⟩ := Int.eq_ofNat_of_zero_le (show 0 ≤ k by omega)
    have hup : fltB (B l q) (B l (q + 1)) = true := by
      have h3 := hg.up (q + 1) (by omega) (by omega)
      have h4 := hg.num q (by omega)
      have h5 := hg.num (q + 1) (by omega)
      rw [Nat.add_sub_cancel] at h3
      unfold fltB
      rw [h4, h5, decide_eq_true h3]; rfl
    obtain ⟨z, hz⟩ := sub_some hup
    have HS : Hid (widthS l q = z) := hide (by unfold widthS; rw [if_neg (by omega), Int.toNat_natCast, hz]; rfl)
    have k1 := fun t w => run_ok_sub (P := Try.prog) hz t w
    obtain ⟨b0, off, rfl, hblk, hcell⟩ := hr.row (by omega)
    have c0 : w.cell? ⟨b0, off + q, none⟩ = some (.float .f64 (B l q)) := hcell _ (by omega)
    have c1 : w.cell? ⟨b0, off + (q + 1), none⟩ = some (.float .f64 (B l (q + 1))) := hcell _ (by omega)
    have eq1 : ((q : Int) + 1).toNat = q + 1 := by omega
    have HK := hide h0
    clear hcell hz hup h0
    generalize B l (q + 1) = y at *
    generalize B l q = x at *
    go_enter Try.func11, Try.ntmps11
    go_wp2_with (first | (go_at_call 8; refine (check_ok hr c HK.out).mono ?_; rintro e w1 ⟨rfl, rfl⟩) | (go_at_call 22; refine (lanes_any _ _ _ (by omega) hlen _).mono ?_; rintro e w1 ⟨rfl, rfl⟩) | (refine wp_region_quiet_below (by kernel_rfl) (by kernel_rfl) ?_; (repeat (first | go_big_quiet_step ((first | (go_at_call 8; exact Calls.regrown_of (below_of_same (check_ok hr c HK.out))) | (go_at_call 22; exact Calls.regrown_of (below_of_same (lanes_any _ _ _ (by omega) hlen _))))) | quiet_step ((first | (go_at_call 8; exact Calls.regrown_of (below_of_same (check_ok hr c HK.out))) | (go_at_call 22; exact Calls.regrown_of (below_of_same (lanes_any _ _ _ (by omega) hlen _))))))); refine wpQuiet_nil ?_; intro w1 hw1; have hb := below_of_regrown hw1; clear hw1; obtain ⟨hS, hE, hz, hc, hf⟩ := bcell hb; (try simp only [go_sem] at hE); subst hE))
    (go_ret; exact ⟨by rw [HS.out]; rfl, (by repeat' (first | (with_reducible exact Below.refl _ _) | (with_reducible refine below_drewN ?_ _) | (with_reducible refine Below.drew ?_) | (with_reducible refine Below.alloc ?_ ?_ _) | (with_reducible refine Below.setCell ?_ ?_ _) | (with_reducible refine below_step ?_ (by assumption) ?_) | go_size))⟩)
  · have HS : Hid (widthS l k = 0) := hide (by unfold widthS; rw [if_pos (.inl h0)])
    have hb : (chkS l != 0) = true := by simpa using h0
    go_enter Try.func11, Try.ntmps11
    go_wp2_with (first | (go_at_call 8; refine (check_any hr c).mono ?_; rintro e w1 ⟨rfl, rfl⟩) | (go_at_call 22; refine (lanes_any _ _ _ (by omega) hlen _).mono ?_; rintro e w1 ⟨rfl, rfl⟩) | (refine wp_region_quiet_below (by kernel_rfl) (by kernel_rfl) ?_; (repeat (first | go_big_quiet_step ((first | (go_at_call 8; exact Calls.regrown_of (below_of_same (check_any hr c))) | (go_at_call 22; exact Calls.regrown_of (below_of_same (lanes_any _ _ _ (by omega) hlen _))))) | quiet_step ((first | (go_at_call 8; exact Calls.regrown_of (below_of_same (check_any hr c))) | (go_at_call 22; exact Calls.regrown_of (below_of_same (lanes_any _ _ _ (by omega) hlen _))))))); refine wpQuiet_nil ?_; intro w1 hw1; have hb := below_of_regrown hw1; clear hw1; obtain ⟨hS, hE, hz, hc, hf⟩ := bcell hb; (try simp only [go_sem] at hE); subst hE))
    (go_ret; exact ⟨by rw [HS.out]; rfl, (by repeat' (first | (with_reducible exact Below.refl _ _) | (with_reducible refine below_drewN ?_ _) | (with_reducible refine Below.drew ?_) | (with_reducible refine Below.alloc ?_ ?_ _) | (with_reducible refine Below.setCell ?_ ?_ _) | (with_reducible refine below_step ?_ (by assumption) ?_) | go_size))⟩)
set_option maxHeartbeats 1000000 in
theorem rwidth_any (hr : FRow w B0 A l) (hB : B0 ≤ w.heap.size) (c : Nat) (k : Int) :
    Calls Try.prog 12 #[.slice A l.length c, .int .i64 k] w fun e w' => e = .returned (.float .f64 (widthS l k)) ∧ Below w.heap.size w w' := by
  have hlen := hr.len
  by_cases h0 : chkS l = 0
  · have hg := good_of l h0
    have htwo := hg.two
    have hfew := hg.few
    by_cases h1 : k < 0
    · have HS : Hid (widthS l k = 0) := hide (by unfold widthS; rw [if_pos (.inr (.inl h1))])
      go_enter Try.func12, Try.ntmps12
      go_wp2_with (first | (go_at_call 9; refine (rcheck_ok hr hB c h0).mono ?_; rintro e w1 ⟨rfl, hb⟩; obtain ⟨hS, hE, hz, hc, hf⟩ := bcell hb; (try simp only [go_sem] at hE); subst hE) | (refine wp_region_quiet_below (by kernel_rfl) (by kernel_rfl) ?_; (repeat (first | go_big_quiet_step ((first | (go_at_call 9; exact Calls.regrown_of (rcheck_ok hr hB c h0)))) | quiet_step ((first | (go_at_call 9; exact Calls.regrown_of (rcheck_ok hr hB c h0)))))); refine wpQuiet_nil ?_; intro w1 hw1; have hb := below_of_regrown hw1; clear hw1; obtain ⟨hS, hE, hz, hc, hf⟩ := bcell hb; (try simp only [go_sem] at hE); subst hE))
      (go_ret; exact ⟨by rw [HS.out]; rfl, (by repeat' (first | (with_reducible exact Below.refl _ _) | (with_reducible refine below_drewN ?_ _) | (with_reducible refine Below.drew ?_) | (with_reducible refine Below.alloc ?_ ?_ _) | (with_reducible refine Below.setCell ?_ ?_ _) | (with_reducible refine below_step ?_ (by assumption) ?_) | go_size))⟩)
    by_cases h2 : (l.length : Int) - 1 ≤ k
    · have HS : Hid (widthS l k = 0) := hide (by unfold widthS; rw [if_pos (.inr (.inr h2))])
      go_enter Try.func12, Try.ntmps12
      go_wp2_with (first | (go_at_call 9; refine (rcheck_ok hr hB c h0).mono ?_; rintro e w1 ⟨rfl, hb⟩; obtain ⟨hS, hE, hz, hc, hf⟩ := bcell hb; (try simp only [go_sem] at hE); subst hE) | (refine wp_region_quiet_below (by kernel_rfl) (by kernel_rfl) ?_; (repeat (first | go_big_quiet_step ((first | (go_at_call 9; exact Calls.regrown_of (rcheck_ok hr hB c h0)))) | quiet_step ((first | (go_at_call 9; exact Calls.regrown_of (rcheck_ok hr hB c h0)))))); refine wpQuiet_nil ?_; intro w1 hw1; have hb := below_of_regrown hw1; clear hw1; obtain ⟨hS, hE, hz, hc, hf⟩ := bcell hb; (try simp only [go_sem] at hE); subst hE))
      (go_ret; exact ⟨by rw [HS.out]; rfl, (by repeat' (first | (with_reducible exact Below.refl _ _) | (with_reducible refine below_drewN ?_ _) | (with_reducible refine Below.drew ?_) | (with_reducible refine Below.alloc ?_ ?_ _) | (with_reducible refine Below.setCell ?_ ?_ _) | (with_reducible refine below_step ?_ (by assumption) ?_) | go_size))⟩)
    obtain ⟨q, rfl⟩ := Int.eq_ofNat_of_zero_le (show 0 ≤ k by omega)
    have hup : fltB (B l q) (B l (q + 1)) = true := by
      have h3 := hg.up (q + 1) (by omega) (by omega)
      have h4 := hg.num q (by omega)
      have h5 := hg.num (q + 1) (by omega)
      rw [Nat.add_sub_cancel] at h3
      unfold fltB
      rw [h4, h5, decide_eq_true h3]; rfl
    obtain ⟨z, hz⟩ := sub_some hup
    have HS : Hid (widthS l q = z) := hide (by unfold widthS; rw [if_neg (by omega), Int.toNat_natCast, hz]; rfl)
    have k1 := fun t w => run_ok_sub (P := Try.prog) hz t w
    obtain ⟨b0, off, rfl, hblk, hcell⟩ := hr.row (by omega)
    have c0 : w.cell? ⟨b0, off + q, none⟩ = some (.float .f64 (B l q)) := hcell _ (by omega)
    have c1 : w.cell? ⟨b0, off + (q + 1), none⟩ = some (.float .f64 (B l (q + 1))) := hcell _ (by omega)
    have eq1 : ((q : Int) + 1).toNat = q + 1 := by omega
    have HK := hide h0
    clear hcell hz hup h0
    generalize B l (q + 1) = y at *
    generalize B l q = x at *
    go_enter Try.func12, Try.ntmps12
    go_wp2_with (first | (go_at_call 9; refine (rcheck_ok hr hB c HK.out).mono ?_; rintro e w1 ⟨rfl, hb⟩; obtain ⟨hS, hE, hz, hc, hf⟩ := bcell hb; (try simp only [go_sem] at hE); subst hE) | (refine wp_region_quiet_below (by kernel_rfl) (by kernel_rfl) ?_; (repeat (first | go_big_quiet_step ((first | (go_at_call 9; exact Calls.regrown_of (rcheck_ok hr hB c HK.out)))) | quiet_step ((first | (go_at_call 9; exact Calls.regrown_of (rcheck_ok hr hB c HK.out)))))); refine wpQuiet_nil ?_; intro w1 hw1; have hb := below_of_regrown hw1; clear hw1; obtain ⟨hS, hE, hz, hc, hf⟩ := bcell hb; (try simp only [go_sem] at hE); subst hE))
    (go_ret; exact ⟨by rw [HS.out]; rfl, (by repeat' (first | (with_reducible exact Below.refl _ _) | (with_reducible refine below_drewN ?_ _) | (with_reducible refine Below.drew ?_) | (with_reducible refine Below.alloc ?_ ?_ _) | (with_reducible refine Below.setCell ?_ ?_ _) | (with_reducible refine below_step ?_ (by assumption) ?_) | go_size))⟩)
  · have HS : Hid (widthS l k = 0) := hide (by unfold widthS; rw [if_pos (.inl h0)])
    have hb : (chkS l != 0) = true := by simpa using h0
    go_enter Try.func12, Try.ntmps12
    go_wp2_with (first | (go_at_call 9; refine (rcheck_any hr hB c).mono ?_; rintro e w1 ⟨rfl, hb⟩; obtain ⟨hS, hE, hz, hc, hf⟩ := bcell hb; (try simp only [go_sem] at hE); subst hE) | (refine wp_region_quiet_below (by kernel_rfl) (by kernel_rfl) ?_; (repeat (first | go_big_quiet_step ((first | (go_at_call 9; exact Calls.regrown_of (rcheck_any hr hB c)))) | quiet_step ((first | (go_at_call 9; exact Calls.regrown_of (rcheck_any hr hB c)))))); refine wpQuiet_nil ?_; intro w1 hw1; have hb := below_of_regrown hw1; clear hw1; obtain ⟨hS, hE, hz, hc, hf⟩ := bcell hb; (try simp only [go_sem] at hE); subst hE))
    (go_ret; exact ⟨by rw [HS.out]; rfl, (by repeat' (first | (with_reducible exact Below.refl _ _) | (with_reducible refine below_drewN ?_ _) | (with_reducible refine Below.drew ?_) | (with_reducible refine Below.alloc ?_ ?_ _) | (with_reducible refine Below.setCell ?_ ?_ _) | (with_reducible refine below_step ?_ (by assumption) ?_) | go_size))⟩)
end
/-- New borders, as a row. -/
theorem frow_new (w : World) (l : List Nat) (t : TypeId) (hl : l.length ≤ 9223372036854775807) (hf : ∀ x ∈ l, x < 18446744073709551616) :
    FRow (w.alloc (.cells (l.map (Value.float .f64)).toArray t)) (w.heap.size + 1) (some ⟨w.heap.size, 0, none⟩) l := by
  refine ⟨?_, hl, fun j => ?_⟩
  · have := row_new w (l.map (Value.float .f64)) t
    rw [List.length_map] at this
    refine row_of this fun j hj => ?_
    unfold B
    simp [List.getD_eq_getElem?_getD, List.getElem?_eq_getElem hj]
  · unfold B
    by_cases h : j < l.length
    · rw [List.getD_eq_getElem?_getD, List.getElem?_eq_getElem h]
      exact hf _ (List.getElem_mem h)
    · rw [List.getD_eq_getElem?_getD, List.getElem?_eq_none (by omega)]
      decide
theorem frow_arg {w : World} {B0 : Nat} {A : Option Addr} {l : List Nat} (h : Row w B0 A l.length (fun j => .float .f64 (l.getD j 0))) (hl : l.length ≤ 9223372036854775807) (hf : ∀ x ∈ l, x < 18446744073709551616) : FRow w B0 A l := by
  refine ⟨h, hl, fun j => ?_⟩
  unfold B
  by_cases h : j < l.length
  · rw [List.getD_eq_getElem?_getD, List.getElem?_eq_getElem h]
    exact hf _ (List.getElem_mem h)
  · rw [List.getD_eq_getElem?_getD, List.getElem?_eq_none (by omega)]
    decide
theorem wf_float {x : Nat} (h : (Lit.float .f64 x).wf = true) : x < 18446744073709551616 := by simpa [Lit.wf] using h
def L1 : List Nat := [0, 4621256167635550208, 4625759767262920704, 9218868437227405312]
def L2 : List Nat := [4607182418800017408, 4607182418800017408]
theorem inf_any (w : World) : Calls Try.prog 18 #[.int .i64 1] w fun e w' => e = .returned (.float .f64 9218868437227405312) ∧ w = w' := by
  go_enter Try.func18, Try.ntmps18
  go_wp2
  go_ret
  exact ⟨rfl, rfl⟩
theorem k_lane1 : laneS L1 4621256167635550208 = (1, 0) := by decide +kernel
theorem k_lane2 : laneS L1 13830554455654793216 = (0, 71) := by decide +kernel
theorem k_reach : reachS L1 4621256167635550208 4602678819172646912 = (0, 1, 0) := by decide +kernel
theorem k_chk1 : chkS L1 = 0 := by decide +kernel
theorem k_chk2 : chkS L2 = 70 := by decide +kernel
theorem k_width : widthS L1 1 = 4621256167635550208 := by decide +kernel
theorem k_feq : feqB 4621256167635550208 4621256167635550208 = true := by decide +kernel
section
variable {w : World} {B0 : Nat} {A : Option Addr}
theorem l_lane1 (h : FRow w B0 A L1) (h2 : B0 ≤ w.heap.size) : Calls Try.prog 13 #[.slice A 4 4, .float .f64 4621256167635550208] w (fun e w' => e = .returned (.tuple #[.int .i64 1, .int .i64 0]) ∧ Below w.heap.size w w') := by
  have := lane_any h h2 4 (by decide) 4621256167635550208 (by decide)
  rw [k_lane1] at this
  exact this
theorem l_lane2 (h : FRow w B0 A L1) (h2 : B0 ≤ w.heap.size) : Calls Try.prog 13 #[.slice A 4 4, .float .f64 13830554455654793216] w (fun e w' => e = .returned (.tuple #[.int .i64 0, .int .i64 71]) ∧ Below w.heap.size w w') := by
  have := lane_any h h2 4 (by decide) 13830554455654793216 (by decide)
  rw [k_lane2] at this
  exact this
theorem l_reach (h : FRow w B0 A L1) (h2 : B0 ≤ w.heap.size) : Calls Try.prog 15 #[.slice A 4 4, .float .f64 4621256167635550208, .float .f64 4602678819172646912] w fun e w' => e = .returned (.tuple #[.agg #[.int .i64 0, .int .i64 1], .int .i64 0]) ∧ Below w.heap.size w w' := by
  have := reach_any h h2 4 (by decide) 4621256167635550208 4602678819172646912 (by decide) (by decide)
  rw [k_reach] at this
  exact this
theorem l_chk1 (h : FRow w B0 A L1) : Calls Try.prog 8 #[.slice A 4 4] w fun e w' => e = .returned (.int .i64 0) ∧ w = w' := by
  have := check_any h 4
  rw [k_chk1] at this
  exact this
theorem l_chk2 (h : FRow w B0 A L2) : Calls Try.prog 8 #[.slice A 2 2] w fun e w' => e = .returned (.int .i64 70) ∧ w = w' := by
  have := check_any h 2
  rw [k_chk2] at this
  exact this
theorem l_width (h : FRow w B0 A L1) (h2 : B0 ≤ w.heap.size) : Calls Try.prog 11 #[.slice A 4 4, .int .i64 1] w fun e w' => e = .returned (.float .f64 4621256167635550208) ∧ Below w.heap.size w w' := by
  have := width_any h h2 4 1
  rw [k_width] at this
  exact this
end
theorem new1 (w : World) : FRow (w.alloc (.cells #[.float .f64 0, .float .f64 4621256167635550208, .float .f64 4625759767262920704, .float .f64 9218868437227405312] 28)) (w.heap.size + 1) (some ⟨w.heap.size, 0, none⟩) L1 := frow_new w L1 28 (by decide) (by decide)
theorem new2 (w : World) : FRow (w.alloc (.cells #[.float .f64 4607182418800017408, .float .f64 4607182418800017408] 28)) (w.heap.size + 1) (some ⟨w.heap.size, 0, none⟩) L2 := frow_new w L2 28 (by decide) (by decide)
end Go.Proofs.Ytoombjndcegggaa.Rail
