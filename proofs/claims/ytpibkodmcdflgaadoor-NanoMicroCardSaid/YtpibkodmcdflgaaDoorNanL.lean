/- What must come of every program of this chapter; the library's table out of the row's list. Condition: the table is in place. -/
import Derived.Test.YtpibkodmcdflgaaDoorNanQ
import Derived.Test.YtpibkodmcdflgaaDoorDoor
import Derived.Lib.LaidTab
import Derived.Laws.FloatArith
namespace Go.Proofs.YtpibkodmcdflgaaDoor.Nano
open Go.ChangeShapes Go.WideShapes Go.ChangeAt Go.RowKit Go.Proofs.YtpibkodmcdflgaaDoor.Kit Go.Proofs.YtpibkodmcdflgaaDoor.Flt Go.Proofs.YtpibkodmcdflgaaDoor.Real Go.Deep
set_option linter.unusedVariables false
set_option linter.unusedSimpArgs false
theorem inf_neg (w : World) : Calls Tryd.prog 23 #[.int .i64 (-1)] w fun e w' => e = .returned (.float .f64 18442240474082181120) ∧ w = w' := by
  go_enter Tryd.func23, Tryd.ntmps23
  go_wp2
  go_ret
  exact ⟨rfl, rfl⟩
theorem o_25 : ofV 4612811918334230528 = (2500, 0) := by decide +kernel
theorem o_inf : ofV 18442240474082181120 = (0, 21) := by decide +kernel
theorem o_neg : ofV 9223372036854775809 = (0, 22) := by decide +kernel
theorem q_250 : floatBits .quo .f64 (floatOfInt .f64 250) 4652007308841189376 = some 4598175219545276416 := by decide +kernel
theorem e_250 : feqB 4598175219545276416 4598175219545276416 = true := by decide
theorem micro_250 (w : World) : Calls Tryd.prog 11 #[.int .i64 250] w fun e w' => e = .returned (.float .f64 4598175219545276416) ∧ w = w' := by
  have hq := fun t (w : World) => run_float_arith (P := Tryd.prog) w .quo t .f64 _ _ _ q_250
  go_enter Tryd.func11, Tryd.ntmps11
  go_wp2
  go_ret
  exact ⟨rfl, rfl⟩
theorem _root_.Go.Proofs.YtpibkodmcdflgaaDoor.Real.TabW.below {B : Nat} {w w' : World} (h : TabW w) (hb : Below B w w') (hB : w.heap.size ≤ B) : TabW w' := fun j hj =>
  (hb.cell (p := ⟨_, j, none⟩) (Nat.lt_of_lt_of_le (block_lt_of_cell (h j hj)) hB)).trans (h j hj)
theorem lives_any (w : World) (h : TabW w) : Calls Tryd.prog 10 #[] w fun e w' => e = .returned (.bool true) ∧ Below w.heap.size w w' := by
  have O1 := fun w h => of_any 4612811918334230528 (by decide) w h
  have O2 := fun w h => of_any 18442240474082181120 (by decide) w h
  have O3 := fun w h => of_any 9223372036854775809 (by decide) w h
  rw [o_25] at O1
  rw [o_inf] at O2
  rw [o_neg] at O3
  have hI := fun w => inf_neg w
  have hM := fun w => micro_250 w
  have he := e_250
  have HT := hide h
  clear h
  dsimp only at O1 O2 O3
  go_enter Tryd.func10, Tryd.ntmps10
  go_wp2_with (first | (go_at_call 7; (with_reducible refine (O1 _ (HT.out.below (B := w.heap.size) (by repeat' (first | (with_reducible exact Below.refl _ _) | (with_reducible refine below_drewN ?_ _) | (with_reducible refine Below.drew ?_) | (with_reducible refine Below.alloc ?_ ?_ _) | (with_reducible refine Below.setCell ?_ ?_ _) | (with_reducible refine below_step ?_ (by assumption) ?_) | (with_reducible refine below_step ?_ (below_regrown _ _ _) ?_) | go_size)) (by omega))).mono ?_); rintro e w1 ⟨rfl, hb⟩; obtain ⟨hS, hE, hz, hc, hf⟩ := bcell hb; (try simp only [go_sem] at hE); subst hE) | (go_at_call 7; (with_reducible refine (O2 _ (HT.out.below (B := w.heap.size) (by repeat' (first | (with_reducible exact Below.refl _ _) | (with_reducible refine below_drewN ?_ _) | (with_reducible refine Below.drew ?_) | (with_reducible refine Below.alloc ?_ ?_ _) | (with_reducible refine Below.setCell ?_ ?_ _) | (with_reducible refine below_step ?_ (by assumption) ?_) | (with_reducible refine below_step ?_ (below_regrown _ _ _) ?_) | go_size)) (by omega))).mono ?_); rintro e w1 ⟨rfl, hb⟩; obtain ⟨hS, hE, hz, hc, hf⟩ := bcell hb; (try simp only [go_sem] at hE); subst hE) | (go_at_call 7; (with_reducible refine (O3 _ (HT.out.below (B := w.heap.size) (by repeat' (first | (with_reducible exact Below.refl _ _) | (with_reducible refine below_drewN ?_ _) | (with_reducible refine Below.drew ?_) | (with_reducible refine Below.alloc ?_ ?_ _) | (with_reducible refine Below.setCell ?_ ?_ _) | (with_reducible refine below_step ?_ (by assumption) ?_) | (with_reducible refine below_step ?_ (below_regrown _ _ _) ?_) | go_size)) (by omega))).mono ?_); rintro e w1 ⟨rfl, hb⟩; obtain ⟨hS, hE, hz, hc, hf⟩ := bcell hb; (try simp only [go_sem] at hE); subst hE) | (go_at_call 23; refine (hI _).mono ?_; rintro e w1 ⟨rfl, rfl⟩) | (go_at_call 11; refine (hM _).mono ?_; rintro e w1 ⟨rfl, rfl⟩) | ((with_reducible change Code.wp _ (Code.region _ _ _) _ _ _); refine wp_region_quiet_below (by kernel_rfl) (by kernel_rfl) ?_; (repeat (first | go_big_quiet_step ((first | (go_at_call 7; (with_reducible refine Calls.regrown_of (O1 _ (HT.out.below (B := w.heap.size) (by repeat' (first | (with_reducible exact Below.refl _ _) | (with_reducible refine below_drewN ?_ _) | (with_reducible refine Below.drew ?_) | (with_reducible refine Below.alloc ?_ ?_ _) | (with_reducible refine Below.setCell ?_ ?_ _) | (with_reducible refine below_step ?_ (by assumption) ?_) | (with_reducible refine below_step ?_ (below_regrown _ _ _) ?_) | go_size)) (by omega))));) | (go_at_call 7; (with_reducible refine Calls.regrown_of (O2 _ (HT.out.below (B := w.heap.size) (by repeat' (first | (with_reducible exact Below.refl _ _) | (with_reducible refine below_drewN ?_ _) | (with_reducible refine Below.drew ?_) | (with_reducible refine Below.alloc ?_ ?_ _) | (with_reducible refine Below.setCell ?_ ?_ _) | (with_reducible refine below_step ?_ (by assumption) ?_) | (with_reducible refine below_step ?_ (below_regrown _ _ _) ?_) | go_size)) (by omega))));) | (go_at_call 7; (with_reducible refine Calls.regrown_of (O3 _ (HT.out.below (B := w.heap.size) (by repeat' (first | (with_reducible exact Below.refl _ _) | (with_reducible refine below_drewN ?_ _) | (with_reducible refine Below.drew ?_) | (with_reducible refine Below.alloc ?_ ?_ _) | (with_reducible refine Below.setCell ?_ ?_ _) | (with_reducible refine below_step ?_ (by assumption) ?_) | (with_reducible refine below_step ?_ (below_regrown _ _ _) ?_) | go_size)) (by omega))));) | (go_at_call 23; exact Calls.regrown_of (below_of_same (hI _))) | (go_at_call 11; exact Calls.regrown_of (below_of_same (hM _))))) | quiet_step ((first | (go_at_call 7; (with_reducible refine Calls.regrown_of (O1 _ (HT.out.below (B := w.heap.size) (by repeat' (first | (with_reducible exact Below.refl _ _) | (with_reducible refine below_drewN ?_ _) | (with_reducible refine Below.drew ?_) | (with_reducible refine Below.alloc ?_ ?_ _) | (with_reducible refine Below.setCell ?_ ?_ _) | (with_reducible refine below_step ?_ (by assumption) ?_) | (with_reducible refine below_step ?_ (below_regrown _ _ _) ?_) | go_size)) (by omega))));) | (go_at_call 7; (with_reducible refine Calls.regrown_of (O2 _ (HT.out.below (B := w.heap.size) (by repeat' (first | (with_reducible exact Below.refl _ _) | (with_reducible refine below_drewN ?_ _) | (with_reducible refine Below.drew ?_) | (with_reducible refine Below.alloc ?_ ?_ _) | (with_reducible refine Below.setCell ?_ ?_ _) | (with_reducible refine below_step ?_ (by assumption) ?_) | (with_reducible refine below_step ?_ (below_regrown _ _ _) ?_) | go_size)) (by omega))));) | (go_at_call 7; (with_reducible refine Calls.regrown_of (O3 _ (HT.out.below (B := w.heap.size) (by repeat' (first | (with_reducible exact Below.refl _ _) | (with_reducible refine below_drewN ?_ _) | (with_reducible refine Below.drew ?_) | (with_reducible refine Below.alloc ?_ ?_ _) | (with_reducible refine Below.setCell ?_ ?_ _) | (with_reducible refine below_step ?_ (by assumption) ?_) | (with_reducible refine below_step ?_ (below_regrown _ _ _) ?_) | go_size)) (by omega))));) | (go_at_call 23; exact Calls.regrown_of (below_of_same (hI _))) | (go_at_call 11; exact Calls.regrown_of (below_of_same (hM _))))))); refine wpQuiet_nil ?_; intro w1 hw1; have hb := below_of_regrown hw1; clear hw1; obtain ⟨hS, hE, hz, hc, hf⟩ := bcell hb; (try simp only [go_sem] at hE); subst hE))
  go_ret
  exact ⟨rfl, (by repeat' (first | (with_reducible exact Below.refl _ _) | (with_reducible refine below_drewN ?_ _) | (with_reducible refine Below.drew ?_) | (with_reducible refine Below.alloc ?_ ?_ _) | (with_reducible refine Below.setCell ?_ ?_ _) | (with_reducible refine below_step ?_ (by assumption) ?_) | (with_reducible refine below_step ?_ (below_regrown _ _ _) ?_) | go_size))⟩
theorem tab_type : (Tryd.prog.globals[1]?).map (·.type) = some 54 := by kernel_rfl
theorem gTab : Tryd.prog.globalNamed "math/bits.deBruijn64tab" = some 1 := by kernel_rfl
theorem tab_laid {W : World} (h : laidMetH Tryd.prog [("math/bits.deBruijn64tab", Rows.laid_math_bits_deBruijn64tab)] W) : TabW W := by
  rw [MakeChecks.laidMetH_plain _ _ _ (by kernel_rfl)] at h
  obtain ⟨ps, ⟨g0, t0, cs0, f0, p0, q0, hg0, ht0, hv0, hd0, _, _⟩, _, _⟩ := h
  obtain rfl := Option.some.inj (gTab.symm.trans hg0)
  obtain rfl := Option.some.inj (tab_type.symm.trans ht0)
  have e := Lib.cells_of_tab (zs := Lib.deBruijn64tab.map Int.ofNat) (k := .u8) Tryd.underlying54 Tryd.underlying5 (by kernel_rfl) (by kernel_rfl) (hd0.trans (by rfl))
  have hT : Lib.TabIs Tryd.prog W "math/bits.deBruijn64tab" .u8 (Lib.deBruijn64tab.map Int.ofNat) := by
    unfold Lib.TabIs
    rw [hv0, ← e]
  intro j hj
  have h2 := Lib.TabIs.cell hT gTab j (by rw [List.length_map]; exact hj)
  refine h2.trans ?_
  congr 2
  have hj2 : j < Lib.deBruijn64tab.length := hj
  simp only [List.getD_eq_getElem?_getD, List.getElem?_map, List.getElem?_eq_getElem hj2, Option.map_some, Option.getD_some]
  rfl
end Go.Proofs.YtpibkodmcdflgaaDoor.Nano
