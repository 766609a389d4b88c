/- What must come of every program of this chapter; the library's table out of the row's list. Condition: the table is as the row lists it. -/
import Derived.Test.YtbgakceljbigjaaDoorNumS
import Derived.Test.YtbgakceljbigjaaDoorNumT
namespace Go.Proofs.YtbgakceljbigjaaDoor.Num
open Go.ChangeShapes Go.WideShapes Go.ChangeAt Go.RowKit Go.Proofs.YtbgakceljbigjaaDoor.Kit Go.Proofs.YtbgakceljbigjaaDoor.Wide Go.Deep Go.PlainAid
set_option linter.unusedVariables false
theorem tab_type : (Tryd.prog.globals[0]?).map (·.type) = some 57 := by kernel_rfl
theorem pow_laid {W : World} (h : laidMetH Tryd.prog [("math/bits.deBruijn32tab", Rows.laid_math_bits_deBruijn32tab), ("math/bits.deBruijn64tab", Rows.laid_math_bits_deBruijn64tab), ("internal/strconv.uint64pow10", Rows.laid_internal_strconv_uint64pow10)] W) : Pow W := by
  rw [MakeChecks.laidMetH_plain _ _ _ (by kernel_rfl)] at h
  obtain ⟨ps, ⟨g0, t0, cs0, f0, p0, q0, hg0, ht0, hv0, hd0, ⟨g1, t1, cs1, f1, p1, q1, hg1, ht1, hv1, hd1, ⟨g2, t2, cs2, f2, p2, q2, hg2, ht2, hv2, hd2, _, _⟩, _⟩, _⟩, _, _⟩ := h
  obtain rfl := Option.some.inj (gPow.symm.trans hg2)
  obtain rfl := Option.some.inj (tab_type.symm.trans ht2)
  have e := Lib.cells_of_tab (zs := Lib.pow10Tab) (k := .u64) Tryd.underlying57 Tryd.underlying37 (by kernel_rfl) (by kernel_rfl) (hd2.trans (by rfl))
  have hT : Lib.TabIs Tryd.prog W "internal/strconv.uint64pow10" .u64 Lib.pow10Tab := by
    unfold Lib.TabIs
    rw [hv2, ← e]
  refine ⟨hT, ?_⟩
  exact block_lt_of_cell (Lib.TabIs.cell hT gPow 0 (by rw [Lib.pow10Tab_length]; omega))
theorem p12 : parseS { data := #[45, 49, 50] } = (-12, 0) := by decide
theorem o34 : oneW (3 + 4) = (7, 0) := by decide
theorem o81 : oneW (-9223372036854775808 - 1) = (0, 4) := by decide
theorem m15 : modN (-1) 5 = 4 := by decide
theorem s10 : shareN 10 4 1 = 3 := by decide
theorem i5 : Lib.itoa (-5) = [45, 53] := by
  unfold Lib.itoa
  rw [if_pos (by decide)]
  show 45 :: Lib.decDigits 5 = _
  rw [Lib.decDigits.eq_1, dif_pos (by decide)]
  rfl
theorem lives_any (w : World) (h : Pow w) : Calls Tryd.prog 9 #[] w fun e w' => e = .returned (.bool true) ∧ Below w.heap.size w w' := by
  have A1 := fun w => add_any 3 4 w (by unfold In64; omega) (by unfold In64; omega)
  have A2 := fun w => sub_any (-9223372036854775808) 1 w (by unfold In64; omega) (by unfold In64; omega)
  have A3 := fun w => parse_any { data := #[45, 49, 50] } w (by decide)
  have A4 := fun w => mod_any (-1) 5 w (by unfold In64; omega)
  have A5 := fun w => share_any 10 4 1 w
  have A6 := fun w h => text_any (-5) (by unfold In64; omega) w h
  rw [o34] at A1
  rw [o81] at A2
  rw [p12] at A3
  rw [m15] at A4
  rw [s10] at A5
  rw [i5] at A6
  have HP := hide h
  clear h
  go_enter Tryd.func9, Tryd.ntmps9
  go_wp2_with (first | (go_at_call 21; refine (A1 _).mono ?_; rintro e w1 ⟨rfl, hb⟩; obtain ⟨hS, hE, hz, hc, hf⟩ := bcell hb; (try simp only [go_sem] at hE); subst hE) | (go_at_call 22; refine (A2 _).mono ?_; rintro e w1 ⟨rfl, hb⟩; obtain ⟨hS, hE, hz, hc, hf⟩ := bcell hb; (try simp only [go_sem] at hE); subst hE) | (go_at_call 12; refine (A3 _).mono ?_; rintro e w1 ⟨rfl, rfl⟩) | (go_at_call 19; refine (A4 _).mono ?_; rintro e w1 ⟨rfl, rfl⟩) | (go_at_call 8; refine (A5 _).mono ?_; rintro e w1 ⟨rfl, hb⟩; obtain ⟨hS, hE, hz, hc, hf⟩ := bcell hb; (try simp only [go_sem] at hE); subst hE) | (go_at_call 11; refine (A6 _ (HP.out.below (B := w.heap.size) (by repeat' (first | (with_reducible exact Below.refl _ _) | (with_reducible refine below_drewN ?_ _) | (with_reducible refine Below.drew ?_) | (with_reducible refine Below.alloc ?_ ?_ _) | (with_reducible refine Below.setCell ?_ ?_ _) | (with_reducible refine below_step ?_ (by assumption) ?_) | go_size)) (by omega))).mono ?_; rintro e w1 ⟨rfl, hb⟩; obtain ⟨hS, hE, hz, hc, hf⟩ := bcell hb; (try simp only [go_sem] at hE); subst hE) | (refine wp_region_quiet_below (by kernel_rfl) (by kernel_rfl) ?_; (repeat (first | go_big_quiet_step ((first | (go_at_call 21; exact Calls.regrown_of (A1 _)) | (go_at_call 22; exact Calls.regrown_of (A2 _)) | (go_at_call 12; exact Calls.regrown_of (below_of_same (A3 _))) | (go_at_call 19; exact Calls.regrown_of (below_of_same (A4 _))) | (go_at_call 8; exact Calls.regrown_of (A5 _)) | (go_at_call 11; exact Calls.regrown_of (A6 _ (HP.out.below (B := w.heap.size) (by repeat' (first | (with_reducible exact Below.refl _ _) | (with_reducible refine below_drewN ?_ _) | (with_reducible refine Below.drew ?_) | (with_reducible refine Below.alloc ?_ ?_ _) | (with_reducible refine Below.setCell ?_ ?_ _) | (with_reducible refine below_step ?_ (by assumption) ?_) | go_size)) (by omega)))))) | quiet_step ((first | (go_at_call 21; exact Calls.regrown_of (A1 _)) | (go_at_call 22; exact Calls.regrown_of (A2 _)) | (go_at_call 12; exact Calls.regrown_of (below_of_same (A3 _))) | (go_at_call 19; exact Calls.regrown_of (below_of_same (A4 _))) | (go_at_call 8; exact Calls.regrown_of (A5 _)) | (go_at_call 11; exact Calls.regrown_of (A6 _ (HP.out.below (B := w.heap.size) (by repeat' (first | (with_reducible exact Below.refl _ _) | (with_reducible refine below_drewN ?_ _) | (with_reducible refine Below.drew ?_) | (with_reducible refine Below.alloc ?_ ?_ _) | (with_reducible refine Below.setCell ?_ ?_ _) | (with_reducible refine below_step ?_ (by assumption) ?_) | go_size)) (by omega)))))))); refine wpQuiet_nil ?_; intro w1 hw1; have hb := below_of_regrown hw1; clear hw1; obtain ⟨hS, hE, hz, hc, hf⟩ := bcell hb; (try simp only [go_sem] at hE); subst hE))
  go_ret
  exact ⟨rfl, (by repeat' (first | (with_reducible exact Below.refl _ _) | (with_reducible refine below_drewN ?_ _) | (with_reducible refine Below.drew ?_) | (with_reducible refine Below.alloc ?_ ?_ _) | (with_reducible refine Below.setCell ?_ ?_ _) | (with_reducible refine below_step ?_ (by assumption) ?_) | go_size))⟩
end Go.Proofs.YtbgakceljbigjaaDoor.Num
