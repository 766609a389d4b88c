/- The library's environment out of the row's list. No condition. -/
import Derived.Test.YtfckciblnojniaaDoorDkW
import Derived.Test.YtfckciblnojniaaDoorDkX
import Derived.Test.YtfckciblnojniaaDoorDoorS
namespace Go.Proofs.YtfckciblnojniaaDoor.Dk
open Go.ChangeShapes Go.WideShapes Go.ChangeAt Go.RowKit Go.Proofs.YtfckciblnojniaaDoor.Kit Go.Proofs.YtfckciblnojniaaDoor.Num Go.Proofs.YtfckciblnojniaaDoor.Mem Go.Proofs.YtfckciblnojniaaDoor.Well Go.Deep Go.PlainAid
set_option linter.unusedVariables false
set_option linter.unusedSimpArgs false
theorem tab_type : (Tryd.prog.globals[2]?).map (·.type) = some 102 := by kernel_rfl
theorem pow_laid {W : World} (h : laidMetH Tryd.prog [("math/bits.deBruijn32tab", Rows.laid_math_bits_deBruijn32tab), ("math/bits.deBruijn64tab", Rows.laid_math_bits_deBruijn64tab), ("internal/strconv.uint64pow10", Rows.laid_internal_strconv_uint64pow10)] W) : Pow W := by
  rw [MakeChecks.laidMetH_plain _ _ _ (by kernel_rfl)] at h
  obtain ⟨ps, ⟨g0, t0, cs0, f0, p0, q0, hg0, ht0, hv0, hd0, ⟨g1, t1, cs1, f1, p1, q1, hg1, ht1, hv1, hd1, ⟨g2, t2, cs2, f2, p2, q2, hg2, ht2, hv2, hd2, _, _⟩, _⟩, _⟩, _, _⟩ := h
  obtain rfl := Option.some.inj (gPow.symm.trans hg2)
  obtain rfl := Option.some.inj (tab_type.symm.trans ht2)
  have e := Lib.cells_of_tab (zs := Lib.pow10Tab) (k := .u64) Tryd.underlying102 Tryd.underlying81 (by kernel_rfl) (by kernel_rfl) (hd2.trans (by rfl))
  have hT : Lib.TabIs Tryd.prog W "internal/strconv.uint64pow10" .u64 Lib.pow10Tab := by
    unfold Lib.TabIs
    rw [hv2, ← e]
  refine ⟨hT, ?_⟩
  exact block_lt_of_cell (Lib.TabIs.cell hT gPow 0 (by rw [Lib.pow10Tab_length]; omega))
theorem env_laid {W : World} (h : laidMetH Tryd.prog [("math/bits.deBruijn32tab", Rows.laid_math_bits_deBruijn32tab), ("math/bits.deBruijn64tab", Rows.laid_math_bits_deBruijn64tab), ("internal/strconv.uint64pow10", Rows.laid_internal_strconv_uint64pow10)] W) (hs : W.ShapedOpen Tryd.prog) : Env W :=
  ⟨pow_laid h, Tryd.laysM145.s1_3 W hs⟩
end Go.Proofs.YtfckciblnojniaaDoor.Dk
