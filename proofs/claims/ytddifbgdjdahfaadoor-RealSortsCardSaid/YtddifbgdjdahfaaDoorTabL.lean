/- The library's table out of the row's list. No condition. -/
import Derived.Test.YtddifbgdjdahfaaDoorReal
import Derived.Test.YtddifbgdjdahfaaDoorDoor
import Derived.Lib.LaidTab
namespace Go.Proofs.YtddifbgdjdahfaaDoor.Real
open Go.ChangeShapes Go.WideShapes Go.ChangeAt Go.RowKit Go.Proofs.YtddifbgdjdahfaaDoor.Kit Go.Proofs.YtddifbgdjdahfaaDoor.Flt Go.Deep
set_option linter.unusedVariables false
set_option linter.unusedSimpArgs false
theorem TabW.below {B : Nat} {w w' : World} (h : TabW w) (hb : Below B w w') (hB : w.heap.size ≤ B) : TabW w' := fun j hj =>
  (hb.cell (p := ⟨_, j, none⟩) (Nat.lt_of_lt_of_le (block_lt_of_cell (h j hj)) hB)).trans (h j hj)
theorem tab_type : (Tryd.prog.globals[1]?).map (·.type) = some 57 := by kernel_rfl
theorem gTab : Tryd.prog.globalNamed "math/bits.deBruijn64tab" = some 1 := by kernel_rfl
theorem tab_laid {W : World} (h : laidMetH Tryd.prog [("math/bits.deBruijn64tab", Rows.laid_math_bits_deBruijn64tab)] W) : TabW W := by
  rw [MakeChecks.laidMetH_plain _ _ _ (by kernel_rfl)] at h
  obtain ⟨ps, ⟨g0, t0, cs0, f0, p0, q0, hg0, ht0, hv0, hd0, _, _⟩, _, _⟩ := h
  obtain rfl := Option.some.inj (gTab.symm.trans hg0)
  obtain rfl := Option.some.inj (tab_type.symm.trans ht0)
  have e := Lib.cells_of_tab (zs := Lib.deBruijn64tab.map Int.ofNat) (k := .u8) Tryd.underlying57 Tryd.underlying5 (by kernel_rfl) (by kernel_rfl) (hd0.trans (by rfl))
  have hT : Lib.TabIs Tryd.prog W "math/bits.deBruijn64tab" .u8 (Lib.deBruijn64tab.map Int.ofNat) := by
    unfold Lib.TabIs
    rw [hv0, ← e]
  intro j hj
  have h2 := Lib.TabIs.cell hT gTab j (by rw [List.length_map]; exact hj)
  refine h2.trans ?_
  congr 2
  have hj2 : j < Lib.deBruijn64tab.length := hj
  simp only [List.getD_eq_getElem?_getD, List.getElem?_map, List.getElem?_eq_getElem hj2, Option.map_some, Option.getD_some]
  rfl
end Go.Proofs.YtddifbgdjdahfaaDoor.Real
