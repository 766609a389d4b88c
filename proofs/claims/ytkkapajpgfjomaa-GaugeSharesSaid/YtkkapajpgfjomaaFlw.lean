/- The library's Floor of a float from 0 to 1000. No condition. -/
import Derived.Test.YtkkapajpgfjomaaFlr
import Derived.Laws.Externs
namespace Go.Proofs.Ytkkapajpgfjomaa.Gauge
open Go.ChangeShapes Go.WideShapes Go.ChangeAt Go.RowKit Go.Proofs.Ytkkapajpgfjomaa.Kit Go.Proofs.Ytkkapajpgfjomaa.Flt Go.Proofs.Ytkkapajpgfjomaa.Real Go.Proofs.Ytkkapajpgfjomaa.Mem Go.Deep
open Ieee
set_option linter.unusedVariables false
set_option linter.unusedSimpArgs false
theorem floor_form (x : Nat) : ∃ N : Bool → Nat → Sem Value, Extern.MathFloor.toIntegral "math.archFloor" .down #[.float .f64 x] = match FloatKind.f64.decode x with | .nan s t => N s t | d => pure (.float .f64 (FloatKind.f64.encode (d.integral .down))) := ⟨_, rfl⟩
theorem arch_any (v : Nat) (h : VOk v) : ∃ T, floatToIntVal .f64 T .i64 = some (floorV v : Int) ∧ ∀ w, (callFunc 42 #[.float .f64 v]).run Try.prog w = .ok (.value (.float .f64 T)) w := by
  obtain ⟨s, hw, hs⟩ := whole h
  refine ⟨double.write (.number s (floorV v) 0), int_back _ (by have := floor_lt h; omega) s hs, fun w => ?_⟩
  have hr := run_callFunc_extern Try.func42 (by kernel_rfl) (by kernel_rfl) (by kernel_rfl) (e := Extern.MathFloor.toIntegral "math.archFloor" .down) (by kernel_rfl) #[.float .f64 v] w
  rw [hr]
  have hd : FloatKind.f64.decode v = double.read v := rfl
  have he : ∀ d, FloatKind.f64.encode d = double.write d := fun d => rfl
  obtain ⟨m, a, e1, e2⟩ := read_fin v (by have := h.2.1; omega)
  have hn : Extern.MathFloor.toIntegral "math.archFloor" .down #[.float .f64 v] = pure (.float .f64 (double.write ((double.read v).integral .down))) := by
    obtain ⟨N, hN⟩ := floor_form v
    rw [hN, hd, e1]
    rfl
  rw [hn, hw]
  rfl
theorem floor_any (v : Nat) (h : VOk v) (w : World) : Calls Try.prog 35 #[.float .f64 v] w fun e w' => ∃ T, e = .returned (.float .f64 T) ∧ floatToIntVal .f64 T .i64 = some (floorV v : Int) ∧ w = w' := by
  obtain ⟨T, hT, hr⟩ := arch_any v h
  have HT := hide hT
  clear hT
  go_enter Try.func35, Try.ntmps35
  go_wp2
  go_ret
  exact ⟨_, rfl, HT.out, rfl⟩
end Go.Proofs.Ytkkapajpgfjomaa.Gauge
