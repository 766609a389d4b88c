/- Floats in a walk: what the comparisons, sums and differences of two floats give. No condition. -/
import Derived.Test.YtfckciblnojniaaDoorKit
import Derived.Test.YtfckciblnojniaaDoorFlt
import Derived.WalkLawsBesides
import Derived.Laws.Externs
namespace Go.Proofs.YtfckciblnojniaaDoor.Flt
open Go.ChangeShapes Go.WideShapes Go.ChangeAt Go.RowKit Go.Proofs.YtfckciblnojniaaDoor.Kit
set_option linter.unusedVariables false
@[go_sem] theorem o_lt (x y : Nat) : (FloatKind.f64.format.order x y == some .lt) = fltB x y := ord_lt x y
@[go_sem] theorem o_gt (x y : Nat) : (FloatKind.f64.format.order x y == some .gt) = fltB y x := ord_gt x y
@[go_sem] theorem o_eq (x y : Nat) : (FloatKind.f64.format.order x y == some .eq) = feqB x y := ord_eq x y
@[go_sem] theorem o_ne (x y : Nat) : (FloatKind.f64.format.order x y != some .eq) = !feqB x y := by rw [← o_eq]; rfl
attribute [go_sem] ord_le ord_ge
/-- The no-number that an invalid sum or difference is. -/
def nanZ (w : World) (x y : Nat) : Nat := (Question.nanBits .f64 x y).cut (w.tape w.drawn (.nanBits .f64 x y))
theorem nanZ_form (t : Nat) : nanB ((t % 2) * 2 ^ 63 + 0x7ff0000000000000 + 1 + (t / 2) % (2 ^ 52 - 1)) = true := by
  unfold nanB rg
  refine decide_eq_true ?_
  simp only [Nat.reducePow, Nat.reduceSub]
  rcases Nat.mod_two_eq_zero_or_one t with h | h <;> rw [h] <;> omega
@[go_sem] theorem nanZ_nan (w : World) (x y : Nat) : nanB (nanZ w x y) = true := nanZ_form _
theorem nanZ_lt (w : World) (x y : Nat) : nanZ w x y < 18446744073709551616 := by
  have h : ∀ t : Nat, (t % 2) * 2 ^ 63 + 0x7ff0000000000000 + 1 + (t / 2) % (2 ^ 52 - 1) < 18446744073709551616 := by
    intro t
    simp only [Nat.reducePow, Nat.reduceSub]
    omega
  exact h _
section
variable {P : Program}
theorem run_bad_sub {x y : Nat} (h : Ieee.double.sub x y = none) (t : TypeId) (w : World) : (binOp .sub t (.float .f64 x) (.float .f64 y)).run P w = .ok (.float .f64 (nanZ w x y)) w.drew := by
  have h' : FloatKind.f64.format.sub x y = none := h
  simp [binOp, Op.floatArith, h', Question.forced, nanZ]
theorem run_bad_add {x y : Nat} (h : Ieee.double.add x y = none) (t : TypeId) (w : World) : (binOp .add t (.float .f64 x) (.float .f64 y)).run P w = .ok (.float .f64 (nanZ w x y)) w.drew := by
  have h' : FloatKind.f64.format.add x y = none := h
  simp [binOp, Op.floatArith, h', Question.forced, nanZ]
theorem run_ok_sub {x y z : Nat} (h : Ieee.double.sub x y = some z) (t : TypeId) (w : World) : (binOp .sub t (.float .f64 x) (.float .f64 y)).run P w = .ok (.float .f64 z) w := run_float_arith w .sub t .f64 x y z h
theorem run_ok_add {x y z : Nat} (h : Ieee.double.add x y = some z) (t : TypeId) (w : World) : (binOp .add t (.float .f64 x) (.float .f64 y)).run P w = .ok (.float .f64 z) w := run_float_arith w .add t .f64 x y z h
end

/-- Of which class a float is. -/
def classS (x : Nat) : Int := if nanB x = true then 1 else if rg x = 9218868437227405312 then 2 else if rg x = 0 then 3 else if rg x < 4503599627370496 then 4 else 5
theorem rg_rg (x : Nat) : rg (rg x) = rg x := by unfold rg; omega
theorem neg_rg (x : Nat) : NEG (rg x) = false := by
  unfold NEG rg
  rw [Nat.div_eq_of_lt (Nat.mod_lt _ (by decide))]; rfl
theorem nan_rg (x : Nat) : nanB (rg x) = nanB x := by unfold nanB; rw [rg_rg]
theorem key_rg (x : Nat) : key (rg x) = rg x := by unfold key sg; rw [neg_rg, rg_rg]; rfl
theorem feq_self (x : Nat) : feqB x x = !nanB x := by unfold feqB; cases nanB x <;> simp
theorem flt_lit (x c : Nat) (hc : c < 9218868437227405312) : fltB c (rg x) = (!nanB x && decide (c < rg x)) ∧ fltB (rg x) c = (!nanB x && decide (rg x < c)) ∧ feqB (rg x) c = (!nanB x && decide (rg x = c)) := by
  have h1 : rg c = c := by unfold rg; omega
  have h2 : key c = c := by have := key_rg c; rwa [h1] at this
  have h3 : nanB c = false := by unfold nanB; rw [h1]; exact decide_eq_false (by omega)
  unfold fltB feqB
  rw [nan_rg, key_rg, h2, h3]
  cases nanB x <;> simp <;> omega
theorem call_bits (x : Nat) (w : World) : (callFunc 65 #[.float .f64 x]).run Tryd.prog w = .ok (.value (.int .u64 x)) w :=
  run_callFunc_extern Tryd.func65 (by kernel_rfl) (by kernel_rfl) (by kernel_rfl) (e := Extern.MathFloatBits.float64bits) (by kernel_rfl) _ w
attribute [go_sem] call_bits
theorem call_from (n : Int) (w : World) : (callFunc 70 #[.int .u64 n]).run Tryd.prog w = .ok (.value (.float .f64 n.toNat)) w :=
  run_callFunc_extern Tryd.func70 (by kernel_rfl) (by kernel_rfl) (by kernel_rfl) (e := Extern.MathFloatBits.float64frombits) (by kernel_rfl) _ w
attribute [go_sem] call_from
end Go.Proofs.YtfckciblnojniaaDoor.Flt
