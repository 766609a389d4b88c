/- Floats taken apart: class, sign, an odd number and a power of 2, by the program and by the reference. Condition: the library's table is in place (for the parts). -/
import Derived.Test.YtkkapajpgfjomaaFltW
import Derived.Test.YtkkapajpgfjomaaNumO
import Derived.Handy
import Derived.Laws.BitsAllLaws
import Derived.Laws.Bits64b
import Derived.Shelf.Spec.TrailingZeros
namespace Go.Proofs.Ytkkapajpgfjomaa.Real
open Go.ChangeShapes Go.WideShapes Go.ChangeAt Go.RowKit Go.Proofs.Ytkkapajpgfjomaa.Kit Go.Proofs.Ytkkapajpgfjomaa.Flt Go.Deep
set_option linter.unusedVariables false
set_option linter.unusedSimpArgs false
theorem bits_abs (x : Nat) (hx : x < 18446744073709551616) : bits .andNot .u64 (x : Int) 9223372036854775808 = (rg x : Int) := by
  have h := u64_andNot_nat x 9223372036854775808 hx (by decide)
  have h2 := Nat.and_two_pow_sub_one_eq_mod x 63
  refine h.trans ?_
  unfold rg
  exact congrArg (fun n : Nat => (n : Int)) h2
theorem abs_any (x : Nat) (hx : x < 18446744073709551616) (w : World) : Calls Try.prog 31 #[.float .f64 x] w fun e w' => e = .returned (.float .f64 (rg x)) ∧ w = w' := by
  have hb := bits_abs x hx
  go_enter Try.func31, Try.ntmps31
  go_wp2
  go_ret
  exact ⟨rfl, rfl⟩
theorem class_any (x : Nat) (hx : x < 18446744073709551616) (w : World) : Calls Try.prog 32 #[.float .f64 x] w fun e w' => e = .returned (.int .i64 (classS x)) ∧ w = w' := by
  obtain ⟨f1, -, -⟩ := flt_lit x 9218868437227405311 (by decide)
  obtain ⟨-, -, f3⟩ := flt_lit x 0 (by decide)
  obtain ⟨-, f5, -⟩ := flt_lit x 4503599627370496 (by decide)
  have f0 := feq_self x
  have hd : Hid (classS x = if nanB x = true then 1 else if rg x = 9218868437227405312 then 2 else if rg x = 0 then 3 else if rg x < 4503599627370496 then 4 else 5) := hide rfl
  have hn : Hid (nanB x = decide (9218868437227405312 < rg x)) := hide rfl
  go_enter Try.func32, Try.ntmps32
  go_wp2_with (go_at_call 31; refine (abs_any _ hx _).mono ?_; rintro e w1 ⟨rfl, rfl⟩)
  all_goals
    go_ret
    refine ⟨ret_int ?_, rfl⟩
    rw [hd.out]
    clear f0 f1 f3 f5 hd
    have hn := hn.out
    repeat' split
    all_goals first | rfl | (simp_all <;> omega)
theorem rbits_any (x : Nat) (w : World) : Calls Try.prog 26 #[.float .f64 x] w fun e w' => e = .returned (.int .u64 x) ∧ w = w' := by
  go_enter Try.func26, Try.ntmps26
  go_wp2
  go_ret
  exact ⟨rfl, rfl⟩
theorem rclass_any (x : Nat) (hx : x < 18446744073709551616) (w : World) : Calls Try.prog 37 #[.int .u64 x] w fun e w' => e = .returned (.int .i64 (classS x)) ∧ w = w' := by
  have hd : Hid (classS x = if nanB x = true then 1 else if rg x = 9218868437227405312 then 2 else if rg x = 0 then 3 else if rg x < 4503599627370496 then 4 else 5) := hide rfl
  have hn : Hid (nanB x = decide (9218868437227405312 < rg x)) := hide rfl
  have hg : Hid (rg x = x % 9223372036854775808) := hide rfl
  go_enter Try.func37, Try.ntmps37
  go_wp2
  all_goals
    go_ret
    refine ⟨ret_int ?_, rfl⟩
    rw [hd.out]
    have hn := hn.out
    have hg := hg.out
    clear hd
    repeat' split
    all_goals first | rfl | (simp_all <;> omega)
theorem neg_wrap (x : Nat) (hx : x < 18446744073709551616) : decide (wrap64 (x : Int) < 0) = NEG x := by
  unfold NEG
  have h2 : wrap64 (x : Int) = if x < 9223372036854775808 then (x : Int) else (x : Int) - 18446744073709551616 := by
    unfold wrap64
    split <;> omega
  rw [h2]
  by_cases h : x < 9223372036854775808
  · rw [if_pos h, Nat.div_eq_of_lt h]
    exact decide_eq_false (by omega)
  · rw [if_neg h, show x / 9223372036854775808 = 1 by omega]
    exact decide_eq_true (by omega)
theorem sign_any (x : Nat) (hx : x < 18446744073709551616) (w : World) : Calls Try.prog 44 #[.float .f64 x] w fun e w' => e = .returned (.bool (NEG x)) ∧ w = w' := by
  have h := neg_wrap x hx
  go_enter Try.func44, Try.ntmps44
  go_wp2
  go_ret
  exact ⟨rfl, rfl⟩
end Go.Proofs.Ytkkapajpgfjomaa.Real
