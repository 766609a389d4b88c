/- What a float's class is, by the program and by the reference, and what both say of borders. No condition. -/
import Derived.Test.YtfckciblnojniaaDoorFltW
import Derived.Test.YtfckciblnojniaaDoorOpen
import Derived.Test.YtfckciblnojniaaDoorRailL
import Derived.Handy
import Derived.Laws.BitsAllLaws
namespace Go.Proofs.YtfckciblnojniaaDoor.Rail
open Go.ChangeShapes Go.WideShapes Go.ChangeAt Go.RowKit Go.Proofs.YtfckciblnojniaaDoor.Kit Go.Proofs.YtfckciblnojniaaDoor.Mem Go.Proofs.YtfckciblnojniaaDoor.Flt
set_option linter.unusedVariables false
theorem bits_abs (x : Nat) (hx : x < 18446744073709551616) : bits .andNot .u64 (x : Int) 9223372036854775808 = (rg x : Int) := by
  have h := u64_andNot_nat x 9223372036854775808 hx (by decide)
  have h2 := Nat.and_two_pow_sub_one_eq_mod x 63
  refine h.trans ?_
  unfold rg
  exact congrArg (fun n : Nat => (n : Int)) h2
theorem abs_any (x : Nat) (hx : x < 18446744073709551616) (w : World) : Calls Tryd.prog 64 #[.float .f64 x] w fun e w' => e = .returned (.float .f64 (rg x)) ∧ w = w' := by
  have hb := bits_abs x hx
  go_enter Tryd.func64, Tryd.ntmps64
  go_wp2
  go_ret
  exact ⟨rfl, rfl⟩
theorem classS_one (x : Nat) : (classS x == 1) = nanB x := by
  unfold classS
  cases nanB x
  · simp only [Bool.false_eq_true, if_false]
    repeat' split
    all_goals rfl
  · rfl
theorem class_any (x : Nat) (hx : x < 18446744073709551616) (w : World) : Calls Tryd.prog 55 #[.float .f64 x] w fun e w' => e = .returned (.int .i64 (classS x)) ∧ w = w' := by
  obtain ⟨f1, -, -⟩ := flt_lit x 9218868437227405311 (by decide)
  obtain ⟨-, -, f3⟩ := flt_lit x 0 (by decide)
  obtain ⟨-, f5, -⟩ := flt_lit x 4503599627370496 (by decide)
  have f0 := feq_self x
  have hd : Hid (classS x = if nanB x = true then 1 else if rg x = 9218868437227405312 then 2 else if rg x = 0 then 3 else if rg x < 4503599627370496 then 4 else 5) := hide rfl
  have hn : Hid (nanB x = decide (9218868437227405312 < rg x)) := hide rfl
  go_enter Tryd.func55, Tryd.ntmps55
  go_wp2_with (go_at_call 64; refine (abs_any _ hx _).mono ?_; rintro e w1 ⟨rfl, rfl⟩)
  all_goals
    go_ret
    refine ⟨ret_int ?_, rfl⟩
    rw [hd.out]
    clear f0 f1 f3 f5 hd
    have hn := hn.out
    repeat' split
    all_goals first | rfl | (simp_all <;> omega)
theorem none_any (x : Nat) (hx : x < 18446744073709551616) (w : World) : Calls Tryd.prog 47 #[.float .f64 x] w fun e w' => e = .returned (.bool (nanB x)) ∧ w = w' := by
  have h1 := classS_one x
  go_enter Tryd.func47, Tryd.ntmps47
  go_wp2_with (go_at_call 55; refine (class_any _ hx _).mono ?_; rintro e w1 ⟨rfl, rfl⟩)
  go_ret
  exact ⟨rfl, rfl⟩
theorem rbits_any (x : Nat) (w : World) : Calls Tryd.prog 57 #[.float .f64 x] w fun e w' => e = .returned (.int .u64 x) ∧ w = w' := by
  go_enter Tryd.func57, Tryd.ntmps57
  go_wp2
  go_ret
  exact ⟨rfl, rfl⟩
theorem rclass_any (x : Nat) (hx : x < 18446744073709551616) (w : World) : Calls Tryd.prog 56 #[.int .u64 x] w fun e w' => e = .returned (.int .i64 (classS x)) ∧ w = w' := by
  have hd : Hid (classS x = if nanB x = true then 1 else if rg x = 9218868437227405312 then 2 else if rg x = 0 then 3 else if rg x < 4503599627370496 then 4 else 5) := hide rfl
  have hn : Hid (nanB x = decide (9218868437227405312 < rg x)) := hide rfl
  have hg : Hid (rg x = x % 9223372036854775808) := hide rfl
  go_enter Tryd.func56, Tryd.ntmps56
  go_wp2
  all_goals
    go_ret
    refine ⟨ret_int ?_, rfl⟩
    rw [hd.out]
    have hn := hn.out
    have hg := hg.out
    clear hd
    repeat' split
    all_goals first | rfl | (simp_all <;> omega)
theorem rnone_any (x : Nat) (hx : x < 18446744073709551616) (w : World) : Calls Tryd.prog 48 #[.float .f64 x] w fun e w' => e = .returned (.bool (nanB x)) ∧ w = w' := by
  have h1 := classS_one x
  go_enter Tryd.func48, Tryd.ntmps48
  go_wp2_with (first | (go_at_call 57; refine (rbits_any _ _).mono ?_; rintro e w1 ⟨rfl, rfl⟩) | (go_at_call 56; refine (rclass_any _ hx _).mono ?_; rintro e w1 ⟨rfl, rfl⟩))
  go_ret
  exact ⟨rfl, rfl⟩

/-- Borders in memory. -/
structure FRow (w : World) (B0 : Nat) (A : Option Addr) (l : List Nat) : Prop where
  row : Row w B0 A l.length (fun j => .float .f64 (B l j))
  len : l.length ≤ 9223372036854775807
  fit : ∀ j, B l j < 18446744073709551616
theorem FRow.below {w w' : World} {B0 B1 : Nat} {A : Option Addr} {l : List Nat} (h : FRow w B0 A l) (hb : Below B1 w w') (hB : B0 ≤ B1) : FRow w' B0 A l := ⟨row_below h.row hb hB, h.len, h.fit⟩
theorem FRow.alloc {w : World} {B0 : Nat} {A : Option Addr} {l : List Nat} (h : FRow w B0 A l) (hB : B0 ≤ w.heap.size) (o : Obj) : FRow (w.alloc o) B0 A l := ⟨row_alloc h.row hB o, h.len, h.fit⟩
theorem FRow.more {w : World} {B0 B1 : Nat} {A : Option Addr} {l : List Nat} (h : FRow w B0 A l) (hB : B0 ≤ B1) : FRow w B1 A l := ⟨row_more h.row hB, h.len, h.fit⟩
section
variable {l : List Nat} {A : Option Addr} {B0 : Nat} {w : World}
theorem check_any (hr : FRow w B0 A l) (c : Nat) : Calls Tryd.prog 29 #[.slice A l.length c] w fun e w' => e = .returned (.int .i64 (chkS l)) ∧ w = w' := by
  have hlen := hr.len
  by_cases h1 : l.length < 2
  · have hS : Hid (chkS l = 1) := hide (by unfold chkS; rw [if_pos h1])
    go_enter Tryd.func29, Tryd.ntmps29
    go_wp2
    go_ret
    exact ⟨ret_int hS.out.symm, rfl⟩
  by_cases h2 : 25 < l.length
  · have hS : Hid (chkS l = 2) := hide (by unfold chkS; rw [if_neg h1, if_pos h2])
    go_enter Tryd.func29, Tryd.ntmps29
    go_wp2
    go_ret
    exact ⟨ret_int hS.out.symm, rfl⟩
  have hS : Hid (chkS l = chkFrom l l.length 0) := hide (by unfold chkS; rw [if_neg h1, if_neg h2])
  go_enter Tryd.func29, Tryd.ntmps29
  go_wp2
  go_loop [15] (fun i => ∃ k : Nat, k ≤ l.length ∧ i = .int .i64 k ∧ chkFrom l (l.length - k) k = chkFrom l l.length 0) (fun i => l.length - (intOf i).toNat)
  case atStart => exact ⟨0, Nat.zero_le _, rfl, rfl⟩
  case round =>
    obtain ⟨k, hk, rfl, hf⟩ := hrel
    by_cases hlt : k < l.length
    · obtain ⟨b, off, rfl, hb, hc⟩ := hr.row (by omega)
      have c1 : w.cell? ⟨b, off + k, none⟩ = some (.float .f64 (B l k)) := hc k hlt
      have x1 := hr.fit k
      have c0 : 0 < k → w.cell? ⟨b, off + (k - 1), none⟩ = some (.float .f64 (B l (k - 1))) := fun h => hc (k - 1) (by omega)
      have hf2 : Hid (chkFrom l l.length 0 = if nanB (B l k) = true then 20 else if 0 < k ∧ fltB (B l (k - 1)) (B l k) = false then 70 else chkFrom l (l.length - (k + 1)) (k + 1)) := hide (by
        rw [← hf, show l.length - k = (l.length - (k + 1)) + 1 by omega]; rfl)
      clear hf hc
      generalize B l k = x at *
      generalize B l (k - 1) = y at *
      by_cases hn : nanB x = true
      · go_wp2_with (go_at_call 47; refine (none_any _ x1 _).mono ?_; rintro e w1 ⟨rfl, rfl⟩)
        go_ret
        exact ⟨ret_int (by rw [hS.out, hf2.out, if_pos hn]), rfl⟩
      · rw [Bool.not_eq_true] at hn
        by_cases hk0 : k = 0
        · subst hk0
          rw [Nat.add_zero] at c1
          go_wp2_with (go_at_call 47; refine (none_any _ x1 _).mono ?_; rintro e w1 ⟨rfl, rfl⟩)
          go_round
          case rel => exact ⟨1, by omega, by go_num, by rw [hf2.out, hn, if_neg (by simp), if_neg (by simp)]⟩
          case measure => simp [intOf]; omega
        · have c00 := c0 (by omega)
          have ek : ((k : Int) - 1).toNat = k - 1 := by omega
          clear c0
          by_cases hlt2 : fltB y x = true
          · go_wp2_with (go_at_call 47; refine (none_any _ x1 _).mono ?_; rintro e w1 ⟨rfl, rfl⟩)
            go_round
            case rel => exact ⟨k + 1, by omega, by go_num, by rw [hf2.out, hn, if_neg (by simp), if_neg (by simp [hlt2])]⟩
            case measure => simp [intOf]; omega
          · rw [Bool.not_eq_true] at hlt2
            go_wp2_with (go_at_call 47; refine (none_any _ x1 _).mono ?_; rintro e w1 ⟨rfl, rfl⟩)
            go_ret
            exact ⟨ret_int (by rw [hS.out, hf2.out, hn, if_neg (by simp), if_pos ⟨by omega, hlt2⟩]), rfl⟩
    · obtain rfl : k = l.length := by omega
      go_wp2
      go_ret
      exact ⟨ret_int (by rw [hS.out, ← hf, Nat.sub_self]; rfl), rfl⟩
end
end Go.Proofs.YtfckciblnojniaaDoor.Rail
