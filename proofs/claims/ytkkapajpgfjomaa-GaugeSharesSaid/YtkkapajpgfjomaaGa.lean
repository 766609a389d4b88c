/- Quotients, means and differences of floats, by the program and by the reference: the same bits, or a no-number both. No condition. -/
import Derived.Test.YtkkapajpgfjomaaReal
import Derived.Test.YtkkapajpgfjomaaEnc
import Derived.Test.YtkkapajpgfjomaaFltS
import Derived.Laws.FloatArith
import Derived.LoopTactic
import Derived.Handy
namespace Go.Proofs.Ytkkapajpgfjomaa.Gauge
open Go.ChangeShapes Go.WideShapes Go.ChangeAt Go.RowKit Go.Proofs.Ytkkapajpgfjomaa.Kit Go.Proofs.Ytkkapajpgfjomaa.Flt Go.Proofs.Ytkkapajpgfjomaa.Real Go.Proofs.Ytkkapajpgfjomaa.Mem Go.Deep
open Ieee
set_option linter.unusedVariables false
set_option linter.unusedSimpArgs false
section
variable {P : Program}
theorem run_bad_quo {x y : Nat} (h : double.div x y = none) (t : TypeId) (w : World) : (binOp .quo t (.float .f64 x) (.float .f64 y)).run P w = .ok (.float .f64 (nanZ w x y)) w.drew := by
  have h' : FloatKind.f64.format.div x y = none := h
  simp [binOp, Op.floatArith, h', Question.forced, nanZ]
theorem run_ok_quo {x y z : Nat} (h : double.div x y = some z) (t : TypeId) (w : World) : (binOp .quo t (.float .f64 x) (.float .f64 y)).run P w = .ok (.float .f64 z) w := run_float_arith w .quo t .f64 x y z h
end
/-- The bits r are those of o; or a no-number, where there is none. -/
def IsO (o : Option Nat) (r : Nat) : Prop := r < 18446744073709551616 ∧ match o with | some z => r = z | none => nanB r = true
theorem isO_some {z : Nat} (h : z < 18446744073709551616) : IsO (some z) z := ⟨h, rfl⟩
theorem isO_none {r : Nat} (h : r < 18446744073709551616) (h2 : nanB r = true) : IsO none r := ⟨h, h2⟩
theorem isO_nanZ (w : World) (x y : Nat) : IsO none (nanZ w x y) := ⟨nanZ_lt w x y, nanZ_nan w x y⟩
theorem nan_read {x : Nat} (h : nanB x = true) : ∃ s f, double.read x = .nan s f := by
  unfold nanB at h
  obtain ⟨f, e⟩ := read_nan x (of_decide_eq_true h)
  exact ⟨_, f, e⟩
theorem add_nan {x : Nat} (y : Nat) (h : nanB x = true) : double.add x y = none := by
  obtain ⟨s, f, e⟩ := nan_read h
  unfold Format.add
  rw [e]
  rfl
theorem add_nan2 (x : Nat) {y : Nat} (h : nanB y = true) : double.add x y = none := by
  obtain ⟨s, f, e⟩ := nan_read h
  unfold Format.add
  rw [e]
  cases double.read x <;> rfl
theorem div_nan {x : Nat} (y : Nat) (h : nanB x = true) : double.div x y = none := by
  obtain ⟨s, f, e⟩ := nan_read h
  unfold Format.div
  rw [e]
  rfl
theorem isO_add {o : Option Nat} {r : Nat} (h : IsO o r) (y : Nat) : double.add r y = o.bind (fun x => double.add x y) := by
  cases o with
  | some z => rw [show r = z from h.2]; rfl
  | none => exact add_nan y h.2
theorem isO_add2 {o : Option Nat} {r : Nat} (h : IsO o r) (x : Nat) : double.add x r = o.bind (fun y => double.add x y) := by
  cases o with
  | some z => rw [show r = z from h.2]; rfl
  | none => exact add_nan2 x h.2
theorem isO_div {o : Option Nat} {r : Nat} (h : IsO o r) (y : Nat) : double.div r y = o.bind (fun x => double.div x y) := by
  cases o with
  | some z => rw [show r = z from h.2]; rfl
  | none => exact div_nan y h.2
theorem w_lt (d : Datum) : double.write d < 18446744073709551616 := double.write_lt d
theorem add_lt {x y z : Nat} (h : double.add x y = some z) : z < 18446744073709551616 := double.add_lt h
theorem sub_lt {x y z : Nat} (h : double.sub x y = some z) : z < 18446744073709551616 := double.sub_lt h
theorem div_lt {x y z : Nat} (h : double.div x y = some z) : z < 18446744073709551616 := double.div_lt h
/-- The quotient of two whole numbers. -/
def shareO (n d : Int) : Option Nat := double.div (floatOfInt .f64 n) (floatOfInt .f64 d)
def FltPost (w : World) (o : Option Nat) (e : Ending) (w' : World) : Prop := ∃ r, e = .returned (.float .f64 r) ∧ IsO o r ∧ Below w.heap.size w w'
theorem share_any (n d : Int) (w : World) : Calls Try.prog 11 #[.int .i64 n, .int .i64 d] w (FltPost w (shareO n d)) := by
  cases h : shareO n d with
  | none =>
    have hq := fun t (w : World) => run_bad_quo (P := Try.prog) (x := floatOfInt .f64 n) (y := floatOfInt .f64 d) h t w
    go_enter Try.func11, Try.ntmps11
    go_wp2
    go_ret
    exact ⟨_, rfl, isO_nanZ _ _ _, (Below.refl _ _).drew⟩
  | some z =>
    have hq := fun t (w : World) => run_ok_quo (P := Try.prog) (x := floatOfInt .f64 n) (y := floatOfInt .f64 d) h t w
    go_enter Try.func11, Try.ntmps11
    go_wp2
    go_ret
    exact ⟨_, rfl, isO_some (div_lt h), Below.refl _ _⟩
theorem rshare_any (n d : Int) (w : World) : Calls Try.prog 12 #[.int .i64 n, .int .i64 d] w (FltPost w (shareO n d)) := by
  cases h : shareO n d with
  | none =>
    have hq := fun t (w : World) => run_bad_quo (P := Try.prog) (x := floatOfInt .f64 n) (y := floatOfInt .f64 d) h t w
    go_enter Try.func12, Try.ntmps12
    go_wp2
    go_ret
    exact ⟨_, rfl, isO_nanZ _ _ _, (Below.refl _ _).drew⟩
  | some z =>
    have hq := fun t (w : World) => run_ok_quo (P := Try.prog) (x := floatOfInt .f64 n) (y := floatOfInt .f64 d) h t w
    go_enter Try.func12, Try.ntmps12
    go_wp2
    go_ret
    exact ⟨_, rfl, isO_some (div_lt h), Below.refl _ _⟩
theorem class_one (x : Nat) : (classS x == 1) = nanB x := by
  unfold classS
  cases nanB x
  · rw [if_neg (by decide)]
    repeat' split
    all_goals rfl
  · rfl
theorem none_any (x : Nat) (hx : x < 18446744073709551616) (w : World) : Calls Try.prog 27 #[.float .f64 x] w fun e w' => e = .returned (.bool (nanB x)) ∧ w = w' := by
  have B1 := fun w => rbits_any x w
  have C1 := fun w => rclass_any x hx w
  have h1 := class_one x
  generalize classS x = c at *
  go_enter Try.func27, Try.ntmps27
  go_wp2_with (first | (go_at_call 26; refine (B1 _).mono ?_; rintro e w1 ⟨rfl, rfl⟩) | (go_at_call 37; refine (C1 _).mono ?_; rintro e w1 ⟨rfl, rfl⟩) | ((with_reducible change Code.wp _ (Code.region _ _ _) _ _ _); refine wp_region_quiet_below (by kernel_rfl) (by kernel_rfl) ?_; (repeat (first | go_big_quiet_step ((first | (go_at_call 26; exact Calls.regrown_of (below_of_same (B1 _))) | (go_at_call 37; exact Calls.regrown_of (below_of_same (C1 _))))) | quiet_step ((first | (go_at_call 26; exact Calls.regrown_of (below_of_same (B1 _))) | (go_at_call 37; exact Calls.regrown_of (below_of_same (C1 _))))))); refine wpQuiet_nil ?_; intro w1 hw1; have hb := below_of_regrown hw1; clear hw1; obtain ⟨hS, hE, hz, hc, hf⟩ := bcell hb; (try simp only [go_sem] at hE); subst hE))
  go_ret
  exact ⟨rfl, rfl⟩
theorem one_any (o : Option Nat) (x y : Nat) (hx : IsO o x) (hy : IsO o y) (w : World) : Calls Try.prog 10 #[.float .f64 x, .float .f64 y] w fun e w' => e = .returned (.bool true) ∧ w = w' := by
  have B1 := fun w => rbits_any x w
  have B2 := fun w => rbits_any y w
  by_cases h : x = y
  · subst h
    go_enter Try.func10, Try.ntmps10
    go_wp2_with (first | (go_at_call 26; refine (B1 _).mono ?_; rintro e w1 ⟨rfl, rfl⟩) | ((with_reducible change Code.wp _ (Code.region _ _ _) _ _ _); refine wp_region_quiet_below (by kernel_rfl) (by kernel_rfl) ?_; (repeat (first | go_big_quiet_step ((first | (go_at_call 26; exact Calls.regrown_of (below_of_same (B1 _))))) | quiet_step ((first | (go_at_call 26; exact Calls.regrown_of (below_of_same (B1 _))))))); refine wpQuiet_nil ?_; intro w1 hw1; have hb := below_of_regrown hw1; clear hw1; obtain ⟨hS, hE, hz, hc, hf⟩ := bcell hb; (try simp only [go_sem] at hE); subst hE))
    go_ret
    exact ⟨rfl, rfl⟩
  · have N1 := fun w => none_any x hx.1 w
    have N2 := fun w => none_any y hy.1 w
    have b1 : ((x : Int) == (y : Int)) = false := beq_eq_false_iff_ne.2 (by omega)
    cases o with
    | some z => exact absurd (hx.2.trans hy.2.symm) h
    | none =>
      rw [show nanB x = true from hx.2] at N1
      rw [show nanB y = true from hy.2] at N2
      go_enter Try.func10, Try.ntmps10
      go_wp2_with (first | (go_at_call 26; (with_reducible refine (B1 _).mono ?_); rintro e w1 ⟨rfl, rfl⟩) | (go_at_call 26; (with_reducible refine (B2 _).mono ?_); rintro e w1 ⟨rfl, rfl⟩) | (go_at_call 27; (with_reducible refine (N1 _).mono ?_); rintro e w1 ⟨rfl, rfl⟩) | (go_at_call 27; (with_reducible refine (N2 _).mono ?_); rintro e w1 ⟨rfl, rfl⟩) | ((with_reducible change Code.wp _ (Code.region _ _ _) _ _ _); refine wp_region_quiet_below (by kernel_rfl) (by kernel_rfl) ?_; (repeat (first | go_big_quiet_step ((first | (go_at_call 26; (with_reducible refine Calls.regrown_of (below_of_same (B1 _)));) | (go_at_call 26; (with_reducible refine Calls.regrown_of (below_of_same (B2 _)));) | (go_at_call 27; (with_reducible refine Calls.regrown_of (below_of_same (N1 _)));) | (go_at_call 27; (with_reducible refine Calls.regrown_of (below_of_same (N2 _)));))) | quiet_step ((first | (go_at_call 26; (with_reducible refine Calls.regrown_of (below_of_same (B1 _)));) | (go_at_call 26; (with_reducible refine Calls.regrown_of (below_of_same (B2 _)));) | (go_at_call 27; (with_reducible refine Calls.regrown_of (below_of_same (N1 _)));) | (go_at_call 27; (with_reducible refine Calls.regrown_of (below_of_same (N2 _)));))))); refine wpQuiet_nil ?_; intro w1 hw1; have hb := below_of_regrown hw1; clear hw1; obtain ⟨hS, hE, hz, hc, hf⟩ := bcell hb; (try simp only [go_sem] at hE); subst hE))
      go_ret
      exact ⟨rfl, rfl⟩
theorem nan_any (w : World) : Calls Try.prog 25 #[] w fun e w' => e = .returned (.float .f64 9221120237041090561) ∧ w = w' := by
  go_enter Try.func25, Try.ntmps25
  go_wp2
  go_ret
  exact ⟨rfl, rfl⟩
/-- The sum of floats, and their mean. -/
def sumO (l : List Nat) : Option Nat := l.foldl (fun o y => o.bind fun x => double.add x y) (some 0)
def meanO (l : List Nat) : Option Nat := (sumO l).bind fun x => double.div x (floatOfInt .f64 l.length)
theorem sum_take (l : List Nat) (k : Nat) (h : k < l.length) : sumO (l.take (k + 1)) = (sumO (l.take k)).bind fun x => double.add x (l.getD k 0) := by
  unfold sumO
  rw [List.take_add_one, List.foldl_append, List.getElem?_eq_getElem h, List.getD_eq_getElem?_getD, List.getElem?_eq_getElem h]
  rfl
set_option maxHeartbeats 2000000 in
theorem mean_any {w : World} {B n c : Nat} {A : Option Addr} {l : List Nat} (hr : SRow encF 1 w B A n l) (hB : B ≤ w.heap.size) (hn : n ≤ 100000) : Calls Try.prog 14 #[.slice A n c] w (FltPost w (meanO l)) := by
  have e1 := hr.1
  subst e1
  have HR := hide hr
  clear hr
  go_enter Try.func14, Try.ntmps14
  go_wp2
  go_loopw [3, 8] (fun s i wr => ∃ (k r : Nat), k ≤ l.length ∧ s = .float .f64 r ∧ i = .int .i64 k ∧ Hid (IsO (sumO (l.take k)) r) ∧ Below w.heap.size w wr) (fun _ i _ => l.length - (intOf i).toNat)
  case atStart => exact ⟨0, 0, Nat.zero_le _, rfl, rfl, hide (isO_some (by decide)), Below.refl _ _⟩
  case round =>
    obtain ⟨k, r, hk, rfl, rfl, HS, hbw⟩ := hrel
    have hz0 := hbw.size
    by_cases hlt : k < l.length
    · obtain ⟨b, off, rfl, hbB, hcell⟩ := frow_cells HR.out (by omega)
      have d0 := (hbw.cell (p := ⟨b, off + k, none⟩) (by dsimp only; omega)).trans (hcell k hlt)
      have HT := hide (sum_take l k hlt)
      have HA := hide (isO_add HS.out (l.getD k 0))
      clear hcell
      generalize l.getD k 0 = y at *
      cases h : double.add r y with
      | none =>
        have hq := fun t (w : World) => run_bad_add (P := Try.prog) h t w
        have HN : Hid (∀ w' : World, IsO (sumO (l.take (k + 1))) (nanZ w' r y)) := hide (by rw [HT.out, ← HA.out, h]; exact fun w' => isO_nanZ _ _ _)
        clear h HT HA HS
        go_wp2
        exact ⟨⟨k + 1, _, by omega, rfl, by go_num, hide (HN.out _), hbw.drew⟩, by simp [intOf]; omega⟩
      | some z =>
        have hq := fun t (w : World) => run_ok_add (P := Try.prog) h t w
        have HN : Hid (IsO (sumO (l.take (k + 1))) z) := hide (by rw [HT.out, ← HA.out, h]; exact isO_some (add_lt h))
        clear h HT HA HS
        go_wp2
        exact ⟨⟨k + 1, z, by omega, rfl, by go_num, HN, hbw⟩, by simp [intOf]; omega⟩
    · obtain rfl : k = l.length := by omega
      rw [List.take_length] at HS
      have HA := hide (isO_div HS.out (floatOfInt .f64 l.length))
      cases h : double.div r (floatOfInt .f64 l.length) with
      | none =>
        have hq := fun t (w : World) => run_bad_quo (P := Try.prog) h t w
        have HM : Hid (meanO l = none) := hide (HA.out.symm.trans h)
        clear h HA HS
        go_wp2
        go_ret
        exact ⟨_, rfl, by rw [HM.out]; exact isO_nanZ _ _ _, hbw.drew⟩
      | some z =>
        have hq := fun t (w : World) => run_ok_quo (P := Try.prog) h t w
        have HM : Hid (meanO l = some z) := hide (HA.out.symm.trans h)
        have hz := div_lt h
        clear h HA HS
        go_wp2
        go_ret
        exact ⟨_, rfl, by rw [HM.out]; exact isO_some hz, hbw⟩
end Go.Proofs.Ytkkapajpgfjomaa.Gauge
