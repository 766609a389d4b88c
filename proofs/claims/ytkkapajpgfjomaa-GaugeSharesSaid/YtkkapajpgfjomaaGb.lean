/- Means by the reference; whether two floats are near each other, both ways. No condition. -/
import Derived.Test.YtkkapajpgfjomaaGa
import Derived.Test.YtkkapajpgfjomaaRank
namespace Go.Proofs.Ytkkapajpgfjomaa.Gauge
open Go.ChangeShapes Go.WideShapes Go.ChangeAt Go.RowKit Go.Proofs.Ytkkapajpgfjomaa.Kit Go.Proofs.Ytkkapajpgfjomaa.Flt Go.Proofs.Ytkkapajpgfjomaa.Real Go.Proofs.Ytkkapajpgfjomaa.Mem Go.Deep
open Ieee
set_option linter.unusedVariables false
set_option linter.unusedSimpArgs false
theorem nan_lit : nanB 9221120237041090561 = true := by decide
theorem zero_zero : double.div 0 (floatOfInt .f64 0) = none := by decide +kernel
set_option maxHeartbeats 2000000 in
theorem rmean_any {w : World} {B n c : Nat} {A : Option Addr} {l : List Nat} (hr : SRow encF 1 w B A n l) (hB : B ≤ w.heap.size) (hn : n ≤ 100000) : Calls Try.prog 15 #[.slice A n c] w (FltPost w (meanO l)) := by
  have e1 := hr.1
  subst e1
  have HR := hide hr
  clear hr
  have cN := fun w => nan_any w
  by_cases h0 : l = []
  · subst h0
    go_enter Try.func15, Try.ntmps15
    go_wp2_with (first | (go_at_call 25; refine (cN _).mono ?_; rintro e w1 ⟨rfl, rfl⟩) | ((with_reducible change Code.wp _ (Code.region _ _ _) _ _ _); refine wp_region_quiet_below (by kernel_rfl) (by kernel_rfl) ?_; (repeat (first | go_big_quiet_step ((first | (go_at_call 25; exact Calls.regrown_of (below_of_same (cN _))))) | quiet_step ((first | (go_at_call 25; exact Calls.regrown_of (below_of_same (cN _))))))); refine wpQuiet_nil ?_; intro w1 hw1; have hb := below_of_regrown hw1; clear hw1; obtain ⟨hS, hE, hz, hc, hf⟩ := bcell hb; (try simp only [go_sem] at hE); subst hE))
    go_ret
    exact ⟨_, rfl, by rw [show meanO [] = none from zero_zero]; exact ⟨by decide, nan_lit⟩, Below.refl _ _⟩
  have hl0 : 0 < l.length := List.length_pos_iff.2 h0
  clear h0
  go_enter Try.func15, Try.ntmps15
  go_wp2
  go_loopw [3, 4] (fun s i wr => ∃ (k r : Nat), k ≤ l.length ∧ s = .float .f64 r ∧ i = .int .i64 k ∧ Hid (IsO (sumO (l.take k)) r) ∧ Below w.heap.size w wr) (fun _ i _ => l.length - (intOf i).toNat)
  case atStart => exact ⟨0, 0, Nat.zero_le _, rfl, rfl, hide (isO_some (by decide)), Below.refl _ _⟩
  case round =>
    obtain ⟨k, r, hk, rfl, rfl, HS, hbw⟩ := hrel
    have hz0 := hbw.size
    by_cases hlt : k < l.length
    · obtain ⟨b, off, rfl, hbB, hcell⟩ := frow_cells HR.out (by omega)
      have d0 := (hbw.cell (p := ⟨b, off + k, none⟩) (by dsimp only; omega)).trans (hcell k hlt)
      have HT := hide (sum_take l k hlt)
      have HA := hide (isO_add HS.out (l.getD k 0))
      clear hcell
      generalize l.getD k 0 = y at *
      cases h : double.add r y with
      | none =>
        have hq := fun t (w : World) => run_bad_add (P := Try.prog) h t w
        have HN : Hid (∀ w' : World, IsO (sumO (l.take (k + 1))) (nanZ w' r y)) := hide (by rw [HT.out, ← HA.out, h]; exact fun w' => isO_nanZ _ _ _)
        clear h HT HA HS
        go_wp2
        exact ⟨⟨k + 1, _, by omega, rfl, by go_num, hide (HN.out _), hbw.drew⟩, by simp [intOf]; omega⟩
      | some z =>
        have hq := fun t (w : World) => run_ok_add (P := Try.prog) h t w
        have HN : Hid (IsO (sumO (l.take (k + 1))) z) := hide (by rw [HT.out, ← HA.out, h]; exact isO_some (add_lt h))
        clear h HT HA HS
        go_wp2
        exact ⟨⟨k + 1, z, by omega, rfl, by go_num, HN, hbw⟩, by simp [intOf]; omega⟩
    · obtain rfl : k = l.length := by omega
      rw [List.take_length] at HS
      have HA := hide (isO_div HS.out (floatOfInt .f64 l.length))
      cases h : double.div r (floatOfInt .f64 l.length) with
      | none =>
        have hq := fun t (w : World) => run_bad_quo (P := Try.prog) h t w
        have HM : Hid (meanO l = none) := hide (HA.out.symm.trans h)
        clear h HA HS
        go_wp2
        go_ret
        exact ⟨_, rfl, by rw [HM.out]; exact isO_nanZ _ _ _, hbw.drew⟩
      | some z =>
        have hq := fun t (w : World) => run_ok_quo (P := Try.prog) h t w
        have HM : Hid (meanO l = some z) := hide (HA.out.symm.trans h)
        have hz := div_lt h
        clear h HA HS
        go_wp2
        go_ret
        exact ⟨_, rfl, by rw [HM.out]; exact isO_some hz, hbw⟩
/-- Whether two floats are near each other. -/
def nearV (a b by_ : Nat) : Bool := match double.sub a b with | some z => fleB (rg z) by_ | none => false
theorem nan_le {x : Nat} (y : Nat) (h : nanB x = true) : fleB (rg x) y = false ∧ fleB x y = false ∧ fltB x 0 = false := by
  unfold fleB fltB
  rw [nan_rg, h]
  exact ⟨rfl, rfl, rfl⟩
theorem near_any (a b y : Nat) (w : World) : Calls Try.prog 18 #[.float .f64 a, .float .f64 b, .float .f64 y] w fun e w' => e = .returned (.bool (nearV a b y)) ∧ Below w.heap.size w w' := by
  cases h : double.sub a b with
  | none =>
    have hv : Hid (nearV a b y = false) := hide (by unfold nearV; rw [h])
    have hq := fun t (w : World) => run_bad_sub (P := Try.prog) h t w
    have hA := fun w' w => abs_any (nanZ w' a b) (nanZ_lt _ _ _) w
    have hf := fun w' => (nan_le y (nanZ_nan w' a b)).1
    clear h
    go_enter Try.func18, Try.ntmps18
    go_wp2_with (first | (go_at_call 31; refine (hA _ _).mono ?_; rintro e w1 ⟨rfl, rfl⟩) | ((with_reducible change Code.wp _ (Code.region _ _ _) _ _ _); refine wp_region_quiet_below (by kernel_rfl) (by kernel_rfl) ?_; (repeat (first | go_big_quiet_step ((first | (go_at_call 31; exact Calls.regrown_of (below_of_same (hA _ _))))) | quiet_step ((first | (go_at_call 31; exact Calls.regrown_of (below_of_same (hA _ _))))))); refine wpQuiet_nil ?_; intro w1 hw1; have hb := below_of_regrown hw1; clear hw1; obtain ⟨hS, hE, hz, hc, hf⟩ := bcell hb; (try simp only [go_sem] at hE); subst hE))
    go_ret
    exact ⟨by rw [hv.out]; rfl, (Below.refl _ _).drew⟩
  | some z =>
    have hv : Hid (nearV a b y = fleB (rg z) y) := hide (by unfold nearV; rw [h])
    have hq := fun t (w : World) => run_ok_sub (P := Try.prog) h t w
    have hA := fun w => abs_any z (sub_lt h) w
    clear h
    go_enter Try.func18, Try.ntmps18
    go_wp2_with (first | (go_at_call 31; refine (hA _).mono ?_; rintro e w1 ⟨rfl, rfl⟩) | ((with_reducible change Code.wp _ (Code.region _ _ _) _ _ _); refine wp_region_quiet_below (by kernel_rfl) (by kernel_rfl) ?_; (repeat (first | go_big_quiet_step ((first | (go_at_call 31; exact Calls.regrown_of (below_of_same (hA _))))) | quiet_step ((first | (go_at_call 31; exact Calls.regrown_of (below_of_same (hA _))))))); refine wpQuiet_nil ?_; intro w1 hw1; have hb := below_of_regrown hw1; clear hw1; obtain ⟨hS, hE, hz, hc, hf⟩ := bcell hb; (try simp only [go_sem] at hE); subst hE))
    go_ret
    exact ⟨by rw [hv.out]; rfl, Below.refl _ _⟩
theorem flip_neg {z : Nat} (h : NEG z = true) (hz : z < 18446744073709551616) : Op.negFloat .f64 z = rg z := by
  show z ^^^ 2 ^ 63 = rg z
  have h2 := (neg_ge hz).1 h
  have e : z = 2 ^ 63 * 1 + rg z := by unfold rg; omega
  have hr : rg z < 2 ^ 63 := by unfold rg; omega
  generalize rg z = r at *
  rw [e, Nat.two_pow_add_eq_or_of_lt hr 1]
  apply Nat.eq_of_testBit_eq
  intro i
  rw [Nat.testBit_xor, Nat.testBit_or, Nat.mul_one, Nat.testBit_two_pow]
  by_cases hi : 63 = i
  · subst hi
    rw [Nat.testBit_lt_two_pow hr]
    rfl
  · simp [hi]
theorem lt_neg {z : Nat} (h : fltB z 0 = true) : NEG z = true := by
  unfold fltB at h
  rw [Bool.and_eq_true] at h
  have hk := of_decide_eq_true h.2
  unfold key sg at hk
  cases hn : NEG z
  · rw [hn, show NEG 0 = false by decide, show rg 0 = 0 by decide] at hk
    simp at hk
    omega
  · rfl
theorem ge_abs {z : Nat} (y : Nat) (h : fltB z 0 = false) : fleB (rg z) y = fleB z y := by
  unfold fltB at h
  unfold fleB
  rw [nan_rg, key_rg]
  cases hn : nanB z
  · rw [hn, show nanB 0 = false by decide, show key 0 = 0 by decide] at h
    simp at h
    have hk : key z = rg z := by
      unfold key sg at h ⊢
      cases hs : NEG z
      · simp
      · rw [hs] at h
        simp at h ⊢
        omega
    rw [hk]
  · rfl
theorem rnear_any (a b y : Nat) (w : World) : Calls Try.prog 21 #[.float .f64 a, .float .f64 b, .float .f64 y] w fun e w' => e = .returned (.bool (nearV a b y)) ∧ Below w.heap.size w w' := by
  cases h : double.sub a b with
  | none =>
    have hv : Hid (nearV a b y = false) := hide (by unfold nearV; rw [h])
    have hq := fun t (w : World) => run_bad_sub (P := Try.prog) h t w
    have hf := fun w' => (nan_le y (nanZ_nan w' a b)).2.1
    have hg := fun w' => (nan_le y (nanZ_nan w' a b)).2.2
    clear h
    go_enter Try.func21, Try.ntmps21
    go_wp2_with (first | ((with_reducible change Code.wp _ (Code.region _ _ _) _ _ _); refine wp_region_quiet_below (by kernel_rfl) (by kernel_rfl) ?_; (repeat (first | go_big_quiet_step (fail) | quiet_step (fail))); refine wpQuiet_nil ?_; intro w1 hw1; have hb := below_of_regrown hw1; clear hw1; obtain ⟨hS, hE, hz, hc, hf⟩ := bcell hb; (try simp only [go_sem] at hE); subst hE))
    go_ret
    exact ⟨by rw [hv.out]; rfl, (Below.refl _ _).drew⟩
  | some z =>
    have hv : Hid (nearV a b y = fleB (rg z) y) := hide (by unfold nearV; rw [h])
    have hq := fun t (w : World) => run_ok_sub (P := Try.prog) h t w
    have hzl := sub_lt h
    clear h
    cases hz : fltB z 0
    · have he := hide (ge_abs y hz)
      go_enter Try.func21, Try.ntmps21
      go_wp2_with (first | ((with_reducible change Code.wp _ (Code.region _ _ _) _ _ _); refine wp_region_quiet_below (by kernel_rfl) (by kernel_rfl) ?_; (repeat (first | go_big_quiet_step (fail) | quiet_step (fail))); refine wpQuiet_nil ?_; intro w1 hw1; have hb := below_of_regrown hw1; clear hw1; obtain ⟨hS, hE, hz, hc, hf⟩ := bcell hb; (try simp only [go_sem] at hE); subst hE))
      go_ret
      exact ⟨by rw [hv.out, he.out]; rfl, Below.refl _ _⟩
    · have hn := flip_neg (lt_neg hz) hzl
      have hu : ∀ w : World, (Op.unary .neg (.float .f64 z)).run Try.prog w = .ok (.float .f64 (rg z)) w := fun w => by rw [← hn]; rfl
      clear hn
      go_enter Try.func21, Try.ntmps21
      go_wp2_with (first | ((with_reducible change Code.wp _ (Code.region _ _ _) _ _ _); refine wp_region_quiet_below (by kernel_rfl) (by kernel_rfl) ?_; (repeat (first | go_big_quiet_step (fail) | quiet_step (fail))); refine wpQuiet_nil ?_; intro w1 hw1; have hb := below_of_regrown hw1; clear hw1; obtain ⟨hS, hE, hz, hc, hf⟩ := bcell hb; (try simp only [go_sem] at hE); subst hE))
      go_ret
      exact ⟨by rw [hv.out]; rfl, Below.refl _ _⟩
end Go.Proofs.Ytkkapajpgfjomaa.Gauge
