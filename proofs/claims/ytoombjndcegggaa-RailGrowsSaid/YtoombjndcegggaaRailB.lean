/- The lane of a place, by the program and by the reference; what the reference says of borders; what a tool touches. No condition. -/
import Derived.Test.YtoombjndcegggaaRailA
import Derived.Deep.QuietTactic
import Derived.BigQuiet
namespace Go.Proofs.Ytoombjndcegggaa.Rail
open Go.ChangeShapes Go.WideShapes Go.ChangeAt Go.RowKit Go.Proofs.Ytoombjndcegggaa.Kit Go.Proofs.Ytoombjndcegggaa.Mem Go.Proofs.Ytoombjndcegggaa.Flt
set_option linter.unusedVariables false
section
variable {l : List Nat} {A : Option Addr} {B0 : Nat} {w : World}
theorem lanes_any (A : Option Addr) (n c : Nat) (hn : 0 < n) (hm : n ≤ 9223372036854775807) (w : World) : Calls Try.prog 22 #[.slice A n c] w fun e w' => e = .returned (.int .i64 ((n - 1 : Nat) : Int)) ∧ w = w' := by
  go_enter Try.func22, Try.ntmps22
  go_wp2
  all_goals
    go_ret
    exact ⟨ret_int (by omega), rfl⟩
theorem behind_any (hr : FRow w B0 A l) (h2 : 2 ≤ l.length) (c : Nat) (hc : l.length ≤ c) (x : Nat) : Calls Try.prog 23 #[.slice A l.length c, .float .f64 x] w fun e w' => e = .returned (.int .i64 (behS l x)) ∧ w = w' := by
  have hlen := hr.len
  obtain ⟨b, off, rfl, hb, hcell⟩ := hr.row (by omega)
  have hS : Hid (behS l x = behFrom l x (l.length - 1) 0) := hide rfl
  have e1 : ((l.length : Int) - 1).toNat = l.length - 1 := by omega
  have HC := hide hcell
  clear hcell
  go_enter Try.func23, Try.ntmps23
  go_wp2
  go_step3
  go_wp2
  go_step3
  go_wp2_with (go_at_call 22; go_in)
  go_loop [5, 13] (fun n i => ∃ k : Nat, k ≤ l.length - 1 ∧ i = .int .i64 k ∧ n = .int .i64 k ∧ behFrom l x (l.length - 1 - k) k + k = behFrom l x (l.length - 1) 0) (fun _ i => l.length - (intOf i).toNat)
  case atStart => exact ⟨0, Nat.zero_le _, rfl, rfl, rfl⟩
  case round =>
    obtain ⟨k, hk, rfl, rfl, hf⟩ := hrel
    by_cases hlt : k < l.length - 1
    · have c1 : w.cell? ⟨b, off + k, none⟩ = some (.float .f64 (B l k)) := HC.out k (by omega)
      have hf2 : Hid (behFrom l x (l.length - 1) 0 = (if fleB (B l k) x = true then behFrom l x (l.length - 1 - (k + 1)) (k + 1) + 1 else 0) + k) := hide (by
        rw [← hf, show l.length - 1 - k = (l.length - 1 - (k + 1)) + 1 by omega]; rfl)
      clear hf
      generalize B l k = y at *
      by_cases hle : fleB y x = true
      · go_wp2
        go_round
        case rel => exact ⟨k + 1, by omega, by go_num, by go_num, by rw [hf2.out, if_pos hle]; omega⟩
        case measure => simp [intOf]; omega
      · rw [Bool.not_eq_true] at hle
        go_wp2
        (try rw [Exit.noGoto_ret])
        go_ret
        exact ⟨ret_int (by rw [hS.out, hf2.out, hle, if_neg (by simp), Nat.zero_add]), rfl⟩
    · obtain rfl : k = l.length - 1 := by omega
      go_wp2
      (try rw [Exit.noGoto_ret])
      go_ret
      exact ⟨ret_int (by rw [hS.out, ← hf, Nat.sub_self]; simp [behFrom]), rfl⟩

theorem check_ok (hr : FRow w B0 A l) (c : Nat) (h : chkS l = 0) : Calls Try.prog 8 #[.slice A l.length c] w fun e w' => e = .returned (.int .i64 0) ∧ w = w' := by
  have := check_any hr c
  rwa [h] at this
theorem ret_two {a b c d : Int} (h : a = c) (h' : b = d) : Ending.returned (.tuple #[.int .i64 a, .int .i64 b]) = .returned (.tuple #[.int .i64 c, .int .i64 d]) := by rw [h, h']
theorem lane_any (hr : FRow w B0 A l) (hB : B0 ≤ w.heap.size) (c : Nat) (hcap : l.length ≤ c) (x : Nat) (hx : x < 18446744073709551616) :
    Calls Try.prog 13 #[.slice A l.length c, .float .f64 x] w fun e w' => e = .returned (.tuple #[.int .i64 (laneS l x).1, .int .i64 (laneS l x).2]) ∧ Below w.heap.size w w' := by
  have hlen := hr.len
  by_cases h0 : chkS l = 0
  · have hg := good_of l h0
    have htwo := hg.two
    obtain ⟨b, off, rfl, hblk, hcell⟩ := hr.row (by omega)
    have c0 : w.cell? ⟨b, off, none⟩ = some (.float .f64 (B l 0)) := by have := hcell 0 (by omega); rwa [Nat.add_zero] at this
    have c1 : w.cell? ⟨b, off + (l.length - 1), none⟩ = some (.float .f64 (B l (l.length - 1))) := hcell _ (by omega)
    have HS : Hid (laneS l x = if nanB x = true then (0, 20) else if fltB x (B l 0) = true ∨ fltB (B l (l.length - 1)) x = true then (0, 71) else ((behS l x : Int) - 1, 0)) := hide (by
      unfold laneS; rw [if_neg (by simp [h0])])
    have hbl := beh_le l x
    have e1 : ((l.length : Int) - 1).toNat = l.length - 1 := by omega
    have H0 := hide h0
    clear hcell h0
    generalize B l (l.length - 1) = z at *
    generalize B l 0 = y at *
    by_cases hn : nanB x = true
    · go_enter Try.func13, Try.ntmps13
      go_wp2_with (first | (go_at_call 22; refine (lanes_any _ _ _ (by omega) hlen _).mono ?_; rintro e w1 ⟨rfl, rfl⟩) | (go_at_call 8; refine (check_ok hr c H0.out).mono ?_; rintro e w1 ⟨rfl, rfl⟩) | (go_at_call 19; refine (none_any _ hx _).mono ?_; rintro e w1 ⟨rfl, rfl⟩) | (refine wp_region_quiet_below (by kernel_rfl) (by kernel_rfl) ?_; (repeat (first | go_big_quiet_step ((first | (go_at_call 22; exact Calls.regrown_of (below_of_same (lanes_any _ _ _ (by omega) hlen _))) | (go_at_call 8; exact Calls.regrown_of (below_of_same (check_ok hr c H0.out))) | (go_at_call 19; exact Calls.regrown_of (below_of_same (none_any _ hx _))))) | quiet_step ((first | (go_at_call 22; exact Calls.regrown_of (below_of_same (lanes_any _ _ _ (by omega) hlen _))) | (go_at_call 8; exact Calls.regrown_of (below_of_same (check_ok hr c H0.out))) | (go_at_call 19; exact Calls.regrown_of (below_of_same (none_any _ hx _))))))); refine wpQuiet_nil ?_; intro w1 hw1; have hb := below_of_regrown hw1; clear hw1; obtain ⟨hS, hE, hz, hc, hf⟩ := bcell hb; (try simp only [go_sem] at hE); subst hE))
      go_ret2
      exact ⟨by rw [HS.out, if_pos hn]; rfl, (by repeat' (first | (with_reducible exact Below.refl _ _) | (with_reducible refine below_drewN ?_ _) | (with_reducible refine Below.drew ?_) | (with_reducible refine Below.alloc ?_ ?_ _) | (with_reducible refine Below.setCell ?_ ?_ _) | (with_reducible refine below_step ?_ (by assumption) ?_) | go_size))⟩
    · by_cases h1 : fltB x y = true
      · rw [Bool.not_eq_true] at hn
        go_enter Try.func13, Try.ntmps13
        go_wp2_with (first | (go_at_call 22; refine (lanes_any _ _ _ (by omega) hlen _).mono ?_; rintro e w1 ⟨rfl, rfl⟩) | (go_at_call 8; refine (check_ok hr c H0.out).mono ?_; rintro e w1 ⟨rfl, rfl⟩) | (go_at_call 19; refine (none_any _ hx _).mono ?_; rintro e w1 ⟨rfl, rfl⟩) | (refine wp_region_quiet_below (by kernel_rfl) (by kernel_rfl) ?_; (repeat (first | go_big_quiet_step ((first | (go_at_call 22; exact Calls.regrown_of (below_of_same (lanes_any _ _ _ (by omega) hlen _))) | (go_at_call 8; exact Calls.regrown_of (below_of_same (check_ok hr c H0.out))) | (go_at_call 19; exact Calls.regrown_of (below_of_same (none_any _ hx _))))) | quiet_step ((first | (go_at_call 22; exact Calls.regrown_of (below_of_same (lanes_any _ _ _ (by omega) hlen _))) | (go_at_call 8; exact Calls.regrown_of (below_of_same (check_ok hr c H0.out))) | (go_at_call 19; exact Calls.regrown_of (below_of_same (none_any _ hx _))))))); refine wpQuiet_nil ?_; intro w1 hw1; have hb := below_of_regrown hw1; clear hw1; obtain ⟨hS, hE, hz, hc, hf⟩ := bcell hb; (try simp only [go_sem] at hE); subst hE))
        go_ret2
        exact ⟨by rw [HS.out, hn, if_neg (by simp), if_pos (.inl h1)]; rfl, (by repeat' (first | (with_reducible exact Below.refl _ _) | (with_reducible refine below_drewN ?_ _) | (with_reducible refine Below.drew ?_) | (with_reducible refine Below.alloc ?_ ?_ _) | (with_reducible refine Below.setCell ?_ ?_ _) | (with_reducible refine below_step ?_ (by assumption) ?_) | go_size))⟩
      · by_cases h2 : fltB z x = true
        · rw [Bool.not_eq_true] at hn h1
          go_enter Try.func13, Try.ntmps13
          go_wp2_with (first | (go_at_call 22; refine (lanes_any _ _ _ (by omega) hlen _).mono ?_; rintro e w1 ⟨rfl, rfl⟩) | (go_at_call 8; refine (check_ok hr c H0.out).mono ?_; rintro e w1 ⟨rfl, rfl⟩) | (go_at_call 19; refine (none_any _ hx _).mono ?_; rintro e w1 ⟨rfl, rfl⟩) | (refine wp_region_quiet_below (by kernel_rfl) (by kernel_rfl) ?_; (repeat (first | go_big_quiet_step ((first | (go_at_call 22; exact Calls.regrown_of (below_of_same (lanes_any _ _ _ (by omega) hlen _))) | (go_at_call 8; exact Calls.regrown_of (below_of_same (check_ok hr c H0.out))) | (go_at_call 19; exact Calls.regrown_of (below_of_same (none_any _ hx _))))) | quiet_step ((first | (go_at_call 22; exact Calls.regrown_of (below_of_same (lanes_any _ _ _ (by omega) hlen _))) | (go_at_call 8; exact Calls.regrown_of (below_of_same (check_ok hr c H0.out))) | (go_at_call 19; exact Calls.regrown_of (below_of_same (none_any _ hx _))))))); refine wpQuiet_nil ?_; intro w1 hw1; have hb := below_of_regrown hw1; clear hw1; obtain ⟨hS, hE, hz, hc, hf⟩ := bcell hb; (try simp only [go_sem] at hE); subst hE))
          go_ret2
          exact ⟨by rw [HS.out, hn, if_neg (by simp), if_pos (.inr h2)]; rfl, (by repeat' (first | (with_reducible exact Below.refl _ _) | (with_reducible refine below_drewN ?_ _) | (with_reducible refine Below.drew ?_) | (with_reducible refine Below.alloc ?_ ?_ _) | (with_reducible refine Below.setCell ?_ ?_ _) | (with_reducible refine below_step ?_ (by assumption) ?_) | go_size))⟩
        · rw [Bool.not_eq_true] at hn h1 h2
          go_enter Try.func13, Try.ntmps13
          go_wp2_with (first | (go_at_call 22; refine (lanes_any _ _ _ (by omega) hlen _).mono ?_; rintro e w1 ⟨rfl, rfl⟩) | (go_at_call 8; refine (check_ok hr c H0.out).mono ?_; rintro e w1 ⟨rfl, rfl⟩) | (go_at_call 19; refine (none_any _ hx _).mono ?_; rintro e w1 ⟨rfl, rfl⟩) | (go_at_call 23; refine (behind_any hr htwo c hcap x).mono ?_; rintro e w1 ⟨rfl, rfl⟩) | (refine wp_region_quiet_below (by kernel_rfl) (by kernel_rfl) ?_; (repeat (first | go_big_quiet_step ((first | (go_at_call 22; exact Calls.regrown_of (below_of_same (lanes_any _ _ _ (by omega) hlen _))) | (go_at_call 8; exact Calls.regrown_of (below_of_same (check_ok hr c H0.out))) | (go_at_call 19; exact Calls.regrown_of (below_of_same (none_any _ hx _))) | (go_at_call 23; exact Calls.regrown_of (below_of_same (behind_any hr htwo c hcap x))))) | quiet_step ((first | (go_at_call 22; exact Calls.regrown_of (below_of_same (lanes_any _ _ _ (by omega) hlen _))) | (go_at_call 8; exact Calls.regrown_of (below_of_same (check_ok hr c H0.out))) | (go_at_call 19; exact Calls.regrown_of (below_of_same (none_any _ hx _))) | (go_at_call 23; exact Calls.regrown_of (below_of_same (behind_any hr htwo c hcap x))))))); refine wpQuiet_nil ?_; intro w1 hw1; have hb := below_of_regrown hw1; clear hw1; obtain ⟨hS, hE, hz, hc, hf⟩ := bcell hb; (try simp only [go_sem] at hE); subst hE))
          go_ret2
          exact ⟨by rw [HS.out, hn, h1, h2]; simp, (by repeat' (first | (with_reducible exact Below.refl _ _) | (with_reducible refine below_drewN ?_ _) | (with_reducible refine Below.drew ?_) | (with_reducible refine Below.alloc ?_ ?_ _) | (with_reducible refine Below.setCell ?_ ?_ _) | (with_reducible refine below_step ?_ (by assumption) ?_) | go_size))⟩
  · have HS : Hid (laneS l x = (0, chkS l)) := hide (by unfold laneS; rw [if_pos h0])
    have hb : (chkS l != 0) = true := by simpa using h0
    go_enter Try.func13, Try.ntmps13
    go_wp2_with (first | (go_at_call 8; refine (check_any hr c).mono ?_; rintro e w1 ⟨rfl, rfl⟩) | (refine wp_region_quiet_below (by kernel_rfl) (by kernel_rfl) ?_; (repeat (first | go_big_quiet_step ((first | (go_at_call 8; exact Calls.regrown_of (below_of_same (check_any hr c))))) | quiet_step ((first | (go_at_call 8; exact Calls.regrown_of (below_of_same (check_any hr c))))))); refine wpQuiet_nil ?_; intro w1 hw1; have hb := below_of_regrown hw1; clear hw1; obtain ⟨hS, hE, hz, hc, hf⟩ := bcell hb; (try simp only [go_sem] at hE); subst hE))
    go_ret2
    exact ⟨by rw [HS.out]; rfl, Below.refl _ _⟩
end
end Go.Proofs.Ytoombjndcegggaa.Rail
