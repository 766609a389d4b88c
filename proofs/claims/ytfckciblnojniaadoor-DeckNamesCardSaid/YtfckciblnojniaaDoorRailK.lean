/- What the reference says of borders (for chapters without lanes). No condition. -/
import Derived.Test.YtfckciblnojniaaDoorRailA
import Derived.Deep.QuietTactic
import Derived.BigQuiet
import Derived.LoopTactic
namespace Go.Proofs.YtfckciblnojniaaDoor.Rail
open Go.ChangeShapes Go.WideShapes Go.ChangeAt Go.RowKit Go.Proofs.YtfckciblnojniaaDoor.Kit Go.Proofs.YtfckciblnojniaaDoor.Mem Go.Proofs.YtfckciblnojniaaDoor.Flt
set_option linter.unusedVariables false
section
variable {l : List Nat} {A : Option Addr} {B0 : Nat} {w : World}
theorem rcheck_any (hr : FRow w B0 A l) (hB : B0 ≤ w.heap.size) (c : Nat) : Calls Tryd.prog 32 #[.slice A l.length c] w fun e w' => e = .returned (.int .i64 (chkS l)) ∧ Below w.heap.size w w' := by
  have hlen := hr.len
  by_cases h1 : l.length < 2
  · have HS : Hid (chkS l = 1) := hide (by unfold chkS; rw [if_pos h1])
    go_enter Tryd.func32, Tryd.ntmps32
    go_wp2
    go_ret
    exact ⟨ret_int HS.out.symm, Below.refl _ _⟩
  by_cases h2 : 25 < l.length
  · have HS : Hid (chkS l = 2) := hide (by unfold chkS; rw [if_neg h1, if_pos h2])
    go_enter Tryd.func32, Tryd.ntmps32
    go_wp2
    go_ret
    exact ⟨ret_int HS.out.symm, Below.refl _ _⟩
  have HS : Hid (chkS l = chkFrom l l.length 0) := hide (by unfold chkS; rw [if_neg h1, if_neg h2])
  go_enter Tryd.func32, Tryd.ntmps32
  go_wp2
  go_loopw [3] (fun i wr => ∃ k : Nat, k ≤ l.length ∧ i = .int .i64 k ∧ chkFrom l (l.length - k) k = chkFrom l l.length 0 ∧ (0 < k → nanB (B l (k - 1)) = false) ∧ Below w.heap.size w wr) (fun i _ => l.length - (intOf i).toNat)
  case atStart => exact ⟨0, Nat.zero_le _, rfl, rfl, fun h => absurd h (by omega), Below.refl _ _⟩
  case round =>
    obtain ⟨k, hk, rfl, hf, hprev, hbw⟩ := hrel
    have hrr := hr.below hbw hB
    have hsz := hbw.size
    by_cases hlt : k < l.length
    · obtain ⟨b, off, rfl, hblk, hcell⟩ := hrr.row (by omega)
      have c1 : wr.cell? ⟨b, off + k, none⟩ = some (.float .f64 (B l k)) := hcell k hlt
      have x1 := hr.fit k
      have c0 : 0 < k → wr.cell? ⟨b, off + (k - 1), none⟩ = some (.float .f64 (B l (k - 1))) := fun h => hcell (k - 1) (by omega)
      have hf2 : Hid (chkFrom l l.length 0 = if nanB (B l k) = true then 20 else if 0 < k ∧ fltB (B l (k - 1)) (B l k) = false then 70 else chkFrom l (l.length - (k + 1)) (k + 1)) := hide (by
        rw [← hf, show l.length - k = (l.length - (k + 1)) + 1 by omega]; rfl)
      have hnx : Hid (∀ h : nanB (B l k) = false, nanB (B l (k + 1 - 1)) = false) := hide (fun h => by rwa [Nat.add_sub_cancel])
      clear hf hcell
      generalize B l k = x at *
      generalize B l (k - 1) = y at *
      by_cases hn : nanB x = true
      · go_wp2_with (go_at_call 48; refine (rnone_any _ x1 _).mono ?_; rintro e w1 ⟨rfl, rfl⟩)
        go_ret
        exact ⟨ret_int (by rw [HS.out, hf2.out, if_pos hn]), hbw⟩
      · rw [Bool.not_eq_true] at hn
        by_cases hk0 : k = 0
        · subst hk0
          rw [Nat.add_zero] at c1
          go_wp2_with (go_at_call 48; refine (rnone_any _ x1 _).mono ?_; rintro e w1 ⟨rfl, rfl⟩)
          (try go_quiet (fail))
          go_wp2
          go_roundw
          case rel => exact ⟨1, by omega, by go_num, by rw [hf2.out, hn, if_neg (by simp), if_neg (by simp)], fun _ => hnx.out hn, by first | exact hbw | exact below_drewN hbw _⟩
          case measure => simp [intOf]; omega
        · have c00 := c0 (by omega)
          have hpv := hprev (by omega)
          have ek : ((k : Int) - 1).toNat = k - 1 := by omega
          have hd : fleB x y = !fltB y x := by
            unfold fleB fltB
            rw [hn, hpv, Bool.eq_iff_iff]; simp
          clear c0 hprev
          have g1 : decide (0 < k) = true := decide_eq_true (by omega)
          have g2 : decide ((0 : Int) < (k : Int)) = true := decide_eq_true (by omega)
          have g3 : 0 < k := by omega
          by_cases hlt2 : fltB y x = true
          · have hd2 : fleB x y = false := by rw [hd, hlt2]; rfl
            clear hd
            go_wp2_with (go_at_call 48; refine (rnone_any _ x1 _).mono ?_; rintro e w1 ⟨rfl, rfl⟩)
            go_quiet (fail)
            go_wp2
            go_roundw
            case rel => exact ⟨k + 1, by omega, by go_num, by rw [hf2.out, hn, if_neg (by simp), if_neg (by simp [hlt2])], fun _ => hnx.out hn, below_drewN hbw _⟩
            case measure => simp [intOf]; omega
          · rw [Bool.not_eq_true] at hlt2
            have hd2 : fleB x y = true := by rw [hd, hlt2]; rfl
            clear hd
            go_wp2_with (go_at_call 48; refine (rnone_any _ x1 _).mono ?_; rintro e w1 ⟨rfl, rfl⟩)
            go_quiet (fail)
            go_wp2
            go_ret
            exact ⟨ret_int (by rw [HS.out, hf2.out, hn, if_neg (by simp), if_pos ⟨by omega, hlt2⟩]), below_drewN hbw _⟩
    · obtain rfl : k = l.length := by omega
      go_wp2
      go_ret
      exact ⟨ret_int (by rw [HS.out, ← hf, Nat.sub_self]; rfl), hbw⟩
end
end Go.Proofs.YtfckciblnojniaaDoor.Rail
