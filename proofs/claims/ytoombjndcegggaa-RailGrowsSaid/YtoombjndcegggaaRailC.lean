/- What the reference says of borders, the lane of a place, what a tool touches. No condition. -/
import Derived.Test.YtoombjndcegggaaRailB
namespace Go.Proofs.Ytoombjndcegggaa.Rail
open Go.ChangeShapes Go.WideShapes Go.ChangeAt Go.RowKit Go.Proofs.Ytoombjndcegggaa.Kit Go.Proofs.Ytoombjndcegggaa.Mem Go.Proofs.Ytoombjndcegggaa.Flt
set_option linter.unusedVariables false
section
variable {l : List Nat} {A : Option Addr} {B0 : Nat} {w : World}
theorem rcheck_any (hr : FRow w B0 A l) (hB : B0 ≤ w.heap.size) (c : Nat) : Calls Try.prog 9 #[.slice A l.length c] w fun e w' => e = .returned (.int .i64 (chkS l)) ∧ Below w.heap.size w w' := by
  have hlen := hr.len
  by_cases h1 : l.length < 2
  · have HS : Hid (chkS l = 1) := hide (by unfold chkS; rw [if_pos h1])
    go_enter Try.func9, Try.ntmps9
    go_wp2
    go_ret
    exact ⟨ret_int HS.out.symm, Below.refl _ _⟩
  by_cases h2 : 25 < l.length
  · have HS : Hid (chkS l = 2) := hide (by unfold chkS; rw [if_neg h1, if_pos h2])
    go_enter Try.func9, Try.ntmps9
    go_wp2
    go_ret
    exact ⟨ret_int HS.out.symm, Below.refl _ _⟩
  have HS : Hid (chkS l = chkFrom l l.length 0) := hide (by unfold chkS; rw [if_neg h1, if_neg h2])
  go_enter Try.func9, Try.ntmps9
  go_wp2
  go_loopw [3] (fun i wr => ∃ k : Nat, k ≤ l.length ∧ i = .int .i64 k ∧ chkFrom l (l.length - k) k = chkFrom l l.length 0 ∧ (0 < k → nanB (B l (k - 1)) = false) ∧ Below w.heap.size w wr) (fun i _ => l.length - (intOf i).toNat)
  case atStart => exact ⟨0, Nat.zero_le _, rfl, rfl, fun h => absurd h (by omega), Below.refl _ _⟩
  case round =>
    obtain ⟨k, hk, rfl, hf, hprev, hbw⟩ := hrel
    have hrr := hr.below hbw hB
    have hsz := hbw.size
    by_cases hlt : k < l.length
    · obtain ⟨b, off, rfl, hblk, hcell⟩ := hrr.row (by omega)
      have c1 : wr.cell? ⟨b, off + k, none⟩ = some (.float .f64 (B l k)) := hcell k hlt
      have x1 := hr.fit k
      have c0 : 0 < k → wr.cell? ⟨b, off + (k - 1), none⟩ = some (.float .f64 (B l (k - 1))) := fun h => hcell (k - 1) (by omega)
      have hf2 : Hid (chkFrom l l.length 0 = if nanB (B l k) = true then 20 else if 0 < k ∧ fltB (B l (k - 1)) (B l k) = false then 70 else chkFrom l (l.length - (k + 1)) (k + 1)) := hide (by
        rw [← hf, show l.length - k = (l.length - (k + 1)) + 1 by omega]; rfl)
      have hnx : Hid (∀ h : nanB (B l k) = false, nanB (B l (k + 1 - 1)) = false) := hide (fun h => by rwa [Nat.add_sub_cancel])
      clear hf hcell
      generalize B l k = x at *
      generalize B l (k - 1) = y at *
      by_cases hn : nanB x = true
      · go_wp2_with (go_at_call 20; refine (rnone_any _ x1 _).mono ?_; rintro e w1 ⟨rfl, rfl⟩)
        go_ret
        exact ⟨ret_int (by rw [HS.out, hf2.out, if_pos hn]), hbw⟩
      · rw [Bool.not_eq_true] at hn
        by_cases hk0 : k = 0
        · subst hk0
          rw [Nat.add_zero] at c1
          go_wp2_with (go_at_call 20; refine (rnone_any _ x1 _).mono ?_; rintro e w1 ⟨rfl, rfl⟩)
          (try go_quiet (fail))
          go_wp2
          go_roundw
          case rel => exact ⟨1, by omega, by go_num, by rw [hf2.out, hn, if_neg (by simp), if_neg (by simp)], fun _ => hnx.out hn, by first | exact hbw | exact below_drewN hbw _⟩
          case measure => simp [intOf]; omega
        · have c00 := c0 (by omega)
          have hpv := hprev (by omega)
          have ek : ((k : Int) - 1).toNat = k - 1 := by omega
          have hd : fleB x y = !fltB y x := by
            unfold fleB fltB
            rw [hn, hpv, Bool.eq_iff_iff]; simp
          clear c0 hprev
          have g1 : decide (0 < k) = true := decide_eq_true (by omega)
          have g2 : decide ((0 : Int) < (k : Int)) = true := decide_eq_true (by omega)
          have g3 : 0 < k := by omega
          by_cases hlt2 : fltB y x = true
          · have hd2 : fleB x y = false := by rw [hd, hlt2]; rfl
            clear hd
            go_wp2_with (go_at_call 20; refine (rnone_any _ x1 _).mono ?_; rintro e w1 ⟨rfl, rfl⟩)
            go_quiet (fail)
            go_wp2
            go_roundw
            case rel => exact ⟨k + 1, by omega, by go_num, by rw [hf2.out, hn, if_neg (by simp), if_neg (by simp [hlt2])], fun _ => hnx.out hn, below_drewN hbw _⟩
            case measure => simp [intOf]; omega
          · rw [Bool.not_eq_true] at hlt2
            have hd2 : fleB x y = true := by rw [hd, hlt2]; rfl
            clear hd
            go_wp2_with (go_at_call 20; refine (rnone_any _ x1 _).mono ?_; rintro e w1 ⟨rfl, rfl⟩)
            go_quiet (fail)
            go_wp2
            go_ret
            exact ⟨ret_int (by rw [HS.out, hf2.out, hn, if_neg (by simp), if_pos ⟨by omega, hlt2⟩]), below_drewN hbw _⟩
    · obtain rfl : k = l.length := by omega
      go_wp2
      go_ret
      exact ⟨ret_int (by rw [HS.out, ← hf, Nat.sub_self]; rfl), hbw⟩
theorem rcheck_ok (hr : FRow w B0 A l) (hB : B0 ≤ w.heap.size) (c : Nat) (h : chkS l = 0) : Calls Try.prog 9 #[.slice A l.length c] w fun e w' => e = .returned (.int .i64 0) ∧ Below w.heap.size w w' := by
  have := rcheck_any hr hB c
  rwa [h] at this

theorem rlane_any (hr : FRow w B0 A l) (hB : B0 ≤ w.heap.size) (c : Nat) (x : Nat) (hx : x < 18446744073709551616) :
    Calls Try.prog 14 #[.slice A l.length c, .float .f64 x] w fun e w' => e = .returned (.tuple #[.int .i64 (laneS l x).1, .int .i64 (laneS l x).2]) ∧ Below w.heap.size w w' := by
  have hlen := hr.len
  by_cases h0 : chkS l = 0
  · have hg := good_of l h0
    have htwo := hg.two
    obtain ⟨b, off, rfl, hblk, hcell⟩ := hr.row (by omega)
    have c0 : w.cell? ⟨b, off, none⟩ = some (.float .f64 (B l 0)) := by have := hcell 0 (by omega); rwa [Nat.add_zero] at this
    have c1 : w.cell? ⟨b, off + (l.length - 1), none⟩ = some (.float .f64 (B l (l.length - 1))) := hcell _ (by omega)
    have HS : Hid (laneS l x = if nanB x = true then (0, 20) else if fltB x (B l 0) = true ∨ fltB (B l (l.length - 1)) x = true then (0, 71) else ((behS l x : Int) - 1, 0)) := hide (by
      unfold laneS; rw [if_neg (by simp [h0])])
    have hbl := beh_le l x
    have HU : Hid (∀ hn : nanB x = false, ¬ fltB x (B l 0) = true → ∀ n, n ≤ l.length - 1 → 1 ≤ n → (atUpto l x n : Int) = min n (behS l x) - 1) := hide fun hn h => atUpto_eq hg hn h
    have e1 : ((l.length : Int) - 1).toNat = l.length - 1 := by omega
    have H0 := hide h0
    clear hcell h0
    generalize B l (l.length - 1) = z at *
    generalize B l 0 = y at *
    by_cases hn : nanB x = true
    · go_enter Try.func14, Try.ntmps14
      go_wp2_with (first | (go_at_call 9; refine (rcheck_ok hr hB c H0.out).mono ?_; rintro e w1 ⟨rfl, hb⟩; obtain ⟨hS, hE, hz, hc, hf⟩ := bcell hb; (try simp only [go_sem] at hE); subst hE) | (go_at_call 20; refine (rnone_any _ hx _).mono ?_; rintro e w1 ⟨rfl, rfl⟩) | (refine wp_region_quiet_below (by kernel_rfl) (by kernel_rfl) ?_; (repeat (first | go_big_quiet_step ((first | (go_at_call 9; exact Calls.regrown_of (rcheck_ok hr hB c H0.out)) | (go_at_call 20; exact Calls.regrown_of (below_of_same (rnone_any _ hx _))))) | quiet_step ((first | (go_at_call 9; exact Calls.regrown_of (rcheck_ok hr hB c H0.out)) | (go_at_call 20; exact Calls.regrown_of (below_of_same (rnone_any _ hx _))))))); refine wpQuiet_nil ?_; intro w1 hw1; have hb := below_of_regrown hw1; clear hw1; obtain ⟨hS, hE, hz, hc, hf⟩ := bcell hb; (try simp only [go_sem] at hE); subst hE))
      go_ret2
      exact ⟨by rw [HS.out, if_pos hn]; rfl, (by repeat' (first | (with_reducible exact Below.refl _ _) | (with_reducible refine below_drewN ?_ _) | (with_reducible refine Below.drew ?_) | (with_reducible refine Below.alloc ?_ ?_ _) | (with_reducible refine Below.setCell ?_ ?_ _) | (with_reducible refine below_step ?_ (by assumption) ?_) | go_size))⟩
    · by_cases h1 : fltB x y = true
      · rw [Bool.not_eq_true] at hn
        go_enter Try.func14, Try.ntmps14
        go_wp2_with (first | (go_at_call 9; refine (rcheck_ok hr hB c H0.out).mono ?_; rintro e w1 ⟨rfl, hb⟩; obtain ⟨hS, hE, hz, hc, hf⟩ := bcell hb; (try simp only [go_sem] at hE); subst hE) | (go_at_call 20; refine (rnone_any _ hx _).mono ?_; rintro e w1 ⟨rfl, rfl⟩) | (refine wp_region_quiet_below (by kernel_rfl) (by kernel_rfl) ?_; (repeat (first | go_big_quiet_step ((first | (go_at_call 9; exact Calls.regrown_of (rcheck_ok hr hB c H0.out)) | (go_at_call 20; exact Calls.regrown_of (below_of_same (rnone_any _ hx _))))) | quiet_step ((first | (go_at_call 9; exact Calls.regrown_of (rcheck_ok hr hB c H0.out)) | (go_at_call 20; exact Calls.regrown_of (below_of_same (rnone_any _ hx _))))))); refine wpQuiet_nil ?_; intro w1 hw1; have hb := below_of_regrown hw1; clear hw1; obtain ⟨hS, hE, hz, hc, hf⟩ := bcell hb; (try simp only [go_sem] at hE); subst hE))
        go_ret2
        exact ⟨by rw [HS.out, hn, if_neg (by simp), if_pos (.inl h1)]; rfl, (by repeat' (first | (with_reducible exact Below.refl _ _) | (with_reducible refine below_drewN ?_ _) | (with_reducible refine Below.drew ?_) | (with_reducible refine Below.alloc ?_ ?_ _) | (with_reducible refine Below.setCell ?_ ?_ _) | (with_reducible refine below_step ?_ (by assumption) ?_) | go_size))⟩
      · by_cases h2 : fltB z x = true
        · rw [Bool.not_eq_true] at hn h1
          go_enter Try.func14, Try.ntmps14
          go_wp2_with (first | (go_at_call 9; refine (rcheck_ok hr hB c H0.out).mono ?_; rintro e w1 ⟨rfl, hb⟩; obtain ⟨hS, hE, hz, hc, hf⟩ := bcell hb; (try simp only [go_sem] at hE); subst hE) | (go_at_call 20; refine (rnone_any _ hx _).mono ?_; rintro e w1 ⟨rfl, rfl⟩) | (refine wp_region_quiet_below (by kernel_rfl) (by kernel_rfl) ?_; (repeat (first | go_big_quiet_step ((first | (go_at_call 9; exact Calls.regrown_of (rcheck_ok hr hB c H0.out)) | (go_at_call 20; exact Calls.regrown_of (below_of_same (rnone_any _ hx _))))) | quiet_step ((first | (go_at_call 9; exact Calls.regrown_of (rcheck_ok hr hB c H0.out)) | (go_at_call 20; exact Calls.regrown_of (below_of_same (rnone_any _ hx _))))))); refine wpQuiet_nil ?_; intro w1 hw1; have hb := below_of_regrown hw1; clear hw1; obtain ⟨hS, hE, hz, hc, hf⟩ := bcell hb; (try simp only [go_sem] at hE); subst hE))
          go_ret2
          exact ⟨by rw [HS.out, hn, if_neg (by simp), if_pos (.inr h2)]; rfl, (by repeat' (first | (with_reducible exact Below.refl _ _) | (with_reducible refine below_drewN ?_ _) | (with_reducible refine Below.drew ?_) | (with_reducible refine Below.alloc ?_ ?_ _) | (with_reducible refine Below.setCell ?_ ?_ _) | (with_reducible refine below_step ?_ (by assumption) ?_) | go_size))⟩
        · rw [Bool.not_eq_true] at hn h1 h2
          go_enter Try.func14, Try.ntmps14
          go_wp2_with (first | (go_at_call 9; refine (rcheck_ok hr hB c H0.out).mono ?_; rintro e w1 ⟨rfl, hb⟩; obtain ⟨hS, hE, hz, hc, hf⟩ := bcell hb; (try simp only [go_sem] at hE); subst hE) | (go_at_call 20; refine (rnone_any _ hx _).mono ?_; rintro e w1 ⟨rfl, rfl⟩) | (refine wp_region_quiet_below (by kernel_rfl) (by kernel_rfl) ?_; (repeat (first | go_big_quiet_step ((first | (go_at_call 9; exact Calls.regrown_of (rcheck_ok hr hB c H0.out)) | (go_at_call 20; exact Calls.regrown_of (below_of_same (rnone_any _ hx _))))) | quiet_step ((first | (go_at_call 9; exact Calls.regrown_of (rcheck_ok hr hB c H0.out)) | (go_at_call 20; exact Calls.regrown_of (below_of_same (rnone_any _ hx _))))))); refine wpQuiet_nil ?_; intro w1 hw1; have hb := below_of_regrown hw1; clear hw1; obtain ⟨hS, hE, hz, hc, hf⟩ := bcell hb; (try simp only [go_sem] at hE); subst hE))
          go_loopw [7, 8] (fun a i wr => ∃ k : Nat, k ≤ l.length - 1 ∧ i = .int .i64 k ∧ a = .int .i64 (atUpto l x k) ∧ Below w.heap.size w wr) (fun _ i _ => l.length - (intOf i).toNat)
          case atStart => exact ⟨0, Nat.zero_le _, rfl, rfl, (by repeat' (first | (with_reducible exact Below.refl _ _) | (with_reducible refine below_drewN ?_ _) | (with_reducible refine Below.drew ?_) | (with_reducible refine Below.alloc ?_ ?_ _) | (with_reducible refine Below.setCell ?_ ?_ _) | (with_reducible refine below_step ?_ (by assumption) ?_) | go_size))⟩
          case round =>
            obtain ⟨k, hk, rfl, rfl, hbw⟩ := hrel
            have hrr := hr.below hbw hB
            by_cases hlt : k < l.length - 1
            · obtain ⟨b2, off2, he, hblk2, hcell⟩ := hrr.row (by omega)
              injection he with he
              injection he with he1 he2
              subst he1 he2
              have c2 : wr.cell? ⟨b, off + k, none⟩ = some (.float .f64 (B l k)) := hcell k (by omega)
              have hf2 : Hid (atUpto l x (k + 1) = if fleB (B l k) x = true then k else atUpto l x k) := hide rfl
              clear hcell
              generalize B l k = v at *
              by_cases hle : fleB v x = true
              · go_wp2
                go_roundw
                case rel => exact ⟨k + 1, by omega, by go_num, by rw [hf2.out, if_pos hle], hbw⟩
                case measure => simp [intOf]; omega
              · rw [Bool.not_eq_true] at hle
                go_wp2
                go_roundw
                case rel => exact ⟨k + 1, by omega, by go_num, by rw [hf2.out, hle]; rfl, hbw⟩
                case measure => simp [intOf]; omega
            · obtain rfl : k = l.length - 1 := by omega
              go_wp2
              go_ret2
              refine ⟨?_, hbw⟩
              have := HU.out hn (by simp [h1]) (l.length - 1) (Nat.le_refl _) (by omega)
              rw [HS.out, hn, h1, h2]
              simp
              omega
  · have HS : Hid (laneS l x = (0, chkS l)) := hide (by unfold laneS; rw [if_pos h0])
    have hb : (chkS l != 0) = true := by simpa using h0
    go_enter Try.func14, Try.ntmps14
    go_wp2_with (first | (go_at_call 9; refine (rcheck_any hr hB c).mono ?_; rintro e w1 ⟨rfl, hb⟩; obtain ⟨hS, hE, hz, hc, hf⟩ := bcell hb; (try simp only [go_sem] at hE); subst hE) | (refine wp_region_quiet_below (by kernel_rfl) (by kernel_rfl) ?_; (repeat (first | go_big_quiet_step ((first | (go_at_call 9; exact Calls.regrown_of (rcheck_any hr hB c)))) | quiet_step ((first | (go_at_call 9; exact Calls.regrown_of (rcheck_any hr hB c)))))); refine wpQuiet_nil ?_; intro w1 hw1; have hb := below_of_regrown hw1; clear hw1; obtain ⟨hS, hE, hz, hc, hf⟩ := bcell hb; (try simp only [go_sem] at hE); subst hE))
    go_ret2
    exact ⟨by rw [HS.out]; rfl, (by repeat' (first | (with_reducible exact Below.refl _ _) | (with_reducible refine below_drewN ?_ _) | (with_reducible refine Below.drew ?_) | (with_reducible refine Below.alloc ?_ ?_ _) | (with_reducible refine Below.setCell ?_ ?_ _) | (with_reducible refine below_step ?_ (by assumption) ?_) | go_size))⟩

end
end Go.Proofs.Ytoombjndcegggaa.Rail
