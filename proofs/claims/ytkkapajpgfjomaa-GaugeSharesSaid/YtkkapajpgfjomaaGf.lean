/- The place of the greatest of any floats, by the program and by the reference. No condition. -/
import Derived.Test.YtkkapajpgfjomaaGb
import Derived.Test.YtkkapajpgfjomaaSrtP
namespace Go.Proofs.Ytkkapajpgfjomaa.Gauge
open Go.ChangeShapes Go.WideShapes Go.ChangeAt Go.RowKit Go.Proofs.Ytkkapajpgfjomaa.Kit Go.Proofs.Ytkkapajpgfjomaa.Flt Go.Proofs.Ytkkapajpgfjomaa.Real Go.Proofs.Ytkkapajpgfjomaa.Mem Go.Deep
open Ieee
set_option linter.unusedVariables false
set_option linter.unusedSimpArgs false
/-- One more float. -/
def mostS (l : List Nat) (a : Int) (i : Nat) : Int := if nanB (l.getD i 0) = true then a else if a < 0 ∨ rankV (l.getD a.toNat 0) < rankV (l.getD i 0) then (i : Int) else a
def mostV (l : List Nat) : Nat → Int
  | 0 => -1
  | k + 1 => mostS l (mostV l k) k
theorem most_cases (l : List Nat) : ∀ k, mostV l k = -1 ∨ ∃ j : Nat, mostV l k = (j : Int) ∧ j < k
  | 0 => .inl rfl
  | k + 1 => by
    have ih := most_cases l k
    show mostS l (mostV l k) k = -1 ∨ ∃ j : Nat, mostS l (mostV l k) k = (j : Int) ∧ j < k + 1
    unfold mostS
    split
    · rcases ih with h | ⟨j, h, hj⟩
      · exact .inl h
      · exact .inr ⟨j, h, by omega⟩
    · split
      · exact .inr ⟨k, rfl, by omega⟩
      · rcases ih with h | ⟨j, h, hj⟩
        · exact .inl h
        · exact .inr ⟨j, h, by omega⟩
theorem most_nan {l : List Nat} {k : Nat} (h : nanB (l.getD k 0) = true) : mostV l (k + 1) = mostV l k := if_pos h
theorem most_first {l : List Nat} {k : Nat} (h : nanB (l.getD k 0) = false) (h1 : mostV l k = -1) : mostV l (k + 1) = (k : Int) := by
  show mostS l (mostV l k) k = _
  unfold mostS
  rw [h1, if_neg (by rw [h]; decide), if_pos (.inl (by decide))]
theorem most_next {l : List Nat} {k j : Nat} (h : nanB (l.getD k 0) = false) (h1 : mostV l k = (j : Int)) : mostV l (k + 1) = if rankV (l.getD j 0) < rankV (l.getD k 0) then (k : Int) else (j : Int) := by
  show mostS l (mostV l k) k = _
  unfold mostS
  rw [h1, if_neg (by rw [h]; decide), Int.toNat_natCast]
  by_cases h2 : rankV (l.getD j 0) < rankV (l.getD k 0)
  · rw [if_pos (.inr h2), if_pos h2]
  · rw [if_neg (fun h => h.elim (by omega) h2), if_neg h2]
set_option maxHeartbeats 2000000 in
theorem most_any {w : World} {B n c : Nat} {A : Option Addr} {l : List Nat} (hr : SRow encF 1 w B A n l) (hB : B ≤ w.heap.size) (hn : n ≤ 100000) (hfit : ∀ j, l.getD j 0 < 18446744073709551616) :
    Calls Try.prog 19 #[.slice A n c] w fun e w' => e = .returned (.int .i64 (mostV l n)) ∧ Below w.heap.size w w' := by
  have e1 := hr.1
  subst e1
  have HR := hide hr
  clear hr
  go_enter Try.func19, Try.ntmps19
  go_wp2
  go_loopw [3, 8] (fun a i wr => ∃ (k : Nat) (m : Int), k ≤ l.length ∧ a = .int .i64 m ∧ i = .int .i64 k ∧ Hid (mostV l k = m) ∧ Below w.heap.size w wr) (fun _ i _ => l.length - (intOf i).toNat)
  case atStart => exact ⟨0, -1, Nat.zero_le _, rfl, rfl, hide rfl, Below.refl _ _⟩
  case round =>
    obtain ⟨k, m, hk, rfl, rfl, HS, hbw⟩ := hrel
    have hz0 := hbw.size
    have HBW := hide hbw
    by_cases hlt : k < l.length
    · obtain ⟨b, off, rfl, hbB, hcell⟩ := frow_cells HR.out (by omega)
      have d0 := (hbw.cell (p := ⟨b, off + k, none⟩) (by dsimp only; omega)).trans (hcell k hlt)
      have hx := hfit k
      have C1 := fun w => class_any _ hx w
      have hcl := class_one (l.getD k 0)
      have hcl2 : (classS (l.getD k 0) != 1) = !nanB (l.getD k 0) := by rw [bne, hcl]
      have hbr : b < wr.heap.size := by omega
      cases hnx : nanB (l.getD k 0)
      · rw [hnx] at hcl hcl2
        rcases most_cases l k with h1 | ⟨j, h1, hj⟩
        · have HT := hide (most_first hnx h1)
          obtain rfl : m = -1 := HS.out.symm.trans h1
          generalize classS (l.getD k 0) = cx at *
          generalize l.getD k 0 = x at *
          clear h1 hcell hbw
          go_wp2_with (first | (go_at_call 32; refine (C1 _).mono ?_; rintro e w1 ⟨rfl, rfl⟩) | ((with_reducible change Code.wp _ (Code.region _ _ _) _ _ _); refine wp_region_quiet_below (by kernel_rfl) (by kernel_rfl) ?_; (repeat (first | go_big_quiet_step ((first | (go_at_call 32; exact Calls.regrown_of (below_of_same (C1 _))))) | quiet_step ((first | (go_at_call 32; exact Calls.regrown_of (below_of_same (C1 _))))))); refine wpQuiet_nil ?_; intro w1 hw1; have hb := below_of_regrown hw1; clear hw1; obtain ⟨hS, hE, hz, hc, hf⟩ := bcell hb; (try simp only [go_sem] at hE); subst hE))
          exact ⟨⟨k + 1, k, by omega, rfl, by go_num, HT, HBW.out⟩, by simp [intOf]; omega⟩
        · have HT := hide (most_next hnx h1)
          obtain rfl : m = (j : Int) := HS.out.symm.trans h1
          have hy := hfit j
          have d1 := (hbw.cell (p := ⟨b, off + j, none⟩) (by dsimp only; omega)).trans (hcell j (by omega))
          have cA := fun w => ahead_any _ _ hy hx w
          have hjl : j < l.length := by omega
          generalize classS (l.getD k 0) = cx at *
          generalize l.getD k 0 = x at *
          generalize l.getD j 0 = y at *
          clear h1 hcell hbw
          by_cases h2 : rankV y < rankV x
          · rw [decide_eq_true h2] at cA
            rw [if_pos h2] at HT
            clear h2
            go_wp2_with (first | (go_at_call 32; refine (C1 _).mono ?_; rintro e w1 ⟨rfl, rfl⟩) | (go_at_call 33; refine (cA _).mono ?_; rintro e w1 ⟨rfl, rfl⟩) | ((with_reducible change Code.wp _ (Code.region _ _ _) _ _ _); refine wp_region_quiet_below (by kernel_rfl) (by kernel_rfl) ?_; (repeat (first | go_big_quiet_step ((first | (go_at_call 32; exact Calls.regrown_of (below_of_same (C1 _))) | (go_at_call 33; exact Calls.regrown_of (below_of_same (cA _))))) | quiet_step ((first | (go_at_call 32; exact Calls.regrown_of (below_of_same (C1 _))) | (go_at_call 33; exact Calls.regrown_of (below_of_same (cA _))))))); refine wpQuiet_nil ?_; intro w1 hw1; have hb := below_of_regrown hw1; clear hw1; obtain ⟨hS, hE, hz, hc, hf⟩ := bcell hb; (try simp only [go_sem] at hE); subst hE))
            exact ⟨⟨k + 1, k, by omega, rfl, by go_num, HT, HBW.out⟩, by simp [intOf]; omega⟩
          · rw [decide_eq_false h2] at cA
            rw [if_neg h2] at HT
            clear h2
            go_wp2_with (first | (go_at_call 32; refine (C1 _).mono ?_; rintro e w1 ⟨rfl, rfl⟩) | (go_at_call 33; refine (cA _).mono ?_; rintro e w1 ⟨rfl, rfl⟩) | ((with_reducible change Code.wp _ (Code.region _ _ _) _ _ _); refine wp_region_quiet_below (by kernel_rfl) (by kernel_rfl) ?_; (repeat (first | go_big_quiet_step ((first | (go_at_call 32; exact Calls.regrown_of (below_of_same (C1 _))) | (go_at_call 33; exact Calls.regrown_of (below_of_same (cA _))))) | quiet_step ((first | (go_at_call 32; exact Calls.regrown_of (below_of_same (C1 _))) | (go_at_call 33; exact Calls.regrown_of (below_of_same (cA _))))))); refine wpQuiet_nil ?_; intro w1 hw1; have hb := below_of_regrown hw1; clear hw1; obtain ⟨hS, hE, hz, hc, hf⟩ := bcell hb; (try simp only [go_sem] at hE); subst hE))
            exact ⟨⟨k + 1, j, by omega, rfl, by go_num, HT, HBW.out⟩, by simp [intOf]; omega⟩
      · rw [hnx] at hcl hcl2
        have HT := hide ((most_nan hnx).trans HS.out)
        generalize classS (l.getD k 0) = cx at *
        generalize l.getD k 0 = x at *
        clear hcell hbw
        go_wp2_with (first | (go_at_call 32; refine (C1 _).mono ?_; rintro e w1 ⟨rfl, rfl⟩) | ((with_reducible change Code.wp _ (Code.region _ _ _) _ _ _); refine wp_region_quiet_below (by kernel_rfl) (by kernel_rfl) ?_; (repeat (first | go_big_quiet_step ((first | (go_at_call 32; exact Calls.regrown_of (below_of_same (C1 _))))) | quiet_step ((first | (go_at_call 32; exact Calls.regrown_of (below_of_same (C1 _))))))); refine wpQuiet_nil ?_; intro w1 hw1; have hb := below_of_regrown hw1; clear hw1; obtain ⟨hS, hE, hz, hc, hf⟩ := bcell hb; (try simp only [go_sem] at hE); subst hE))
        exact ⟨⟨k + 1, m, by omega, rfl, by go_num, HT, HBW.out⟩, by simp [intOf]; omega⟩
    · obtain rfl : k = l.length := by omega
      go_wp2_with (first | ((with_reducible change Code.wp _ (Code.region _ _ _) _ _ _); refine wp_region_quiet_below (by kernel_rfl) (by kernel_rfl) ?_; (repeat (first | go_big_quiet_step (fail) | quiet_step (fail))); refine wpQuiet_nil ?_; intro w1 hw1; have hb := below_of_regrown hw1; clear hw1; obtain ⟨hS, hE, hz, hc, hf⟩ := bcell hb; (try simp only [go_sem] at hE); subst hE))
      go_ret
      exact ⟨by rw [HS.out]; rfl, HBW.out⟩
set_option maxHeartbeats 2000000 in
theorem rmost_any {w : World} {B n c : Nat} {A : Option Addr} {l : List Nat} (hr : SRow encF 1 w B A n l) (hB : B ≤ w.heap.size) (hn : n ≤ 100000) (hfit : ∀ j, l.getD j 0 < 18446744073709551616) :
    Calls Try.prog 20 #[.slice A n c] w fun e w' => e = .returned (.int .i64 (mostV l n)) ∧ Below w.heap.size w w' := by
  have e1 := hr.1
  subst e1
  have HR := hide hr
  clear hr
  go_enter Try.func20, Try.ntmps20
  go_wp2
  go_loopw [3, 4] (fun a i wr => ∃ (k : Nat) (m : Int), k ≤ l.length ∧ a = .int .i64 m ∧ i = .int .i64 k ∧ Hid (mostV l k = m) ∧ Below w.heap.size w wr) (fun _ i _ => l.length - (intOf i).toNat)
  case atStart => exact ⟨0, -1, Nat.zero_le _, rfl, rfl, hide rfl, Below.refl _ _⟩
  case round =>
    obtain ⟨k, m, hk, rfl, rfl, HS, hbw⟩ := hrel
    have hz0 := hbw.size
    have HBW := hide hbw
    by_cases hlt : k < l.length
    · obtain ⟨b, off, rfl, hbB, hcell⟩ := frow_cells HR.out (by omega)
      have d0 := (hbw.cell (p := ⟨b, off + k, none⟩) (by dsimp only; omega)).trans (hcell k hlt)
      have hx := hfit k
      have C1 := fun w => none_any _ hx w
      have B1 := fun w => rbits_any (l.getD k 0) w
      have R1 := fun w => rrank_any _ hx w
      have hbr : b < wr.heap.size := by omega
      cases hnx : nanB (l.getD k 0)
      · rw [hnx] at C1
        rcases most_cases l k with h1 | ⟨j, h1, hj⟩
        · have HT := hide (most_first hnx h1)
          obtain rfl : m = -1 := HS.out.symm.trans h1
          generalize l.getD k 0 = x at *
          clear h1 hcell hbw
          go_wp2_with (first | (go_at_call 27; refine (C1 _).mono ?_; rintro e w1 ⟨rfl, rfl⟩) | (go_at_call 26; refine (B1 _).mono ?_; rintro e w1 ⟨rfl, rfl⟩) | (go_at_call 34; refine (R1 _).mono ?_; rintro e w1 ⟨rfl, rfl⟩) | ((with_reducible change Code.wp _ (Code.region _ _ _) _ _ _); refine wp_region_quiet_below (by kernel_rfl) (by kernel_rfl) ?_; (repeat (first | go_big_quiet_step ((first | (go_at_call 27; exact Calls.regrown_of (below_of_same (C1 _))) | (go_at_call 26; exact Calls.regrown_of (below_of_same (B1 _))) | (go_at_call 34; exact Calls.regrown_of (below_of_same (R1 _))))) | quiet_step ((first | (go_at_call 27; exact Calls.regrown_of (below_of_same (C1 _))) | (go_at_call 26; exact Calls.regrown_of (below_of_same (B1 _))) | (go_at_call 34; exact Calls.regrown_of (below_of_same (R1 _))))))); refine wpQuiet_nil ?_; intro w1 hw1; have hb := below_of_regrown hw1; clear hw1; obtain ⟨hS, hE, hz, hc, hf⟩ := bcell hb; (try simp only [go_sem] at hE); subst hE))
          exact ⟨⟨k + 1, k, by omega, rfl, by go_num, HT, HBW.out.trans (by repeat' (first | (with_reducible exact Below.refl _ _) | (with_reducible refine below_drewN ?_ _) | (with_reducible refine Below.drew ?_) | (with_reducible refine Below.alloc ?_ ?_ _) | (with_reducible refine Below.setCell ?_ ?_ _) | (with_reducible refine below_step ?_ (by assumption) ?_) | (with_reducible refine below_step ?_ (below_regrown _ _ _) ?_) | go_size))⟩, by simp [intOf]; omega⟩
        · have HT := hide (most_next hnx h1)
          obtain rfl : m = (j : Int) := HS.out.symm.trans h1
          have hy := hfit j
          have d1 := (hbw.cell (p := ⟨b, off + j, none⟩) (by dsimp only; omega)).trans (hcell j (by omega))
          have B2 := fun w => rbits_any (l.getD j 0) w
          have R2 := fun w => rrank_any _ hy w
          have hjl : j < l.length := by omega
          generalize l.getD k 0 = x at *
          generalize l.getD j 0 = y at *
          clear h1 hcell hbw
          by_cases h2 : rankV y < rankV x
          · rw [if_pos h2] at HT
            have t1 : decide (rankV y < rankV x) = true := decide_eq_true h2
            go_wp2_with (first | (go_at_call 27; refine (C1 _).mono ?_; rintro e w1 ⟨rfl, rfl⟩) | (go_at_call 26; (with_reducible refine (B1 _).mono ?_); rintro e w1 ⟨rfl, rfl⟩) | (go_at_call 34; (with_reducible refine (R1 _).mono ?_); rintro e w1 ⟨rfl, rfl⟩) | (go_at_call 26; (with_reducible refine (B2 _).mono ?_); rintro e w1 ⟨rfl, rfl⟩) | (go_at_call 34; (with_reducible refine (R2 _).mono ?_); rintro e w1 ⟨rfl, rfl⟩) | ((with_reducible change Code.wp _ (Code.region _ _ _) _ _ _); refine wp_region_quiet_below (by kernel_rfl) (by kernel_rfl) ?_; (repeat (first | go_big_quiet_step ((first | (go_at_call 27; exact Calls.regrown_of (below_of_same (C1 _))) | (go_at_call 26; (with_reducible refine Calls.regrown_of (below_of_same (B1 _)));) | (go_at_call 34; (with_reducible refine Calls.regrown_of (below_of_same (R1 _)));) | (go_at_call 26; (with_reducible refine Calls.regrown_of (below_of_same (B2 _)));) | (go_at_call 34; (with_reducible refine Calls.regrown_of (below_of_same (R2 _)));))) | quiet_step ((first | (go_at_call 27; exact Calls.regrown_of (below_of_same (C1 _))) | (go_at_call 26; (with_reducible refine Calls.regrown_of (below_of_same (B1 _)));) | (go_at_call 34; (with_reducible refine Calls.regrown_of (below_of_same (R1 _)));) | (go_at_call 26; (with_reducible refine Calls.regrown_of (below_of_same (B2 _)));) | (go_at_call 34; (with_reducible refine Calls.regrown_of (below_of_same (R2 _)));))))); refine wpQuiet_nil ?_; intro w1 hw1; have hb := below_of_regrown hw1; clear hw1; obtain ⟨hS, hE, hz, hc, hf⟩ := bcell hb; (try simp only [go_sem] at hE); subst hE))
            exact ⟨⟨k + 1, k, by omega, rfl, by go_num, HT, HBW.out.trans (hb.mono hz0)⟩, by simp [intOf]; omega⟩
          · rw [if_neg h2] at HT
            have t1 : decide (rankV y < rankV x) = false := decide_eq_false h2
            go_wp2_with (first | (go_at_call 27; refine (C1 _).mono ?_; rintro e w1 ⟨rfl, rfl⟩) | (go_at_call 26; (with_reducible refine (B1 _).mono ?_); rintro e w1 ⟨rfl, rfl⟩) | (go_at_call 34; (with_reducible refine (R1 _).mono ?_); rintro e w1 ⟨rfl, rfl⟩) | (go_at_call 26; (with_reducible refine (B2 _).mono ?_); rintro e w1 ⟨rfl, rfl⟩) | (go_at_call 34; (with_reducible refine (R2 _).mono ?_); rintro e w1 ⟨rfl, rfl⟩) | ((with_reducible change Code.wp _ (Code.region _ _ _) _ _ _); refine wp_region_quiet_below (by kernel_rfl) (by kernel_rfl) ?_; (repeat (first | go_big_quiet_step ((first | (go_at_call 27; exact Calls.regrown_of (below_of_same (C1 _))) | (go_at_call 26; (with_reducible refine Calls.regrown_of (below_of_same (B1 _)));) | (go_at_call 34; (with_reducible refine Calls.regrown_of (below_of_same (R1 _)));) | (go_at_call 26; (with_reducible refine Calls.regrown_of (below_of_same (B2 _)));) | (go_at_call 34; (with_reducible refine Calls.regrown_of (below_of_same (R2 _)));))) | quiet_step ((first | (go_at_call 27; exact Calls.regrown_of (below_of_same (C1 _))) | (go_at_call 26; (with_reducible refine Calls.regrown_of (below_of_same (B1 _)));) | (go_at_call 34; (with_reducible refine Calls.regrown_of (below_of_same (R1 _)));) | (go_at_call 26; (with_reducible refine Calls.regrown_of (below_of_same (B2 _)));) | (go_at_call 34; (with_reducible refine Calls.regrown_of (below_of_same (R2 _)));))))); refine wpQuiet_nil ?_; intro w1 hw1; have hb := below_of_regrown hw1; clear hw1; obtain ⟨hS, hE, hz, hc, hf⟩ := bcell hb; (try simp only [go_sem] at hE); subst hE))
            exact ⟨⟨k + 1, j, by omega, rfl, by go_num, HT, HBW.out.trans (hb.mono hz0)⟩, by simp [intOf]; omega⟩
      · rw [hnx] at C1
        have HT := hide ((most_nan hnx).trans HS.out)
        generalize l.getD k 0 = x at *
        clear hcell hbw
        go_wp2_with (first | (go_at_call 27; refine (C1 _).mono ?_; rintro e w1 ⟨rfl, rfl⟩) | ((with_reducible change Code.wp _ (Code.region _ _ _) _ _ _); refine wp_region_quiet_below (by kernel_rfl) (by kernel_rfl) ?_; (repeat (first | go_big_quiet_step ((first | (go_at_call 27; exact Calls.regrown_of (below_of_same (C1 _))))) | quiet_step ((first | (go_at_call 27; exact Calls.regrown_of (below_of_same (C1 _))))))); refine wpQuiet_nil ?_; intro w1 hw1; have hb := below_of_regrown hw1; clear hw1; obtain ⟨hS, hE, hz, hc, hf⟩ := bcell hb; (try simp only [go_sem] at hE); subst hE))
        exact ⟨⟨k + 1, m, by omega, rfl, by go_num, HT, HBW.out⟩, by simp [intOf]; omega⟩
    · obtain rfl : k = l.length := by omega
      go_wp2_with (first | ((with_reducible change Code.wp _ (Code.region _ _ _) _ _ _); refine wp_region_quiet_below (by kernel_rfl) (by kernel_rfl) ?_; (repeat (first | go_big_quiet_step (fail) | quiet_step (fail))); refine wpQuiet_nil ?_; intro w1 hw1; have hb := below_of_regrown hw1; clear hw1; obtain ⟨hS, hE, hz, hc, hf⟩ := bcell hb; (try simp only [go_sem] at hE); subst hE))
      go_ret
      exact ⟨by rw [HS.out]; rfl, HBW.out⟩
end Go.Proofs.Ytkkapajpgfjomaa.Gauge
