/- How many floats there are in each bar, by the reference; a number of bars that is none. No condition. -/
import Derived.Test.YtkkapajpgfjomaaGg
namespace Go.Proofs.Ytkkapajpgfjomaa.Gauge
open Go.ChangeShapes Go.WideShapes Go.ChangeAt Go.RowKit Go.Proofs.Ytkkapajpgfjomaa.Kit Go.Proofs.Ytkkapajpgfjomaa.Flt Go.Proofs.Ytkkapajpgfjomaa.Real Go.Proofs.Ytkkapajpgfjomaa.Mem Go.Deep
open Ieee
set_option linter.unusedVariables false
set_option linter.unusedSimpArgs false
theorem bars_out (v : Value) (n : Int) (h : (decide (n < 1) = true) ∨ (decide (n < 1) = false ∧ decide (1000 < n) = true)) (w : World) : Calls Try.prog 22 #[v, .int .i64 n] w fun e w' => e = .returned (.slice none 0 0) ∧ Below w.heap.size w w' := by
  rcases h with h | ⟨h, h2⟩
  all_goals
    go_enter Try.func22, Try.ntmps22
    go_wp2
    go_step3
    go_wp2
    (try rw [Exit.noGoto_ret])
    go_ret
    exact ⟨rfl, Below.refl _ _⟩
theorem rbars_out (v : Value) (n : Int) (h : (decide (n < 1) = true) ∨ (decide (n < 1) = false ∧ decide (1000 < n) = true)) (w : World) : Calls Try.prog 24 #[v, .int .i64 n] w fun e w' => e = .returned (.slice none 0 0) ∧ Below w.heap.size w w' := by
  rcases h with h | ⟨h, h2⟩
  all_goals
    go_enter Try.func24, Try.ntmps24
    go_wp2
    go_ret
    exact ⟨rfl, Below.refl _ _⟩
set_option maxHeartbeats 4000000 in
theorem rbars_in {w : World} {B n c m : Nat} {A : Option Addr} {l : List Nat} (hr : SRow encF 1 w B A n l) (hB : B ≤ w.heap.size) (hn : n ≤ 100000) (hfit : ∀ j, l.getD j 0 < 18446744073709551616) (h1 : 1 ≤ m) (h2 : m ≤ 1000) :
    Calls Try.prog 24 #[.slice A n c, .int .i64 m] w fun e w' => ∃ g, e = .returned (.slice (some ⟨g, 0, none⟩) m m) ∧ Ints w' w'.heap.size (some ⟨g, 0, none⟩) m (barsV l m) ∧ Below w.heap.size w w' := by
  obtain ⟨i0, hi0, hz0, hz1, hz2⟩ := info_parts info_i64
  have e1 := hr.1
  subst e1
  have HR := hide hr
  clear hr
  have hmk := run_make (P := Try.prog) w 43 3 i0 _ Try.underlying43 hi0 hz0 .i64 .i64 (m : Int) (m : Int) (by omega) (by omega) (by rw [hz2]; omega) (by omega)
  rw [hz1, Int.toNat_natCast] at hmk
  have HM := hide (barI_made w m 3)
  have hcs := size_madeCells (Value.int .i64 0).cells (m * 1)
  generalize madeCells (Value.int .i64 0).cells (m * 1) = mc at *
  have b1 : decide ((m : Int) < 1) = false := decide_eq_false (by omega)
  have b2 : decide (1000 < (m : Int)) = false := decide_eq_false (by omega)
  go_enter Try.func24, Try.ntmps24
  go_wp2
  have HB0 : Hid (Below w.heap.size w (w.alloc (.cells mc 3))) := hide ((Below.refl _ _).alloc (Nat.le_refl _) _)
  have hg0 : w.heap.size < (w.alloc (.cells mc 3)).heap.size := by simp
  have HOK0 : Hid (BarOk m 0 (barsV (l.take 0) m)) := hide ⟨by simp [barsV], fun j => by rw [show barsV (l.take 0) m = List.replicate m 0 from rfl, rep_get]; omega⟩
  generalize hw0 : w.alloc (.cells mc 3) = w0 at *
  generalize hg : w.heap.size = g at *
  clear hmk hw0
  go_loopw [6] (fun i wr => ∃ k : Nat, k ≤ l.length ∧ i = .int .i64 k ∧ Hid (BarI wr g m (barsV (l.take k) m)) ∧ Hid (BarOk m k (barsV (l.take k) m)) ∧ Below g w wr) (fun i _ => l.length - (intOf i).toNat)
  case atStart => exact ⟨0, Nat.zero_le _, rfl, HM, HOK0, HB0.out⟩
  case round =>
    obtain ⟨k, hk, rfl, HI, HOK, hbw⟩ := hrel
    clear HM HOK0 HB0 hg0
    have hz0 := hbw.size
    have HBW := hide hbw
    by_cases hlt : k < l.length
    · obtain ⟨b, off, rfl, hbB, hcell⟩ := frow_cells HR.out (by omega)
      have d0 := (hbw.cell (p := ⟨b, off + k, none⟩) (by dsimp only; omega)).trans (hcell k hlt)
      have HT := hide (bars_take l m k hlt)
      have HOK2 := hide (step_ok HOK.out h1 (l.getD k 0))
      rw [← HT.out] at HOK2
      have hx := hfit k
      clear hcell hbw
      generalize l.getD k 0 = f at *
      have HIN : Hid (inB f = (fleB 0 f && fleB f 4607182418800017408)) := hide rfl
      cases hf0 : fleB 0 f
      · have HT2 : Hid (barsV (l.take (k + 1)) m = barsV (l.take k) m) := hide (HT.out.trans (if_neg (by rw [HIN.out, hf0]; simp)))
        rw [← HT2.out] at HI
        go_wp2_with (first | ((with_reducible change Code.wp _ (Code.region _ _ _) _ _ _); refine wp_region_quiet_below (by kernel_rfl) (by kernel_rfl) ?_; (repeat (first | go_big_quiet_step (fail) | quiet_step (fail))); refine wpQuiet_nil ?_; intro w1 hw1; have hb := below_of_regrown hw1; clear hw1; obtain ⟨hS, hE, hz, hc, hf⟩ := bcell hb; (try simp only [go_sem] at hE); subst hE))
        exact ⟨⟨k + 1, by omega, by go_num, HI, HOK2, HBW.out⟩, by simp [intOf]; omega⟩
      · cases hf1 : fleB f 4607182418800017408
        · have HT2 : Hid (barsV (l.take (k + 1)) m = barsV (l.take k) m) := hide (HT.out.trans (if_neg (by rw [HIN.out, hf1]; simp)))
          rw [← HT2.out] at HI
          go_wp2_with (first | ((with_reducible change Code.wp _ (Code.region _ _ _) _ _ _); refine wp_region_quiet_below (by kernel_rfl) (by kernel_rfl) ?_; (repeat (first | go_big_quiet_step (fail) | quiet_step (fail))); refine wpQuiet_nil ?_; intro w1 hw1; have hb := below_of_regrown hw1; clear hw1; obtain ⟨hS, hE, hz, hc, hf⟩ := bcell hb; (try simp only [go_sem] at hE); subst hE))
          exact ⟨⟨k + 1, by omega, by go_num, HI, HOK2, HBW.out⟩, by simp [intOf]; omega⟩
        · obtain ⟨v, hmul, hv⟩ := mul_ok hf0 hf1 h1 h2
          have hq := fun t (w : World) => run_float_arith (P := Try.prog) w .mul t .f64 _ _ v hmul
          have HGE := hide (fun m (a : 1 ≤ m) (b : m ≤ 1000) => ge_int (v := v) (m := m) hv a b)
          have hbar : Hid (barOf f m = min (floorV v) (m - 1)) := hide (by unfold barOf; rw [hmul])
          have hq : ∃ q : Nat, q = min (floorV v) (m - 1) ∧ q < m := ⟨_, rfl, by omega⟩
          obtain ⟨q, hq1, hq2⟩ := hq
          obtain ⟨c0, c1⟩ := HI.out.2 q hq2
          have HT2 : Hid (barsV (l.take (k + 1)) m = (barsV (l.take k) m).set q ((barsV (l.take k) m).getD q 0 + 1)) := hide (by
            rw [HT.out]
            unfold stepB
            rw [HIN.out, hf0, hf1, hbar.out, ← hq1]
            rfl)
          have hbd := HOK.out.2 q
          have HI2 := hide (barI_set (x := (barsV (l.take k) m).getD q 0 + 1) HI.out HOK.out.1 hq2)
          rw [← HT2.out] at HI2
          have hgr := HI.out.1
          have hk9 : k ≤ 100000 := by omega
          have HQ := hide hq1
          clear hq1 hbar HT HT2 HOK HI hmul HIN
          generalize (barsV (l.take k) m).getD q 0 = cv at *
          generalize floorV v = K at *
          go_wp2
          go_loopw [8] (fun o wx => ∃ j : Nat, o = .int .i64 j ∧ j ≤ q ∧ wx = wr) (fun o _ => m - (intOf o).toNat)
          case atStart => exact ⟨0, rfl, Nat.zero_le _, rfl⟩
          case round =>
            obtain ⟨j, rfl, hj, rfl⟩ := hrel
            by_cases hjq : j < q
            · have g1 := HGE.out (j + 1) (by omega) (by omega)
              rw [decide_eq_true (by have := HQ.out; omega), show (((j + 1 : Nat)) : Int) = (j : Int) + 1 by omega] at g1
              have hjm : (j : Int) < (m : Int) - 1 := by have := HQ.out; omega
              go_wp2_with (first | ((with_reducible change Code.wp _ (Code.region _ _ _) _ _ _); refine wp_region_quiet_below (by kernel_rfl) (by kernel_rfl) ?_; (repeat (first | go_big_quiet_step (fail) | quiet_step (fail))); refine wpQuiet_nil ?_; intro w1 hw1; have hb := below_of_regrown hw1; clear hw1; obtain ⟨hS, hE, hz, hc, hf⟩ := bcell hb; (try simp only [go_sem] at hE); subst hE))
              exact ⟨⟨j + 1, by go_num, by omega, trivial⟩, by simp [intOf]; omega⟩
            · obtain rfl : j = q := by omega
              by_cases hjm : (j : Int) < (m : Int) - 1
              · have g1 := HGE.out (j + 1) (by omega) (by omega)
                rw [decide_eq_false (by have := HQ.out; omega), show (((j + 1 : Nat)) : Int) = (j : Int) + 1 by omega] at g1
                go_wp2_with (first | ((with_reducible change Code.wp _ (Code.region _ _ _) _ _ _); refine wp_region_quiet_below (by kernel_rfl) (by kernel_rfl) ?_; (repeat (first | go_big_quiet_step (fail) | quiet_step (fail))); refine wpQuiet_nil ?_; intro w1 hw1; have hb := below_of_regrown hw1; clear hw1; obtain ⟨hS, hE, hz, hc, hf⟩ := bcell hb; (try simp only [go_sem] at hE); subst hE))
                exact ⟨⟨k + 1, by omega, by go_num, HI2, HOK2, HBW.out.setCell (Nat.le_refl _) _⟩, by simp [intOf]; omega⟩
              · have b9 : decide ((j : Int) < (m : Int) - 1) = false := decide_eq_false hjm
                go_wp2_with (first | ((with_reducible change Code.wp _ (Code.region _ _ _) _ _ _); refine wp_region_quiet_below (by kernel_rfl) (by kernel_rfl) ?_; (repeat (first | go_big_quiet_step (fail) | quiet_step (fail))); refine wpQuiet_nil ?_; intro w1 hw1; have hb := below_of_regrown hw1; clear hw1; obtain ⟨hS, hE, hz, hc, hf⟩ := bcell hb; (try simp only [go_sem] at hE); subst hE))
                exact ⟨⟨k + 1, by omega, by go_num, HI2, HOK2, HBW.out.setCell (Nat.le_refl _) _⟩, by simp [intOf]; omega⟩
    · obtain rfl : k = l.length := by omega
      rw [List.take_length] at HI HOK
      go_wp2_with (first | ((with_reducible change Code.wp _ (Code.region _ _ _) _ _ _); refine wp_region_quiet_below (by kernel_rfl) (by kernel_rfl) ?_; (repeat (first | go_big_quiet_step (fail) | quiet_step (fail))); refine wpQuiet_nil ?_; intro w1 hw1; have hb := below_of_regrown hw1; clear hw1; obtain ⟨hS, hE, hz, hc, hf⟩ := bcell hb; (try simp only [go_sem] at hE); subst hE))
      go_ret
      exact ⟨g, rfl, barI_ints HI.out HOK.out.1, by rw [hg]; exact HBW.out⟩
end Go.Proofs.Ytkkapajpgfjomaa.Gauge
