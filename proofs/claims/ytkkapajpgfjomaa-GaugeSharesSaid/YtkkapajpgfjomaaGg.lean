/- How many floats there are in each bar, by the program. No condition. -/
import Derived.Test.YtkkapajpgfjomaaFlw
import Derived.Test.YtkkapajpgfjomaaAppI
import Derived.Laws.MakeOwn
namespace Go.Proofs.Ytkkapajpgfjomaa.Gauge
open Go.ChangeShapes Go.WideShapes Go.ChangeAt Go.RowKit Go.Proofs.Ytkkapajpgfjomaa.Kit Go.Proofs.Ytkkapajpgfjomaa.Flt Go.Proofs.Ytkkapajpgfjomaa.Real Go.Proofs.Ytkkapajpgfjomaa.Mem Go.Deep
open Ieee
set_option linter.unusedVariables false
set_option linter.unusedSimpArgs false
/-- Is a float from 0 to 1, and of which bar? -/
def inB (f : Nat) : Bool := fleB 0 f && fleB f 4607182418800017408
def barOf (f n : Nat) : Nat := match double.mul f (floatOfInt .f64 (n : Int)) with | some v => min (floorV v) (n - 1) | none => 0
def stepB (n : Nat) (cs : List Int) (f : Nat) : List Int := if inB f = true then cs.set (barOf f n) (cs.getD (barOf f n) 0 + 1) else cs
def barsV (l : List Nat) (n : Nat) : List Int := l.foldl (stepB n) (List.replicate n 0)
theorem bars_take (l : List Nat) (n k : Nat) (h : k < l.length) : barsV (l.take (k + 1)) n = stepB n (barsV (l.take k) n) (l.getD k 0) := by
  unfold barsV
  rw [List.take_add_one, List.foldl_append, List.getElem?_eq_getElem h, List.getD_eq_getElem?_getD, List.getElem?_eq_getElem h]
  rfl
theorem bar_lt (f : Nat) {n : Nat} (h : 1 ≤ n) : barOf f n < n := by
  unfold barOf
  split <;> omega
def BarOk (n k : Nat) (cs : List Int) : Prop := cs.length = n ∧ ∀ j, 0 ≤ cs.getD j 0 ∧ cs.getD j 0 ≤ (k : Int)
theorem set_get (cs : List Int) (i j : Nat) (x : Int) (h : i < cs.length) : (cs.set i x).getD j 0 = if i = j then x else cs.getD j 0 := by
  rw [List.getD_eq_getElem?_getD, List.getElem?_set]
  by_cases hij : i = j
  · subst hij
    rw [if_pos rfl, if_pos rfl, if_pos h]
    rfl
  · rw [if_neg hij, if_neg hij, List.getD_eq_getElem?_getD]
theorem step_ok {n k : Nat} {cs : List Int} (h : BarOk n k cs) (hn : 1 ≤ n) (f : Nat) : BarOk n (k + 1) (stepB n cs f) := by
  obtain ⟨h1, h2⟩ := h
  unfold stepB
  split
  · refine ⟨by rw [List.length_set, h1], fun j => ?_⟩
    rw [set_get _ _ _ _ (by rw [h1]; exact bar_lt f hn)]
    have a1 := h2 j
    have a2 := h2 (barOf f n)
    split <;> omega
  · exact ⟨h1, fun j => by have := h2 j; omega⟩
theorem rep_get (n j : Nat) : (List.replicate n (0 : Int)).getD j 0 = 0 := by
  rw [List.getD_eq_getElem?_getD, List.getElem?_replicate]
  split <;> rfl
/-- The bars lie in a block of the call's own. -/
def BarI (w : World) (g n : Nat) (cs : List Int) : Prop := g < w.heap.size ∧ ∀ j, j < n → w.cell? ⟨g, j, none⟩ = some (.int .i64 (cs.getD j 0)) ∧ w.frozen? ⟨g, j, none⟩ = false
theorem barI_set {w : World} {g n k : Nat} {cs : List Int} {x : Int} (h : BarI w g n cs) (hl : cs.length = n) (hk : k < n) : BarI (w.setCell ⟨g, k, none⟩ (.int .i64 x)) g n (cs.set k x) := by
  refine ⟨by simpa using h.1, fun j hj => ?_⟩
  obtain ⟨h1, h2⟩ := h.2 j hj
  rw [World.frozen?_setCell, set_get _ _ _ _ (by omega)]
  refine ⟨?_, h2⟩
  by_cases hjk : k = j
  · subst hjk
    rw [if_pos rfl]
    go_simp
  · rw [if_neg hjk, World.cell?_setCell_other _ _ _ _ (by intro e; injection e with e1 e2; omega)]
    exact h1
theorem barI_below {w w' : World} {g n : Nat} {cs : List Int} (h : BarI w g n cs) (hb : Below w.heap.size w w') : BarI w' g n cs :=
  ⟨Nat.lt_of_lt_of_le h.1 hb.size, fun j hj => ⟨(hb.cell (p := ⟨g, j, none⟩) h.1).trans (h.2 j hj).1, (hb.frozen (p := ⟨g, j, none⟩) h.1).trans (h.2 j hj).2⟩⟩
theorem barI_ints {w : World} {g n : Nat} {cs : List Int} (h : BarI w g n cs) (hl : cs.length = n) : Ints w w.heap.size (some ⟨g, 0, none⟩) n cs :=
  ⟨hl, fun _ => ⟨g, 0, rfl, h.1, fun j hj => by rw [Nat.zero_add]; exact (h.2 j hj).1⟩⟩
theorem made_get (n j : Nat) (h : j < n) : (madeCells (Value.int .i64 0).cells (n * 1))[j]? = some (.int .i64 0) := by
  unfold madeCells
  rw [Array.getElem?_map, Array.getElem?_eq_getElem (by simpa using h)]
  have : (Value.int .i64 0).cells = #[.int .i64 0] := rfl
  rw [this]
  simp [Nat.mod_one]
theorem barI_made (w : World) (n : Nat) (t : TypeId) : BarI (w.alloc (.cells (madeCells (Value.int .i64 0).cells (n * 1)) t)) w.heap.size n (List.replicate n 0) := by
  refine ⟨by simp, fun j hj => ⟨?_, ?_⟩⟩
  · rw [rep_get, World.cell?_alloc_new]
    exact made_get n j hj
  · unfold World.frozen?
    rw [heap_alloc_new]
    simp
def BarsPost (w : World) (l : List Nat) (n : Int) (e : Ending) (w' : World) : Prop :=
  (decide (n < 1) || decide (1000 < n)) = true ∧ e = .returned (.slice none 0 0) ∧ Below w.heap.size w w' ∨
  ∃ g k, n = (k : Nat) ∧ 1 ≤ k ∧ k ≤ 1000 ∧ e = .returned (.slice (some ⟨g, 0, none⟩) k k) ∧ Ints w' w'.heap.size (some ⟨g, 0, none⟩) k (barsV l k) ∧ Below w.heap.size w w'
set_option maxHeartbeats 4000000 in
theorem bars_in {w : World} {B n c m : Nat} {A : Option Addr} {l : List Nat} (hr : SRow encF 1 w B A n l) (hB : B ≤ w.heap.size) (hn : n ≤ 100000) (hfit : ∀ j, l.getD j 0 < 18446744073709551616) (h1 : 1 ≤ m) (h2 : m ≤ 1000) :
    Calls Try.prog 22 #[.slice A n c, .int .i64 m] w fun e w' => ∃ g, e = .returned (.slice (some ⟨g, 0, none⟩) m m) ∧ Ints w' w'.heap.size (some ⟨g, 0, none⟩) m (barsV l m) ∧ Below w.heap.size w w' := by
  obtain ⟨i0, hi0, hz0, hz1, hz2⟩ := info_parts info_i64
  have e1 := hr.1
  subst e1
  have HR := hide hr
  clear hr
  have hmk := run_make (P := Try.prog) w 43 3 i0 _ Try.underlying43 hi0 hz0 .i64 .i64 (m : Int) (m : Int) (by omega) (by omega) (by rw [hz2]; omega) (by omega)
  rw [hz1, Int.toNat_natCast] at hmk
  have HM := hide (barI_made w m 3)
  have hcs := size_madeCells (Value.int .i64 0).cells (m * 1)
  generalize madeCells (Value.int .i64 0).cells (m * 1) = mc at *
  have b1 : decide ((m : Int) < 1) = false := decide_eq_false (by omega)
  have b2 : decide (1000 < (m : Int)) = false := decide_eq_false (by omega)
  go_enter Try.func22, Try.ntmps22
  go_wp2
  go_step3
  go_wp2
  go_step3
  go_wp2
  have HB0 : Hid (Below w.heap.size w (w.alloc (.cells mc 3))) := hide ((Below.refl _ _).alloc (Nat.le_refl _) _)
  have hg0 : w.heap.size < (w.alloc (.cells mc 3)).heap.size := by simp
  have HOK0 : Hid (BarOk m 0 (barsV (l.take 0) m)) := hide ⟨by simp [barsV], fun j => by rw [show barsV (l.take 0) m = List.replicate m 0 from rfl, rep_get]; omega⟩
  generalize hw0 : w.alloc (.cells mc 3) = w0 at *
  generalize hg : w.heap.size = g at *
  clear hmk hw0
  go_loopw [19] (fun i wr => ∃ k : Nat, k ≤ l.length ∧ i = .int .i64 k ∧ Hid (BarI wr g m (barsV (l.take k) m)) ∧ Hid (BarOk m k (barsV (l.take k) m)) ∧ Below g w wr) (fun i _ => l.length - (intOf i).toNat)
  case atStart => exact ⟨0, Nat.zero_le _, rfl, HM, HOK0, HB0.out⟩
  case round =>
    obtain ⟨k, hk, rfl, HI, HOK, hbw⟩ := hrel
    clear HM HOK0 HB0 hg0
    have hz0 := hbw.size
    have HBW := hide hbw
    by_cases hlt : k < l.length
    · obtain ⟨b, off, rfl, hbB, hcell⟩ := frow_cells HR.out (by omega)
      have d0 := (hbw.cell (p := ⟨b, off + k, none⟩) (by dsimp only; omega)).trans (hcell k hlt)
      have HT := hide (bars_take l m k hlt)
      have HOK2 := hide (step_ok HOK.out h1 (l.getD k 0))
      rw [← HT.out] at HOK2
      have hx := hfit k
      clear hcell hbw
      generalize l.getD k 0 = f at *
      have HIN : Hid (inB f = (fleB 0 f && fleB f 4607182418800017408)) := hide rfl
      cases hf0 : fleB 0 f
      · have HT2 : Hid (barsV (l.take (k + 1)) m = barsV (l.take k) m) := hide (HT.out.trans (if_neg (by rw [HIN.out, hf0]; simp)))
        rw [← HT2.out] at HI
        go_wp2_with (first | ((with_reducible change Code.wp _ (Code.region _ _ _) _ _ _); refine wp_region_quiet_below (by kernel_rfl) (by kernel_rfl) ?_; (repeat (first | go_big_quiet_step (fail) | quiet_step (fail))); refine wpQuiet_nil ?_; intro w1 hw1; have hb := below_of_regrown hw1; clear hw1; obtain ⟨hS, hE, hz, hc, hf⟩ := bcell hb; (try simp only [go_sem] at hE); subst hE))
        exact ⟨⟨k + 1, by omega, by go_num, HI, HOK2, HBW.out⟩, by simp [intOf]; omega⟩
      · cases hf1 : fleB f 4607182418800017408
        · have HT2 : Hid (barsV (l.take (k + 1)) m = barsV (l.take k) m) := hide (HT.out.trans (if_neg (by rw [HIN.out, hf1]; simp)))
          rw [← HT2.out] at HI
          go_wp2_with (first | ((with_reducible change Code.wp _ (Code.region _ _ _) _ _ _); refine wp_region_quiet_below (by kernel_rfl) (by kernel_rfl) ?_; (repeat (first | go_big_quiet_step (fail) | quiet_step (fail))); refine wpQuiet_nil ?_; intro w1 hw1; have hb := below_of_regrown hw1; clear hw1; obtain ⟨hS, hE, hz, hc, hf⟩ := bcell hb; (try simp only [go_sem] at hE); subst hE))
          exact ⟨⟨k + 1, by omega, by go_num, HI, HOK2, HBW.out⟩, by simp [intOf]; omega⟩
        · obtain ⟨v, hmul, hv⟩ := mul_ok hf0 hf1 h1 h2
          have hq := fun t (w : World) => run_float_arith (P := Try.prog) w .mul t .f64 _ _ v hmul
          have cF := fun w => floor_any v hv w
          have hK := floor_lt hv
          have hbar : Hid (barOf f m = min (floorV v) (m - 1)) := hide (by unfold barOf; rw [hmul])
          by_cases hKm : floorV v ≤ m - 1
          all_goals
            have hq : ∃ q : Nat, q = min (floorV v) (m - 1) ∧ q < m ∧ ((floorV v ≤ m - 1 ∧ q = floorV v) ∨ (¬ floorV v ≤ m - 1 ∧ q = m - 1)) := ⟨_, rfl, by omega, by omega⟩
            obtain ⟨q, hq1, hq2, hq4⟩ := hq
            obtain ⟨c0, c1⟩ := HI.out.2 q hq2
            have HT2 : Hid (barsV (l.take (k + 1)) m = (barsV (l.take k) m).set q ((barsV (l.take k) m).getD q 0 + 1)) := hide (by
              rw [HT.out]
              unfold stepB
              rw [HIN.out, hf0, hf1, hbar.out, ← hq1]
              rfl)
            have hbd := HOK.out.2 q
            have HI2 := hide (barI_set (x := (barsV (l.take k) m).getD q 0 + 1) HI.out HOK.out.1 hq2)
            rw [← HT2.out] at HI2
            have hgr := HI.out.1
            have hk9 : k ≤ 100000 := by omega
            clear hq1 hbar HT HT2 HOK HI hmul HIN
            generalize (barsV (l.take k) m).getD q 0 = cv at *
            generalize floorV v = K at *
          · obtain rfl : q = K := by omega
            have hmm : ¬ ((m : Int) - 1 < (q : Int)) := by omega
            clear hq4
            go_wp2_with (go_at_call 35; refine (cF _).mono ?_; rintro e w1 ⟨T, rfl, hT, rfl⟩; have hq3 := fun (w : World) => run_convert_float_int (P := Try.prog) w 32 3 .f64 .i64 T _ (by rw [Try.underlying32]; rfl) Try.underlying3 hT; clear hT)
            exact ⟨⟨k + 1, by omega, by go_num, HI2, HOK2, HBW.out.setCell (Nat.le_refl _) _⟩, by simp [intOf]; omega⟩
          · obtain rfl : q = m - 1 := by omega
            have hmm : (m : Int) - 1 < (K : Int) := by omega
            clear hq4
            go_wp2_with (go_at_call 35; refine (cF _).mono ?_; rintro e w1 ⟨T, rfl, hT, rfl⟩; have hq3 := fun (w : World) => run_convert_float_int (P := Try.prog) w 32 3 .f64 .i64 T _ (by rw [Try.underlying32]; rfl) Try.underlying3 hT; clear hT)
            exact ⟨⟨k + 1, by omega, by go_num, HI2, HOK2, HBW.out.setCell (Nat.le_refl _) _⟩, by simp [intOf]; omega⟩
    · obtain rfl : k = l.length := by omega
      rw [List.take_length] at HI HOK
      go_wp2_with (first | ((with_reducible change Code.wp _ (Code.region _ _ _) _ _ _); refine wp_region_quiet_below (by kernel_rfl) (by kernel_rfl) ?_; (repeat (first | go_big_quiet_step (fail) | quiet_step (fail))); refine wpQuiet_nil ?_; intro w1 hw1; have hb := below_of_regrown hw1; clear hw1; obtain ⟨hS, hE, hz, hc, hf⟩ := bcell hb; (try simp only [go_sem] at hE); subst hE))
      (try rw [Exit.noGoto_ret])
      go_ret
      exact ⟨g, rfl, barI_ints HI.out HOK.out.1, by rw [hg]; exact HBW.out⟩
end Go.Proofs.Ytkkapajpgfjomaa.Gauge
