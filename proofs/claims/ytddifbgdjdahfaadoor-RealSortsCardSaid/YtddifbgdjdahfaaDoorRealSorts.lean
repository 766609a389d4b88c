/- RealSorts: any floats in their order, and the ends of those that are numbers. Condition: none beyond the row's own. -/
import Derived.Test.YtddifbgdjdahfaaDoorLiv1
import Derived.Test.YtddifbgdjdahfaaDoorSrtB
import Derived.Test.YtddifbgdjdahfaaDoorSrtE
import Derived.Test.YtddifbgdjdahfaaDoorRLst
import Derived.Test.YtddifbgdjdahfaaDoorOpen
import Derived.Laws.Cover2
namespace Go.Proofs.YtddifbgdjdahfaaDoor.RealSorts
open Go.ChangeShapes Go.WideShapes Go.ChangeAt Go.RowKit Go.Proofs.YtddifbgdjdahfaaDoor.Kit Go.Proofs.YtddifbgdjdahfaaDoor.Flt Go.Proofs.YtddifbgdjdahfaaDoor.Num Go.Proofs.YtddifbgdjdahfaaDoor.Real Go.Proofs.YtddifbgdjdahfaaDoor.Mem Go.Proofs.YtddifbgdjdahfaaDoor.Door Go.Deep
set_option linter.unusedVariables false
set_option linter.unusedSimpArgs false
theorem one_any (x : Nat) (w : World) : Calls Tryd.prog 25 #[.float .f64 x, .int .u64 x] w fun e w' => e = .returned (.bool true) ∧ w = w' := by
  have B1 := fun w => rbits_any x w
  go_enter Tryd.func25, Tryd.ntmps25
  go_wp2_with (first | (go_at_call 7; refine (B1 _).mono ?_; rintro e w1 ⟨rfl, rfl⟩) | ((with_reducible change Code.wp _ (Code.region _ _ _) _ _ _); refine wp_region_quiet_below (by kernel_rfl) (by kernel_rfl) ?_; (repeat (first | go_big_quiet_step ((first | (go_at_call 7; exact Calls.regrown_of (below_of_same (B1 _))))) | quiet_step ((first | (go_at_call 7; exact Calls.regrown_of (below_of_same (B1 _))))))); refine wpQuiet_nil ?_; intro w1 hw1; have hb := below_of_regrown hw1; clear hw1; obtain ⟨hS, hE, hz, hc, hf⟩ := bcell hb; (try simp only [go_sem] at hE); subst hE))
  go_ret
  exact ⟨rfl, rfl⟩
theorem class_num (x : Nat) : decide (1 < classS x) = !nanB x := by
  unfold classS
  cases nanB x
  · rw [if_neg (by decide)]
    repeat' split
    all_goals rfl
  · rfl
set_option maxHeartbeats 4000000 in
theorem walk {w : World} {B n c : Nat} {A : Option Addr} {l : List Nat} (hr : SRow encF 1 w B A n l) (hB : B ≤ w.heap.size) (hfit : ∀ z ∈ l, z < 18446744073709551616) (h : TabW w) : Calls Tryd.prog 6 #[.slice A n c] w fun e w' => e = .returned (.bool true) ∧ Below w.heap.size w w' := by
  have e1 := hr.1
  subst e1
  have HR := hide hr
  have HT := hide h
  have hL := fun w h => lives_any w h
  by_cases h5 : 200 < l.length
  · clear hr h hfit
    go_enter Tryd.func6, Tryd.ntmps6
    go_wp2_with (first | (go_at_call 10; refine (hL _ (HT.out.below (B := w.heap.size) (by repeat' (first | (with_reducible exact Below.refl _ _) | (with_reducible refine below_drewN ?_ _) | (with_reducible refine Below.drew ?_) | (with_reducible refine Below.alloc ?_ ?_ _) | (with_reducible refine Below.setCell ?_ ?_ _) | (with_reducible refine below_step ?_ (by assumption) ?_) | (with_reducible refine below_step ?_ (below_regrown _ _ _) ?_) | go_size)) (by omega))).mono ?_; rintro e w1 ⟨rfl, hb⟩; obtain ⟨hS, hE, hz, hc, hf⟩ := bcell hb; (try simp only [go_sem] at hE); subst hE) | ((with_reducible change Code.wp _ (Code.region _ _ _) _ _ _); refine wp_region_quiet_below (by kernel_rfl) (by kernel_rfl) ?_; (repeat (first | go_big_quiet_step ((first | (go_at_call 10; exact Calls.regrown_of (hL _ (HT.out.below (B := w.heap.size) (by repeat' (first | (with_reducible exact Below.refl _ _) | (with_reducible refine below_drewN ?_ _) | (with_reducible refine Below.drew ?_) | (with_reducible refine Below.alloc ?_ ?_ _) | (with_reducible refine Below.setCell ?_ ?_ _) | (with_reducible refine below_step ?_ (by assumption) ?_) | (with_reducible refine below_step ?_ (below_regrown _ _ _) ?_) | go_size)) (by omega)))))) | quiet_step ((first | (go_at_call 10; exact Calls.regrown_of (hL _ (HT.out.below (B := w.heap.size) (by repeat' (first | (with_reducible exact Below.refl _ _) | (with_reducible refine below_drewN ?_ _) | (with_reducible refine Below.drew ?_) | (with_reducible refine Below.alloc ?_ ?_ _) | (with_reducible refine Below.setCell ?_ ?_ _) | (with_reducible refine below_step ?_ (by assumption) ?_) | (with_reducible refine below_step ?_ (below_regrown _ _ _) ?_) | go_size)) (by omega)))))))); refine wpQuiet_nil ?_; intro w1 hw1; have hb := below_of_regrown hw1; clear hw1; obtain ⟨hS, hE, hz, hc, hf⟩ := bcell hb; (try simp only [go_sem] at hE); subst hE))
    go_ret
    exact ⟨rfl, (by repeat' (first | (with_reducible exact Below.refl _ _) | (with_reducible refine below_drewN ?_ _) | (with_reducible refine Below.drew ?_) | (with_reducible refine Below.alloc ?_ ?_ _) | (with_reducible refine Below.setCell ?_ ?_ _) | (with_reducible refine below_step ?_ (by assumption) ?_) | (with_reducible refine below_step ?_ (below_regrown _ _ _) ?_) | go_size))⟩
  have S1 := fun (w : World) h hB => sort_any (w := w) (B := B) (n := l.length) (c := c) (A := A) (l := l) h hB (by omega) hfit
  have L1 := fun (w : World) h hB => rlist_any (w := w) (B := B) (n := l.length) (c := c) (A := A) (l := l) h hB (by omega)
  have S2 := fun (w : World) (A2 : Option Addr) (c2 : Nat) h => rsort_any (w := w) (B := w.heap.size) (n := l.length) (c := c2) (A := A2) (l := l) h (Nat.le_refl _) (by omega) hfit
  have E1 := fun (w : World) h hB => ends_any (w := w) (B := B) (n := l.length) (c := c) (A := A) (l := l) h hB (by omega) hfit
  obtain ⟨f1, f2, f3, f4⟩ := ends_facts l hfit
  have HSF := hide (fun j => sort_fit (l := l) hfit j)
  have F2 := hide f2
  have F3 := hide f3
  have F4 := hide f4
  clear hr h hfit f2 f3 f4
  generalize sortV l = S at *
  generalize endsV l = v at *
  obtain ⟨x, y, m⟩ := v
  dsimp only at E1 f1 F2 F3 F4
  go_enter Tryd.func6, Tryd.ntmps6
  go_wp2_with (first | (go_at_call 21; refine (S1 _ (srow_below HR.out (B1 := w.heap.size) (by repeat' (first | (with_reducible exact Below.refl _ _) | (with_reducible refine below_drewN ?_ _) | (with_reducible refine Below.drew ?_) | (with_reducible refine Below.alloc ?_ ?_ _) | (with_reducible refine Below.setCell ?_ ?_ _) | (with_reducible refine below_step ?_ (by assumption) ?_) | (with_reducible refine below_step ?_ (below_regrown _ _ _) ?_) | go_size)) hB) (by omega)).mono ?_; rintro e w1 ⟨A1, c1, rfl, k1, hb1⟩; obtain ⟨hS1, hE1, hz1, hc1, hf1⟩ := bcell hb1; (try simp only [go_sem] at hE1); subst hE1) | (go_at_call 23; refine (L1 _ (srow_below HR.out (B1 := w.heap.size) (by repeat' (first | (with_reducible exact Below.refl _ _) | (with_reducible refine below_drewN ?_ _) | (with_reducible refine Below.drew ?_) | (with_reducible refine Below.alloc ?_ ?_ _) | (with_reducible refine Below.setCell ?_ ?_ _) | (with_reducible refine below_step ?_ (by assumption) ?_) | (with_reducible refine below_step ?_ (below_regrown _ _ _) ?_) | go_size)) hB) (by omega)).mono ?_; rintro e w2 ⟨A2, c2, rfl, k2, hb2⟩; obtain ⟨hS2, hE2, hz2, hc2, hf2⟩ := bcell hb2; (try simp only [go_sem] at hE2); subst hE2) | (go_at_call 22; refine (S2 _ _ _ k2).mono ?_; rintro e w3 ⟨A3, c3, rfl, k3, hb3⟩; obtain ⟨hS3, hE3, hz3, hc3, hf3⟩ := bcell hb3; (try simp only [go_sem] at hE3); subst hE3) | (go_at_call 24; refine (E1 _ (srow_below HR.out (B1 := w.heap.size) (by repeat' (first | (with_reducible exact Below.refl _ _) | (with_reducible refine below_drewN ?_ _) | (with_reducible refine Below.drew ?_) | (with_reducible refine Below.alloc ?_ ?_ _) | (with_reducible refine Below.setCell ?_ ?_ _) | (with_reducible refine below_step ?_ (by assumption) ?_) | (with_reducible refine below_step ?_ (below_regrown _ _ _) ?_) | go_size)) hB) (by omega)).mono ?_; rintro e w4 ⟨rfl, hb4⟩; obtain ⟨hS4, hE4, hz4, hc4, hf4⟩ := bcell hb4; (try simp only [go_sem] at hE4); subst hE4) | (go_at_call 10; refine (hL _ (HT.out.below (B := w.heap.size) (by repeat' (first | (with_reducible exact Below.refl _ _) | (with_reducible refine below_drewN ?_ _) | (with_reducible refine Below.drew ?_) | (with_reducible refine Below.alloc ?_ ?_ _) | (with_reducible refine Below.setCell ?_ ?_ _) | (with_reducible refine below_step ?_ (by assumption) ?_) | (with_reducible refine below_step ?_ (below_regrown _ _ _) ?_) | go_size)) (by omega))).mono ?_; rintro e w5 ⟨rfl, hb5⟩; obtain ⟨hS5, hE5, hz5, hc5, hf5⟩ := bcell hb5; (try simp only [go_sem] at hE5); subst hE5))
  have KF := hide (srow_below (srow_of_own encF_len (by decide) k1) (show Below w1.heap.size w1 w5 from (by repeat' (first | (with_reducible exact Below.refl _ _) | (with_reducible refine below_drewN ?_ _) | (with_reducible refine Below.drew ?_) | (with_reducible refine Below.alloc ?_ ?_ _) | (with_reducible refine Below.setCell ?_ ?_ _) | (with_reducible refine below_step ?_ (by assumption) ?_) | (with_reducible refine below_step ?_ (below_regrown _ _ _) ?_) | go_size))) (Nat.le_refl _))
  have KU := hide (srow_below (srow_of_own encU_len (by decide) k3) (show Below w3.heap.size w3 w5 from (by repeat' (first | (with_reducible exact Below.refl _ _) | (with_reducible refine below_drewN ?_ _) | (with_reducible refine Below.drew ?_) | (with_reducible refine Below.alloc ?_ ?_ _) | (with_reducible refine Below.setCell ?_ ?_ _) | (with_reducible refine below_step ?_ (by assumption) ?_) | (with_reducible refine below_step ?_ (below_regrown _ _ _) ?_) | go_size))) (Nat.le_refl _))
  have HBW := hide (show Below w.heap.size w w5 from (by repeat' (first | (with_reducible exact Below.refl _ _) | (with_reducible refine below_drewN ?_ _) | (with_reducible refine Below.drew ?_) | (with_reducible refine Below.alloc ?_ ?_ _) | (with_reducible refine Below.setCell ?_ ?_ _) | (with_reducible refine below_step ?_ (by assumption) ?_) | (with_reducible refine below_step ?_ (below_regrown _ _ _) ?_) | go_size)))
  have z1 : w1.heap.size ≤ w5.heap.size := by omega
  have z3 : w3.heap.size ≤ w5.heap.size := by omega
  have z0 : w.heap.size ≤ w5.heap.size := by omega
  clear hc1 hc2 hc3 hc4 hc5 hf1 hf2 hf3 hf4 hf5 k1 k2 k3 hz1 hz2 hz3 hz4 hz5 S1 S2 L1 E1 hL HT HR
  have hmin : Hid (0 = min 0 m) := hide (by omega)
  go_loopw [8, 9] (fun k i wr => ∃ j q : Nat, j ≤ l.length ∧ k = .int .i64 q ∧ i = .int .i64 j ∧ Hid (q = min j m) ∧ Below w5.heap.size w5 wr) (fun _ i _ => l.length - (intOf i).toNat)
  case atStart => exact ⟨0, 0, Nat.zero_le _, rfl, rfl, hmin, Below.refl _ _⟩
  case round =>
    obtain ⟨j, q, hj, rfl, rfl, hq, hbr⟩ := hrel
    have hzr := hbr.size
    have HBR := hide hbr
    by_cases hlt : j < l.length
    · obtain ⟨b1, o1, hA1, hb1, hcell1⟩ := frow_cells KF.out (by omega)
      obtain ⟨b3, o3, hA3, hb3, hcell3⟩ := urow_cells KU.out (by omega)
      have d1 := (hbr.cell (p := ⟨b1, o1 + j, none⟩) (by dsimp only; omega)).trans (hcell1 j hlt)
      have d3 := (hbr.cell (p := ⟨b3, o3 + j, none⟩) (by dsimp only; omega)).trans (hcell3 j hlt)
      have hb1r : b1 < wr.heap.size := by omega
      have hb3r : b3 < wr.heap.size := by omega
      have hN := F2.out j hlt
      have hzf := HSF.out j
      clear hcell1 hcell3 hbr
      subst hA1 hA3
      generalize S.getD j 0 = z at *
      have cO := fun w => one_any z w
      have cC := fun w => rclass_any z hzf w
      have hcl := class_num z
      rw [hN] at hcl
      generalize classS z = cz at *
      have hqo := hq.out
      by_cases hmj : m ≤ j
      · rw [decide_eq_true hmj] at hcl
        have hq2 : Hid (q = min (j + 1) m) := hide (by omega)
        clear hqo hq
        go_wp2_with (first | (go_at_call 25; refine (cO _).mono ?_; rintro e w1 ⟨rfl, rfl⟩) | (go_at_call 12; refine (cC _).mono ?_; rintro e w1 ⟨rfl, rfl⟩) | ((with_reducible change Code.wp _ (Code.region _ _ _) _ _ _); refine wp_region_quiet_below (by kernel_rfl) (by kernel_rfl) ?_; (repeat (first | go_big_quiet_step ((first | (go_at_call 25; exact Calls.regrown_of (below_of_same (cO _))) | (go_at_call 12; exact Calls.regrown_of (below_of_same (cC _))))) | quiet_step ((first | (go_at_call 25; exact Calls.regrown_of (below_of_same (cO _))) | (go_at_call 12; exact Calls.regrown_of (below_of_same (cC _))))))); refine wpQuiet_nil ?_; intro w1 hw1; have hb := below_of_regrown hw1; clear hw1; obtain ⟨hS, hE, hz, hc, hf⟩ := bcell hb; (try simp only [go_sem] at hE); subst hE))
        exact ⟨⟨j + 1, q, by omega, rfl, by go_num, hq2, HBR.out.trans (by repeat' (first | (with_reducible exact Below.refl _ _) | (with_reducible refine below_drewN ?_ _) | (with_reducible refine Below.drew ?_) | (with_reducible refine Below.alloc ?_ ?_ _) | (with_reducible refine Below.setCell ?_ ?_ _) | (with_reducible refine below_step ?_ (by assumption) ?_) | (with_reducible refine below_step ?_ (below_regrown _ _ _) ?_) | go_size))⟩, by simp [intOf]; omega⟩
      · rw [decide_eq_false hmj] at hcl
        have hq2 : Hid (q + 1 = min (j + 1) m) := hide (by omega)
        have hq3 : q ≤ 200 := by omega
        clear hqo hq
        go_wp2_with (first | (go_at_call 25; refine (cO _).mono ?_; rintro e w1 ⟨rfl, rfl⟩) | (go_at_call 12; refine (cC _).mono ?_; rintro e w1 ⟨rfl, rfl⟩) | ((with_reducible change Code.wp _ (Code.region _ _ _) _ _ _); refine wp_region_quiet_below (by kernel_rfl) (by kernel_rfl) ?_; (repeat (first | go_big_quiet_step ((first | (go_at_call 25; exact Calls.regrown_of (below_of_same (cO _))) | (go_at_call 12; exact Calls.regrown_of (below_of_same (cC _))))) | quiet_step ((first | (go_at_call 25; exact Calls.regrown_of (below_of_same (cO _))) | (go_at_call 12; exact Calls.regrown_of (below_of_same (cC _))))))); refine wpQuiet_nil ?_; intro w1 hw1; have hb := below_of_regrown hw1; clear hw1; obtain ⟨hS, hE, hz, hc, hf⟩ := bcell hb; (try simp only [go_sem] at hE); subst hE))
        exact ⟨⟨j + 1, q + 1, by omega, by go_num, by go_num, hq2, HBR.out.trans (by repeat' (first | (with_reducible exact Below.refl _ _) | (with_reducible refine below_drewN ?_ _) | (with_reducible refine Below.drew ?_) | (with_reducible refine Below.alloc ?_ ?_ _) | (with_reducible refine Below.setCell ?_ ?_ _) | (with_reducible refine below_step ?_ (by assumption) ?_) | (with_reducible refine below_step ?_ (below_regrown _ _ _) ?_) | go_size))⟩, by simp [intOf]; omega⟩
    · obtain rfl : q = m := by have := hq.out; omega
      clear hq hbr
      by_cases hm0 : q = 0
      · obtain ⟨rfl, rfl⟩ := F3.out hm0
        subst hm0
        have cO := fun w => one_any 0 w
        clear F2 F3 F4 HSF hmin
        go_wp2_with (first | (go_at_call 25; refine (cO _).mono ?_; rintro e w1 ⟨rfl, rfl⟩) | ((with_reducible change Code.wp _ (Code.region _ _ _) _ _ _); refine wp_region_quiet_below (by kernel_rfl) (by kernel_rfl) ?_; (repeat (first | go_big_quiet_step ((first | (go_at_call 25; exact Calls.regrown_of (below_of_same (cO _))))) | quiet_step ((first | (go_at_call 25; exact Calls.regrown_of (below_of_same (cO _))))))); refine wpQuiet_nil ?_; intro w1 hw1; have hb := below_of_regrown hw1; clear hw1; obtain ⟨hS, hE, hz, hc, hf⟩ := bcell hb; (try simp only [go_sem] at hE); subst hE))
        go_ret
        exact ⟨rfl, HBW.out.trans (HBR.out.mono z0)⟩
      · obtain ⟨g1, g2⟩ := F4.out hm0
        obtain ⟨b3, o3, hA3, hb3, hcell3⟩ := urow_cells KU.out (by omega)
        have d3 := (HBR.out.cell (p := ⟨b3, o3 + 0, none⟩) (by dsimp only; omega)).trans (hcell3 0 (by omega))
        have d4 := (HBR.out.cell (p := ⟨b3, o3 + (q - 1), none⟩) (by dsimp only; omega)).trans (hcell3 (q - 1) (by omega))
        rw [g1, Nat.add_zero] at d3
        rw [g2] at d4
        have hb3r : b3 < wr.heap.size := by omega
        have b0 : ((q : Int) == 0) = false := beq_eq_false_iff_ne.2 (by omega)
        obtain ⟨t, rfl⟩ : ∃ t, q = t + 1 := ⟨q - 1, by omega⟩
        rw [Nat.add_sub_cancel] at d4
        subst hA3
        have cO := fun w => one_any x w
        have cP := fun w => one_any y w
        clear F2 F3 F4 HSF hmin g1 g2 hcell3
        go_wp2_with (first | (go_at_call 25; (with_reducible refine (cO _).mono ?_); rintro e w1 ⟨rfl, rfl⟩) | (go_at_call 25; (with_reducible refine (cP _).mono ?_); rintro e w1 ⟨rfl, rfl⟩) | ((with_reducible change Code.wp _ (Code.region _ _ _) _ _ _); refine wp_region_quiet_below (by kernel_rfl) (by kernel_rfl) ?_; (repeat (first | go_big_quiet_step ((first | (go_at_call 25; (with_reducible refine Calls.regrown_of (below_of_same (cO _)));) | (go_at_call 25; (with_reducible refine Calls.regrown_of (below_of_same (cP _)));))) | quiet_step ((first | (go_at_call 25; (with_reducible refine Calls.regrown_of (below_of_same (cO _)));) | (go_at_call 25; (with_reducible refine Calls.regrown_of (below_of_same (cP _)));))))); refine wpQuiet_nil ?_; intro w1 hw1; have hb := below_of_regrown hw1; clear hw1; obtain ⟨hS, hE, hz, hc, hf⟩ := bcell hb; (try simp only [go_sem] at hE); subst hE))
        go_ret
        exact ⟨rfl, HBW.out.trans (HBR.out.mono z0)⟩
theorem float_lt {b : Nat} (h : (Lit.float .f64 b).wf = true) : b < 18446744073709551616 := by
  have := of_decide_eq_true h
  exact this
theorem srow_of_floats {w : World} {B n : Nat} {A : Option Addr} {l : List Nat} (h1 : l.length = n) (h2 : Row w B A n (fun j => .float .f64 (l.getD j 0))) : SRow encF 1 w B A n l := by
  refine ⟨h1, ?_⟩
  rw [Nat.mul_one]
  refine row_of h2 fun j hj => ?_
  have := sv_get (enc := encF) encF_len 0 l j 0 (by omega) (by decide)
  rw [Nat.mul_one, Nat.add_zero] at this
  rw [this]
  rfl
theorem law : LawL Tryd.checked Rows.realSortsRow.laid 6 Tryd.f6 := by
  intro H enc W base args ds ps hval hA _ hL
  have hA1 : DataW.TrodAll enc Tryd.prog W 0 (fun _ => true) true Tryd.f6.params.toList args.toList ds ps := hA
  rw [Tryd.params6] at hA1 hval
  obtain ⟨v0, vs0, d0, ds0, p0, q0, hargs, rfl, rfl, h0, r0⟩ := trodAll_cons hA1
  obtain ⟨rfl, rfl, rfl⟩ := trodAll_nil r0
  obtain rfl : args = #[v0] := by cases args; simp_all
  obtain ⟨A, len, cap, l, rfl, h1, h2, h3, h4, h5⟩ := arg_floats Tryd.underlying39 Tryd.underlying22 (by kernel_rfl) (hval 0 _ v0 rfl rfl) h0
  exact walk (srow_of_floats h3 h4) (Nat.le_refl _) h5 (tab_laid hL)

set_option maxRecDepth 100000 in
theorem met : Door.Met Rows.realSortsRow.laid := fun os args =>
  laidMetH_of_parts3 (fuel := 8) (laidMet_of_run' 8 (by kernel_rfl) (by kernel_rfl)) (by kernel_rfl) (by kernel_rfl)
set_option maxRecDepth 100000 in
theorem step (os : Os) (started : os.Started) (H : Type) (enc : TypeId × Value → H) :
    ReturnsInHanded {} Tryd.checked os 6 .any (fun w args => (Rows.realSortsSpec.pre enc Tryd.prog Tryd.f6 Rows.realSortsRow.domain false w args ∧ laidMetH Tryd.prog Rows.realSortsRow.laid w) ∧ sizedMet enc Tryd.prog Tryd.f6 (OpenSpec.ofChange Rows.realSortsSpec) false w args) (Rows.realSortsSpec.post enc Tryd.prog Tryd.f6 false true false false) :=
  Door.liftedL (C := Tryd.checked) (L := Rows.realSortsRow.laid) (s := Rows.realSortsSpec) own started (by kernel_rfl) Tryd.func6
    (ChangeSpec.witness_shaped (enc := enc) (C := Tryd.checked) (os := os) (X := fun w _ => laidMetH Tryd.prog Rows.realSortsRow.laid w) false (World.doorLaid Tryd.prog 400 os) #[.slice none 0 0] 8 rfl (World.shaped_of_RefB (by kernel_rfl) (by kernel_rfl)) (by kernel_rfl) (by kernel_rfl) (by kernel_rfl) (met os _))
    laidOut (by kernel_rfl) (by kernel_rfl) Tryd.underlying4 rfl (fun ds h => by match ds, h with | [d0], _ => rfl) law
set_option maxRecDepth 100000 in
theorem over : Rows.realSortsRow.holds Tryd.pinned (OpenSpec.ofChange Rows.realSortsSpec) :=
  OpenClaim.holds_of_wide 6 Tryd.f6 rfl rfl rfl rfl rfl rfl rfl ⟨rfl, rfl, rfl, rfl, rfl⟩ rfl rfl rfl rfl rfl (by kernel_rfl) Tryd.func6 (by kernel_rfl)
    (of_decide_eq_true (by kernel_rfl)) (by unfold Func.isWrapper; first | (rw [if_pos (by decide +kernel)]; kernel_rfl) | (rw [if_neg (by decide +kernel)]; exact ⟨rfl, rfl⟩))
    (fun os started H enc _ => step os started H enc)
theorem proved : Rows.RealSortsCardSaid :=
  Claim7.holds_tied_plain_at .later [] Rows.realSortsCard.laidKinds true Rows.realSortsCard.stood.harness Rows.realSortsCard.stood.looks
    over (fun _ h => by cases h) (by kernel_rfl) (fun _ h => by cases h) realSorts_row_tie rfl ⟨rfl, rfl⟩ (by kernel_rfl) rfl
    (fun f fn hf hfn => by
      obtain rfl : f = 6 := Option.some.inj ((show Tryd.prog.funcNamed Rows.realSortsRow.func = some 6 by kernel_rfl).symm.trans hf) |>.symm
      obtain rfl : fn = Tryd.f6 := (Option.some.inj (Tryd.func6.symm.trans hfn)).symm
      exact ⟨by kernel_rfl, fun j t ht => by
        have hall : (Tryd.f6.params.toList.all fun u => !Tryd.prog.wantsStandIn u) = true := by kernel_rfl
        exact (show Tryd.prog.wantsStandIn t = false by simpa using List.all_eq_true.1 hall t (Array.mem_toList_iff.2 (Array.mem_of_getElem? ht)))⟩)
    (by kernel_rfl)
#print axioms proved

end Go.Proofs.YtddifbgdjdahfaaDoor.RealSorts
