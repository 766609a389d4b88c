/- GaugeBars: each number from 0 to 1 of any floats is counted in one bar, and in the one where it ought to be. Condition: none beyond the row's own. -/
import Derived.Test.YtkkapajpgfjomaaGw
namespace Go.Proofs.Ytkkapajpgfjomaa.GaugeBars
open Go.ChangeShapes Go.WideShapes Go.ChangeAt Go.RowKit Go.Joins Go.Proofs.Ytkkapajpgfjomaa.Kit Go.Proofs.Ytkkapajpgfjomaa.Flt Go.Proofs.Ytkkapajpgfjomaa.Real Go.Proofs.Ytkkapajpgfjomaa.Mem Go.Proofs.Ytkkapajpgfjomaa.Gauge Go.Deep
set_option linter.unusedVariables false
set_option linter.unusedSimpArgs false
/-- How many are numbers from 0 to 1. -/
def cntB (l : List Nat) : Nat := (l.filter inB).length
theorem cnt_take (l : List Nat) (k : Nat) (h : k < l.length) : cntB (l.take (k + 1)) = cntB (l.take k) + if inB (l.getD k 0) = true then 1 else 0 := by
  unfold cntB
  rw [List.take_add_one, List.filter_append, List.length_append, List.getElem?_eq_getElem h, List.getD_eq_getElem?_getD, List.getElem?_eq_getElem h]
  cases hn : inB l[k]
  · simp [hn]
  · simp [hn]
theorem sum_set : ∀ (cs : List Int) (i : Nat), i < cs.length → (cs.set i (cs.getD i 0 + 1)).sum = cs.sum + 1
  | [], i, h => absurd h (Nat.not_lt_zero _)
  | x :: r, 0, h => by
    show ((x + 1) :: r).sum = (x :: r).sum + 1
    rw [List.sum_cons, List.sum_cons]
    omega
  | x :: r, i + 1, h => by
    have ih := sum_set r i (Nat.lt_of_succ_lt_succ h)
    show (x :: r.set i (r.getD i 0 + 1)).sum = (x :: r).sum + 1
    rw [List.sum_cons, List.sum_cons, ih]
    omega
theorem sum_rep : ∀ n : Nat, (List.replicate n (0 : Int)).sum = 0
  | 0 => rfl
  | n + 1 => by rw [List.replicate_succ, List.sum_cons, sum_rep n]; rfl
theorem bars_all (l : List Nat) {n : Nat} (hn : 1 ≤ n) : ∀ k, k ≤ l.length → BarOk n k (barsV (l.take k) n) ∧ (barsV (l.take k) n).sum = (cntB (l.take k) : Int)
  | 0, _ => ⟨⟨by simp [barsV], fun j => by rw [show barsV (l.take 0) n = List.replicate n 0 from rfl, rep_get]; omega⟩, sum_rep n⟩
  | k + 1, h => by
    obtain ⟨h1, h2⟩ := bars_all l hn k (by omega)
    rw [bars_take l n k (by omega), cnt_take l k (by omega)]
    refine ⟨step_ok h1 hn _, ?_⟩
    unfold stepB
    cases hin : inB (l.getD k 0)
    · rw [if_neg (by decide), if_neg (by decide), h2]
      rfl
    · rw [if_pos rfl, if_pos rfl, sum_set _ _ (by rw [h1.1]; exact bar_lt _ hn), h2]
      omega
theorem sum_next (cs : List Int) (j : Nat) (h : j < cs.length) : (cs.take (j + 1)).sum = (cs.take j).sum + cs.getD j 0 := by
  rw [List.take_add_one, List.sum_append, List.getElem?_eq_getElem h, List.getD_eq_getElem?_getD, List.getElem?_eq_getElem h]
  simp
set_option maxHeartbeats 4000000 in
theorem walk_out {w : World} {B n c : Nat} {A : Option Addr} {l : List Nat} (hr : SRow encF 1 w B A n l) (h5 : ¬ 300 < n) (m : Int) (h : (decide (m < 1) = true) ∨ (decide (m < 1) = false ∧ decide (1000 < m) = true)) : Calls Try.prog 6 #[.slice A n c, .int .i64 m] w fun e w' => e = .returned (.bool true) ∧ Below w.heap.size w w' := by
  have hL := fun w => lives_any w
  have b1 := fun w => bars_out (.slice A n c) m h w
  have b2 := fun w => rbars_out (.slice A n c) m h w
  have sm := fun (w : World) => same_ints (w := w) (B1 := 0) (B2 := 0) (c1 := 0) (c2 := 0) (A1 := none) (A2 := none) (cs := []) ⟨rfl, row_zero⟩ ⟨rfl, row_zero⟩ (Nat.zero_le _) (Nat.zero_le _) (Nat.zero_le _)
  rcases h with h | ⟨h, h2⟩
  all_goals
    go_enter Try.func6, Try.ntmps6
    go_wp2_with (first | (go_at_call 8; refine (hL _).mono ?_; rintro e w1 ⟨rfl, hb⟩; obtain ⟨hS, hE, hz, hc, hf⟩ := bcell hb; (try simp only [go_sem] at hE); subst hE) | (go_at_call 22; refine (b1 _).mono ?_; rintro e w1 ⟨rfl, hb⟩; obtain ⟨hS, hE, hz, hc, hf⟩ := bcell hb; (try simp only [go_sem] at hE); subst hE) | (go_at_call 24; refine (b2 _).mono ?_; rintro e w1 ⟨rfl, hb⟩; obtain ⟨hS, hE, hz, hc, hf⟩ := bcell hb; (try simp only [go_sem] at hE); subst hE) | (go_at_call 23; refine (sm _).mono ?_; rintro e w1 ⟨rfl, hb⟩; obtain ⟨hS, hE, hz, hc, hf⟩ := bcell hb; (try simp only [go_sem] at hE); subst hE) | ((with_reducible change Code.wp _ (Code.region _ _ _) _ _ _); refine wp_region_quiet_below (by kernel_rfl) (by kernel_rfl) ?_; (repeat (first | go_big_quiet_step ((first | (go_at_call 8; exact Calls.regrown_of (hL _)) | (go_at_call 22; exact Calls.regrown_of (b1 _)) | (go_at_call 24; exact Calls.regrown_of (b2 _)) | (go_at_call 23; exact Calls.regrown_of (sm _)))) | quiet_step ((first | (go_at_call 8; exact Calls.regrown_of (hL _)) | (go_at_call 22; exact Calls.regrown_of (b1 _)) | (go_at_call 24; exact Calls.regrown_of (b2 _)) | (go_at_call 23; exact Calls.regrown_of (sm _)))))); refine wpQuiet_nil ?_; intro w1 hw1; have hb := below_of_regrown hw1; clear hw1; obtain ⟨hS, hE, hz, hc, hf⟩ := bcell hb; (try simp only [go_sem] at hE); subst hE))
    go_ret
    exact ⟨rfl, (by repeat' (first | (with_reducible exact Below.refl _ _) | (with_reducible refine below_drewN ?_ _) | (with_reducible refine Below.drew ?_) | (with_reducible refine Below.alloc ?_ ?_ _) | (with_reducible refine Below.setCell ?_ ?_ _) | (with_reducible refine below_step ?_ (by assumption) ?_) | (with_reducible refine below_step ?_ (below_regrown _ _ _) ?_) | go_size))⟩
set_option maxHeartbeats 4000000 in
theorem walk_in {w : World} {B n c m : Nat} {A : Option Addr} {l : List Nat} (hr : SRow encF 1 w B A n l) (hB : B ≤ w.heap.size) (hfit : ∀ z ∈ l, z < 18446744073709551616) (h5 : ¬ 300 < l.length) (m1 : 1 ≤ m) (m2 : m ≤ 1000) : Calls Try.prog 6 #[.slice A n c, .int .i64 m] w fun e w' => e = .returned (.bool true) ∧ Below w.heap.size w w' := by
  have e1 := hr.1
  subst e1
  have HR := hide hr
  have hL := fun w => lives_any w
  have b1 := fun (w : World) h hB => bars_in (w := w) (B := B) (n := l.length) (c := c) (A := A) (l := l) h hB (by omega) (fit_get hfit) m1 m2
  have b2 := fun (w : World) h hB => rbars_in (w := w) (B := B) (n := l.length) (c := c) (A := A) (l := l) h hB (by omega) (fit_get hfit) m1 m2
  obtain ⟨g1, g2⟩ := bars_all l m1 l.length (Nat.le_refl _)
  rw [List.take_length] at g1 g2
  have G2 := hide g2
  have G1 := hide g1
  have n1 : decide ((m : Int) < 1) = false := decide_eq_false (by omega)
  have n2 : decide (1000 < (m : Int)) = false := decide_eq_false (by omega)
  clear hr hfit g1 g2
  generalize barsV l m = cs at *
  go_enter Try.func6, Try.ntmps6
  go_wp2_with (first | (go_at_call 8; refine (hL _).mono ?_; rintro e w1 ⟨rfl, hb⟩; obtain ⟨hS, hE, hz, hc, hf⟩ := bcell hb; (try simp only [go_sem] at hE); subst hE) | (go_at_call 22; refine (b1 _ (srow_below HR.out (B1 := w.heap.size) (by repeat' (first | (with_reducible exact Below.refl _ _) | (with_reducible refine below_drewN ?_ _) | (with_reducible refine Below.drew ?_) | (with_reducible refine Below.alloc ?_ ?_ _) | (with_reducible refine Below.setCell ?_ ?_ _) | (with_reducible refine below_step ?_ (by assumption) ?_) | (with_reducible refine below_step ?_ (below_regrown _ _ _) ?_) | go_size)) hB) (by omega)).mono ?_; rintro e w3 ⟨g3, rfl, k3, hb3⟩; have K3 := hide k3; clear k3; obtain ⟨hS3, hE3, hz3, hc3, hf3⟩ := bcell hb3; (try simp only [go_sem] at hE3); subst hE3) | (go_at_call 24; refine (b2 _ (srow_below HR.out (B1 := w.heap.size) (by repeat' (first | (with_reducible exact Below.refl _ _) | (with_reducible refine below_drewN ?_ _) | (with_reducible refine Below.drew ?_) | (with_reducible refine Below.alloc ?_ ?_ _) | (with_reducible refine Below.setCell ?_ ?_ _) | (with_reducible refine below_step ?_ (by assumption) ?_) | (with_reducible refine below_step ?_ (below_regrown _ _ _) ?_) | go_size)) hB) (by omega)).mono ?_; rintro e w4 ⟨g4, rfl, k4, hb4⟩; have K4 := hide k4; clear k4; obtain ⟨hS4, hE4, hz4, hc4, hf4⟩ := bcell hb4; (try simp only [go_sem] at hE4); subst hE4) | (go_at_call 23; refine (same_ints (ints_below K3.out (B1 := w3.heap.size) (by repeat' (first | (with_reducible exact Below.refl _ _) | (with_reducible refine below_drewN ?_ _) | (with_reducible refine Below.drew ?_) | (with_reducible refine Below.alloc ?_ ?_ _) | (with_reducible refine Below.setCell ?_ ?_ _) | (with_reducible refine below_step ?_ (by assumption) ?_) | (with_reducible refine below_step ?_ (below_regrown _ _ _) ?_) | go_size)) (Nat.le_refl _)) K4.out (by omega) (Nat.le_refl _) (by omega)).mono ?_; rintro e w5 ⟨rfl, hb5⟩; obtain ⟨hS5, hE5, hz5, hc5, hf5⟩ := bcell hb5; (try simp only [go_sem] at hE5); subst hE5))
  have HBW := hide (show Below w.heap.size w w5 from (by repeat' (first | (with_reducible exact Below.refl _ _) | (with_reducible refine below_drewN ?_ _) | (with_reducible refine Below.drew ?_) | (with_reducible refine Below.alloc ?_ ?_ _) | (with_reducible refine Below.setCell ?_ ?_ _) | (with_reducible refine below_step ?_ (by assumption) ?_) | (with_reducible refine below_step ?_ (below_regrown _ _ _) ?_) | go_size)))
  have K5 := hide (ints_below K3.out (show Below w3.heap.size w3 w5 from (by repeat' (first | (with_reducible exact Below.refl _ _) | (with_reducible refine below_drewN ?_ _) | (with_reducible refine Below.drew ?_) | (with_reducible refine Below.alloc ?_ ?_ _) | (with_reducible refine Below.setCell ?_ ?_ _) | (with_reducible refine below_step ?_ (by assumption) ?_) | (with_reducible refine below_step ?_ (below_regrown _ _ _) ?_) | go_size))) (Nat.le_refl _))
  have HR5 := hide (srow_below HR.out HBW.out hB)
  have hz9 : w.heap.size ≤ w5.heap.size := by omega
  have hz10 : w3.heap.size ≤ w5.heap.size := by omega
  clear b1 b2 hL K3 K4 HR hb3 hb4 hb5 hc3 hc4 hc5 hf3 hf4 hf5
  go_loopw [6, 8] (fun a i wr => ∃ k q : Nat, k ≤ l.length ∧ q ≤ k ∧ a = .int .i64 q ∧ i = .int .i64 k ∧ Hid (cntB (l.take k) = q) ∧ wr = w5) (fun _ i _ => l.length - (intOf i).toNat)
  case atStart => exact ⟨0, 0, Nat.zero_le _, Nat.le_refl _, rfl, rfl, hide rfl, rfl⟩
  case round =>
    obtain ⟨k, q, hk, hq, rfl, rfl, HQ, rfl⟩ := hrel
    by_cases hlt : k < l.length
    · obtain ⟨b, off, rfl, hbB, hcell⟩ := frow_cells HR5.out (by omega)
      have d0 := hcell k hlt
      have HT := hide (cnt_take l k hlt)
      have HIN : Hid (inB (l.getD k 0) = (fleB 0 (l.getD k 0) && fleB (l.getD k 0) 4607182418800017408)) := hide rfl
      clear hcell
      generalize l.getD k 0 = f at *
      cases hf0 : fleB 0 f
      · have HT2 : Hid (cntB (l.take (k + 1)) = q) := hide (by rw [HT.out, HIN.out, hf0, HQ.out]; rfl)
        go_wp2_with (first | ((with_reducible change Code.wp _ (Code.region _ _ _) _ _ _); refine wp_region_quiet_below (by kernel_rfl) (by kernel_rfl) ?_; (repeat (first | go_big_quiet_step (fail) | quiet_step (fail))); refine wpQuiet_nil ?_; intro w1 hw1; have hb := below_of_regrown hw1; clear hw1; obtain ⟨hS, hE, hz, hc, hf⟩ := bcell hb; (try simp only [go_sem] at hE); subst hE))
        exact ⟨⟨k + 1, q, by omega, by omega, rfl, by go_num, HT2, trivial⟩, by simp [intOf]; omega⟩
      · cases hf1 : fleB f 4607182418800017408
        · have HT2 : Hid (cntB (l.take (k + 1)) = q) := hide (by rw [HT.out, HIN.out, hf0, hf1, HQ.out]; rfl)
          go_wp2_with (first | ((with_reducible change Code.wp _ (Code.region _ _ _) _ _ _); refine wp_region_quiet_below (by kernel_rfl) (by kernel_rfl) ?_; (repeat (first | go_big_quiet_step (fail) | quiet_step (fail))); refine wpQuiet_nil ?_; intro w1 hw1; have hb := below_of_regrown hw1; clear hw1; obtain ⟨hS, hE, hz, hc, hf⟩ := bcell hb; (try simp only [go_sem] at hE); subst hE))
          exact ⟨⟨k + 1, q, by omega, by omega, rfl, by go_num, HT2, trivial⟩, by simp [intOf]; omega⟩
        · have HT2 : Hid (cntB (l.take (k + 1)) = q + 1) := hide (by rw [HT.out, HIN.out, hf0, hf1, HQ.out]; rfl)
          go_wp2_with (first | ((with_reducible change Code.wp _ (Code.region _ _ _) _ _ _); refine wp_region_quiet_below (by kernel_rfl) (by kernel_rfl) ?_; (repeat (first | go_big_quiet_step (fail) | quiet_step (fail))); refine wpQuiet_nil ?_; intro w1 hw1; have hb := below_of_regrown hw1; clear hw1; obtain ⟨hS, hE, hz, hc, hf⟩ := bcell hb; (try simp only [go_sem] at hE); subst hE))
          exact ⟨⟨k + 1, q + 1, by omega, by omega, by go_num, by go_num, HT2, trivial⟩, by simp [intOf]; omega⟩
    · obtain rfl : k = l.length := by omega
      rw [List.take_length] at HQ
      have hsum : Hid (cs.sum = (q : Int)) := hide (by rw [G2.out, HQ.out])
      have hcl : cs.length = m := G1.out.1
      go_wp2
      go_loopw [7, 9] (fun a i wx => ∃ (j : Nat) (s : Int), j ≤ m ∧ a = .int .i64 s ∧ i = .int .i64 j ∧ 0 ≤ s ∧ s ≤ 300 * (j : Int) ∧ Hid ((cs.take j).sum = s) ∧ wx = wr) (fun _ i _ => m - (intOf i).toNat)
      case atStart => exact ⟨0, 0, Nat.zero_le _, rfl, rfl, by omega, by omega, hide rfl, rfl⟩
      case round =>
        obtain ⟨j, s, hj, rfl, rfl, hs0, hs1, HS, rfl⟩ := hrel
        by_cases hjm : j < m
        · obtain ⟨b2, off2, hA2, hb2, hcell2⟩ := K5.out.2 (by omega)
          have d1 : wr.cell? ⟨b2, off2 + j, none⟩ = some (.int .i64 (cs.getD j 0)) := hcell2 j hjm
          have HN := hide (sum_next cs j (by omega))
          have hbd := G1.out.2 j
          obtain ⟨rfl, rfl⟩ : g3 = b2 ∧ 0 = off2 := by simpa using hA2
          rw [Nat.zero_add] at d1
          clear hcell2 hA2
          generalize cs.getD j 0 = x at *
          have HS2 : Hid ((cs.take (j + 1)).sum = s + x) := hide (by rw [HN.out, HS.out])
          have hx300 : x ≤ 300 := by omega
          have hx0 : 0 ≤ x := hbd.1
          have hs3 : s + x ≤ 300000 := by omega
          have hw9 : wrap64 (s + x) = s + x := IntWalk.wrap64_in _ ⟨by omega, by omega⟩
          have hw8 : IntKind.i64.wrap (s + x) = s + x := IntWalk.i64_in _ (by omega)
          clear hbd
          clear HN
          go_wp2_with (first | ((with_reducible change Code.wp _ (Code.region _ _ _) _ _ _); refine wp_region_quiet_below (by kernel_rfl) (by kernel_rfl) ?_; (repeat (first | go_big_quiet_step (fail) | quiet_step (fail))); refine wpQuiet_nil ?_; intro w1 hw1; have hb := below_of_regrown hw1; clear hw1; obtain ⟨hS, hE, hz, hc, hf⟩ := bcell hb; (try simp only [go_sem] at hE); subst hE))
          exact ⟨⟨j + 1, s + x, by omega, by go_num, by go_num, by omega, by omega, HS2, trivial⟩, by simp [intOf]; omega⟩
        · obtain rfl : j = m := by omega
          rw [← hcl, List.take_length] at HS
          obtain rfl : s = (q : Int) := HS.out.symm.trans hsum.out
          clear HS hsum hcl hs0 hs1
          go_wp2_with (first | ((with_reducible change Code.wp _ (Code.region _ _ _) _ _ _); refine wp_region_quiet_below (by kernel_rfl) (by kernel_rfl) ?_; (repeat (first | go_big_quiet_step (fail) | quiet_step (fail))); refine wpQuiet_nil ?_; intro w1 hw1; have hb := below_of_regrown hw1; clear hw1; obtain ⟨hS, hE, hz, hc, hf⟩ := bcell hb; (try simp only [go_sem] at hE); subst hE))
          go_ret
          exact ⟨by simp, HBW.out⟩
theorem walk_far {w : World} {n c : Nat} {A : Option Addr} (h5 : 300 < n) (m : Int) : Calls Try.prog 6 #[.slice A n c, .int .i64 m] w fun e w' => e = .returned (.bool true) ∧ Below w.heap.size w w' := by
  have hL := fun w => lives_any w
  go_enter Try.func6, Try.ntmps6
  go_wp2_with (first | (go_at_call 8; refine (hL _).mono ?_; rintro e w1 ⟨rfl, hb⟩; obtain ⟨hS, hE, hz, hc, hf⟩ := bcell hb; (try simp only [go_sem] at hE); subst hE) | ((with_reducible change Code.wp _ (Code.region _ _ _) _ _ _); refine wp_region_quiet_below (by kernel_rfl) (by kernel_rfl) ?_; (repeat (first | go_big_quiet_step ((first | (go_at_call 8; exact Calls.regrown_of (hL _)))) | quiet_step ((first | (go_at_call 8; exact Calls.regrown_of (hL _)))))); refine wpQuiet_nil ?_; intro w1 hw1; have hb := below_of_regrown hw1; clear hw1; obtain ⟨hS, hE, hz, hc, hf⟩ := bcell hb; (try simp only [go_sem] at hE); subst hE))
  go_ret
  exact ⟨rfl, (by repeat' (first | (with_reducible exact Below.refl _ _) | (with_reducible refine below_drewN ?_ _) | (with_reducible refine Below.drew ?_) | (with_reducible refine Below.alloc ?_ ?_ _) | (with_reducible refine Below.setCell ?_ ?_ _) | (with_reducible refine below_step ?_ (by assumption) ?_) | (with_reducible refine below_step ?_ (below_regrown _ _ _) ?_) | go_size))⟩
theorem law : Law Try.checked 6 Try.f6 := by
  intro H enc W base args ds ps hval hA _
  have hA1 : DataW.TrodAll enc Try.prog W 0 (fun _ => true) true Try.f6.params.toList args.toList ds ps := hA
  rw [Try.params6] at hA1 hval
  obtain ⟨v0, vs0, d0, ds0, p0, q0, hargs, rfl, rfl, h0, r0⟩ := trodAll_cons hA1
  obtain ⟨v1, vs1, d1, ds1, p1, q1, rfl, rfl, rfl, h1, r1⟩ := trodAll_cons r0
  obtain ⟨rfl, rfl, rfl⟩ := trodAll_nil r1
  obtain rfl : args = #[v0, v1] := by cases args; simp_all
  obtain ⟨A, len, cap, l, rfl, k1, k2, k3, k4, k5⟩ := arg_floats Try.underlying29 Try.underlying32 (by kernel_rfl) (hval 0 _ v0 rfl rfl) h0
  obtain ⟨m, rfl, rfl, rfl, hm⟩ := open_int Try.underlying3 (hval 1 _ v1 rfl rfl) h1
  by_cases h5 : 300 < len
  · exact walk_far h5 m
  by_cases hm1 : m < 1
  · exact walk_out (srow_of_floats k3 k4) h5 m (.inl (decide_eq_true hm1))
  by_cases hm2 : 1000 < m
  · exact walk_out (srow_of_floats k3 k4) h5 m (.inr ⟨decide_eq_false hm1, decide_eq_true hm2⟩)
  obtain ⟨mm, rfl⟩ := Int.eq_ofNat_of_zero_le (show 0 ≤ m by omega)
  exact walk_in (srow_of_floats k3 k4) (Nat.le_refl _) k5 (by omega) (by omega) (by omega)

set_option maxRecDepth 100000 in
theorem step (os : Os) (started : os.Started) (H : Type) (enc : TypeId × Value → H) :
    ReturnsInHanded {} Try.checked os 6 .any (Rows.gaugeBarsSpec.pre6 enc Try.prog Try.f6 Rows.gaugeBarsRow.domain false) (Rows.gaugeBarsSpec.post enc Try.prog Try.f6 false true false false) :=
  lifted (C := Try.checked) (s := Rows.gaugeBarsSpec) own started (by kernel_rfl) Try.func6
    (ChangeSpec.witness6 (enc := enc) (C := Try.checked) false ⟨#[], #[.slice none 0 0, .int .i64 0], []⟩ 8 (by kernel_rfl) (by kernel_rfl) (by kernel_rfl) (by kernel_rfl))
    laidOut (by kernel_rfl) (by kernel_rfl) Try.underlying4 rfl (fun ds h => by match ds, h with | [d0, d1], _ => rfl) law
set_option maxRecDepth 100000 in
theorem over : Rows.gaugeBarsRow.holds Try.pinned (OpenSpec.ofChange Rows.gaugeBarsSpec) :=
  OpenClaim.holds_of_wide 6 Try.f6 rfl rfl rfl rfl rfl rfl rfl ⟨rfl, rfl, rfl, rfl, rfl⟩ rfl rfl rfl rfl rfl (by kernel_rfl) Try.func6 (by kernel_rfl)
    (of_decide_eq_true (by kernel_rfl)) (by unfold Func.isWrapper; first | (rw [if_pos (by decide +kernel)]; kernel_rfl) | (rw [if_neg (by decide +kernel)]; exact ⟨rfl, rfl⟩))
    (fun os started H enc _ => step os started H enc)
theorem proved : Rows.GaugeBarsSaid := over
#print axioms proved

end Go.Proofs.Ytkkapajpgfjomaa.GaugeBars
