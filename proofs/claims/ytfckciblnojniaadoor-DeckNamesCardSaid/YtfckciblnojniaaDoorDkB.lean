/- Boxes of a deck: whether they may be, their sizes, what plates hold. No condition. -/
import Derived.Test.YtfckciblnojniaaDoorDkA
namespace Go.Proofs.YtfckciblnojniaaDoor.Dk
open Go.ChangeShapes Go.WideShapes Go.ChangeAt Go.RowKit Go.Proofs.YtfckciblnojniaaDoor.Kit Go.Proofs.YtfckciblnojniaaDoor.Flt Go.Proofs.YtfckciblnojniaaDoor.Mem Go.Proofs.YtfckciblnojniaaDoor.Rail Go.Deep
set_option linter.unusedVariables false
set_option linter.unusedSimpArgs false
/-- May a box be? -/
def mayB (r c : Int) : Bool := decide (1 ≤ r) && decide (r ≤ 32) && decide (1 ≤ c) && decide (c ≤ 48)
theorem may_iff {r c : Int} : mayB r c = true ↔ 1 ≤ r ∧ r ≤ 32 ∧ 1 ≤ c ∧ c ≤ 48 := by
  unfold mayB
  simp only [Bool.and_eq_true, decide_eq_true_eq]
  constructor
  · rintro ⟨⟨⟨h1, h2⟩, h3⟩, h4⟩; exact ⟨h1, h2, h3, h4⟩
  · rintro ⟨h1, h2, h3, h4⟩; exact ⟨⟨⟨h1, h2⟩, h3⟩, h4⟩
theorem may_cases (r c : Int) : (decide (1 ≤ r) = false ∧ mayB r c = false) ∨ (decide (1 ≤ r) = true ∧ decide (r ≤ 32) = false ∧ mayB r c = false) ∨ (decide (1 ≤ r) = true ∧ decide (r ≤ 32) = true ∧ decide (1 ≤ c) = false ∧ mayB r c = false) ∨
    (decide (1 ≤ r) = true ∧ decide (r ≤ 32) = true ∧ decide (1 ≤ c) = true ∧ decide (c ≤ 48) = false ∧ mayB r c = false) ∨ (decide (1 ≤ r) = true ∧ decide (r ≤ 32) = true ∧ decide (1 ≤ c) = true ∧ decide (c ≤ 48) = true ∧ mayB r c = true) := by
  unfold mayB
  cases decide (1 ≤ r) <;> cases decide (r ≤ 32) <;> cases decide (1 ≤ c) <;> cases decide (c ≤ 48) <;> simp
theorem may_any (r c : Int) (w : World) : Calls Tryd.prog 30 #[.agg #[.int .i64 r, .int .i64 c]] w fun e w' => e = .returned (.bool (mayB r c)) ∧ Below w.heap.size w w' := by
  rcases may_cases r c with ⟨h1, h⟩ | ⟨h1, h2, h⟩ | ⟨h1, h2, h3, h⟩ | ⟨h1, h2, h3, h4, h⟩ | ⟨h1, h2, h3, h4, h⟩
  all_goals
    rw [h]
    clear h
    go_enter Tryd.func30, Tryd.ntmps30
    go_wp2
    go_ret
    exact ⟨rfl, (by repeat' (first | (with_reducible exact Below.refl _ _) | (with_reducible refine below_drewN ?_ _) | (with_reducible refine Below.drew ?_) | (with_reducible refine Below.alloc ?_ ?_ _) | (with_reducible refine Below.setCell ?_ ?_ _) | (with_reducible refine below_step ?_ (by assumption) ?_) | (with_reducible refine below_step ?_ (below_regrown _ _ _) ?_) | go_size))⟩
theorem rbox_any (r c : Int) (w : World) : Calls Tryd.prog 34 #[.int .i64 r, .int .i64 c] w fun e w' => e = .returned (.bool (mayB r c)) ∧ Below w.heap.size w w' := by
  rcases may_cases r c with ⟨h1, h⟩ | ⟨h1, h2, h⟩ | ⟨h1, h2, h3, h⟩ | ⟨h1, h2, h3, h4, h⟩ | ⟨h1, h2, h3, h4, h⟩
  all_goals
    rw [h]
    clear h
    go_enter Tryd.func34, Tryd.ntmps34
    go_wp2
    go_ret
    exact ⟨rfl, (by repeat' (first | (with_reducible exact Below.refl _ _) | (with_reducible refine below_drewN ?_ _) | (with_reducible refine Below.drew ?_) | (with_reducible refine Below.alloc ?_ ?_ _) | (with_reducible refine Below.setCell ?_ ?_ _) | (with_reducible refine below_step ?_ (by assumption) ?_) | (with_reducible refine below_step ?_ (below_regrown _ _ _) ?_) | go_size))⟩
theorem size_any (a b n : Nat) (h : a * b = n) (hn : n ≤ 1000000) (w : World) : Calls Tryd.prog 45 #[.agg #[.int .i64 a, .int .i64 b]] w fun e w' => e = .returned (.int .i64 n) ∧ Below w.heap.size w w' := by
  have hw : IntKind.i64.wrap ((a : Int) * (b : Int)) = (n : Int) := by
    have e : (a : Int) * (b : Int) = (n : Int) := by rw [← h, Int.natCast_mul]
    rw [e]
    exact IntWalk.i64_in _ (by omega)
  have hw2 : wrap64 ((a : Int) * (b : Int)) = (n : Int) := by
    have e : (a : Int) * (b : Int) = (n : Int) := by rw [← h, Int.natCast_mul]
    rw [e]
    exact IntWalk.wrap64_in _ ⟨by omega, by omega⟩
  clear h
  go_enter Tryd.func45, Tryd.ntmps45
  go_wp2
  go_ret
  exact ⟨rfl, (by repeat' (first | (with_reducible exact Below.refl _ _) | (with_reducible refine below_drewN ?_ _) | (with_reducible refine Below.drew ?_) | (with_reducible refine Below.alloc ?_ ?_ _) | (with_reducible refine Below.setCell ?_ ?_ _) | (with_reducible refine below_step ?_ (by assumption) ?_) | (with_reducible refine below_step ?_ (below_regrown _ _ _) ?_) | go_size))⟩
/-- How many places boxes have. -/
def sumN (l : List Bx) : Nat := (l.map fun b => b.1.toNat * b.2.toNat).sum
theorem sum_next (l : List Bx) (k : Nat) (h : k < l.length) : sumN (l.take (k + 1)) = sumN (l.take k) + (l.getD k default).1.toNat * (l.getD k default).2.toNat := by
  unfold sumN
  rw [List.take_add_one, List.map_append, List.sum_append, List.getElem?_eq_getElem h, List.getD_eq_getElem?_getD, List.getElem?_eq_getElem h]
  simp
def AllMay (l : List Bx) : Prop := ∀ k, k < l.length → mayB (l.getD k default).1 (l.getD k default).2 = true
set_option maxHeartbeats 2000000 in
theorem sum_any {w : World} {B0 n c : Nat} {A : Option Addr} {l : List Bx} (hr : SRow encB 2 w B0 A n l) (hB : B0 ≤ w.heap.size) (hn : n ≤ 8) (hm : AllMay l) : Calls Tryd.prog 25 #[.slice A n c] w fun e w' => e = .returned (.int .i64 (sumN l : Nat)) ∧ Below w.heap.size w w' := by
  have e1 := hr.1
  subst e1
  have HR := hide hr
  have HM := hide hm
  clear hr hm
  go_enter Tryd.func25, Tryd.ntmps25
  go_wp2
  go_loopw [3, 8] (fun s i wr => ∃ k q : Nat, k ≤ l.length ∧ s = .int .i64 q ∧ i = .int .i64 k ∧ Hid (sumN (l.take k) = q) ∧ q ≤ 1536 * k ∧ Below w.heap.size w wr) (fun _ i _ => l.length - (intOf i).toNat)
  case atStart => exact ⟨0, 0, Nat.zero_le _, rfl, rfl, hide rfl, by omega, Below.refl _ _⟩
  case round =>
    obtain ⟨k, q, hk, rfl, rfl, HQ, hq, hbw⟩ := hrel
    have hz0 := hbw.size
    have HBW := hide hbw
    by_cases hlt : k < l.length
    · obtain ⟨b, off, rfl, hbB, hcell⟩ := box_cells HR.out (by omega) default
      obtain ⟨p0, p1⟩ := hcell k hlt
      have d0 := (hbw.cell (p := ⟨b, off + k * 2, none⟩) (by dsimp only; omega)).trans p0
      have d1 := (hbw.cell (p := ⟨b, off + k * 2 + 1, none⟩) (by dsimp only; omega)).trans p1
      have HT := hide (sum_next l k hlt)
      have hm := may_iff.1 (HM.out k hlt)
      have hbr : b < wr.heap.size := by omega
      clear hcell p0 p1 hbw
      generalize l.getD k default = bx at *
      obtain ⟨r, c⟩ := bx
      dsimp only at d0 d1 HT hm
      obtain ⟨m1, m2, m3, m4⟩ := hm
      obtain ⟨a, rfl⟩ := Int.eq_ofNat_of_zero_le (show 0 ≤ r by omega)
      obtain ⟨b9, rfl⟩ := Int.eq_ofNat_of_zero_le (show 0 ≤ c by omega)
      rw [Int.toNat_natCast, Int.toNat_natCast] at HT
      have hab : a * b9 ≤ 32 * 48 := Nat.mul_le_mul (by omega) (by omega)
      have cS := fun w => size_any a b9 (a * b9) rfl (by omega) w
      have HT2 := hide (HT.out.trans (congrArg (· + a * b9) HQ.out))
      clear HT HQ
      generalize a * b9 = s at *
      go_wp2_with (first | (go_at_call 45; refine (cS _).mono ?_; rintro e w1 ⟨rfl, hb⟩; obtain ⟨hS, hE, hz, hc, hf⟩ := bcell hb; (try simp only [go_sem] at hE); subst hE) | ((with_reducible change Code.wp _ (Code.region _ _ _) _ _ _); refine wp_region_quiet_below (by kernel_rfl) (by kernel_rfl) ?_; (repeat (first | go_big_quiet_step ((first | (go_at_call 45; exact Calls.regrown_of (cS _)))) | quiet_step ((first | (go_at_call 45; exact Calls.regrown_of (cS _)))))); refine wpQuiet_nil ?_; intro w1 hw1; have hb := below_of_regrown hw1; clear hw1; obtain ⟨hS, hE, hz, hc, hf⟩ := bcell hb; (try simp only [go_sem] at hE); subst hE))
      exact ⟨⟨k + 1, q + s, by omega, by go_num, by go_num, HT2, by omega, HBW.out.trans (by repeat' (first | (with_reducible exact Below.refl _ _) | (with_reducible refine below_drewN ?_ _) | (with_reducible refine Below.drew ?_) | (with_reducible refine Below.alloc ?_ ?_ _) | (with_reducible refine Below.setCell ?_ ?_ _) | (with_reducible refine below_step ?_ (by assumption) ?_) | (with_reducible refine below_step ?_ (below_regrown _ _ _) ?_) | go_size))⟩, by simp [intOf]; omega⟩
    · obtain rfl : k = l.length := by omega
      rw [List.take_length] at HQ
      go_wp2_with (first | ((with_reducible change Code.wp _ (Code.region _ _ _) _ _ _); refine wp_region_quiet_below (by kernel_rfl) (by kernel_rfl) ?_; (repeat (first | go_big_quiet_step (fail) | quiet_step (fail))); refine wpQuiet_nil ?_; intro w1 hw1; have hb := below_of_regrown hw1; clear hw1; obtain ⟨hS, hE, hz, hc, hf⟩ := bcell hb; (try simp only [go_sem] at hE); subst hE))
      go_ret
      exact ⟨by rw [HQ.out]; rfl, HBW.out⟩
end Go.Proofs.YtfckciblnojniaaDoor.Dk
