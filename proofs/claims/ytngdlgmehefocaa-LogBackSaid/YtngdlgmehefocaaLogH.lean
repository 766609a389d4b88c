/- What an arm did together, by the program and by the document. No condition. -/
import Derived.Test.YtngdlgmehefocaaLogG
namespace Go.Proofs.Ytngdlgmehefocaa.Log
open Go.ChangeShapes Go.WideShapes Go.ChangeAt Go.RowKit Go.Proofs.Ytngdlgmehefocaa.Kit Go.Proofs.Ytngdlgmehefocaa.Mem Go.Proofs.Ytngdlgmehefocaa.Wide Go.Deep
set_option linter.unusedVariables false
set_option linter.unusedSimpArgs false
def pickL (cs : List Chg) (b : Int) : List Chg := cs.filter fun c => decide (c.2.1 = b)
theorem pick_bd {room last b : Int} {cs : List Chg} (hr : rightL room last cs = true) (k : Nat) : -1099511627776 * (k : Int) ≤ sumL (pickL (cs.take k) b) ∧ sumL (pickL (cs.take k) b) ≤ 1099511627776 * (k : Int) := by
  have h1 := sumL_bd (pickL (cs.take k) b) (fun x hx => by
    have := right_mem hr (List.mem_of_mem_take (List.mem_filter.1 hx).1)
    exact ⟨this.2.2.2.1, this.2.2.2.2⟩)
  have h2 : (pickL (cs.take k) b).length ≤ k := Nat.le_trans (List.length_filter_le _ _) (List.length_take_le _ _)
  omega
theorem net_one (w : World) (v a m : Int) {b : Nat} (hb : b = w.heap.size) (h1 : -1099511627776 ≤ m) (h2 : m ≤ 1099511627776) :
    Calls Try.prog 25 #[.slice (some ⟨b, 0, none⟩) 1 1] (w.alloc (.cells #[.int .i64 v, .int .i64 a, .int .i64 m] 32)) fun e w' => e = .returned (.int .i64 m) ∧ Below (w.alloc (.cells #[.int .i64 v, .int .i64 a, .int .i64 m] 32)).heap.size (w.alloc (.cells #[.int .i64 v, .int .i64 a, .int .i64 m] 32)) w' := by
  subst hb
  have N1 := net_any (c := 1) (srow_one encC_len w (v, a, m) 32) (by omega) (by simpa using ⟨h1, h2⟩)
  rw [show sumL [(v, a, m)] = m by simp [sumL]] at N1
  exact N1
set_option maxHeartbeats 1000000 in
theorem Net_any {w : World} {A : Option Addr} {B n c : Nat} {room last by_ : Int} {cs : List Chg} (h : LRow w B A n cs) (hB : B ≤ w.heap.size) (h47 : n ≤ 140737488351232) :
    Calls Try.prog 18 #[.agg #[.int .i64 room, .int .i64 last, .slice A n c], .int .i64 by_] w fun e w' => e = .returned (.int .i64 (netL room last cs by_)) ∧ Below w.heap.size w w' := by
  have e1 := h.1
  subst e1
  have R1 := right_any (c := c) (srow_alloc h hB (.cells #[.int .i64 room, .int .i64 last, .slice A cs.length c] 24)) (by simp; omega) (by omega) (room := room) (last := last)
  by_cases hr : rightL room last cs = true
  · obtain ⟨q1, q2, q3, q4, q5, q6⟩ := right_pre hr
    have q7 : cs.length ≤ 64 := by omega
    have HRES : Hid (netL room last cs by_ = sumL (pickL cs by_)) := hide (by unfold netL pickL; rw [if_neg (by simp [hr])])
    have HPB := hide (fun k => pick_bd (b := by_) hr k)
    have HMEM := hide (fun (x : Chg) (hx : x ∈ cs) => right_mem hr hx)
    rw [hr] at R1
    have HR := hide h
    clear hr h
    go_enter Try.func18, Try.ntmps18
    go_wp2_with (first | (go_at_call 10; refine (R1).mono ?_; rintro e w1 ⟨rfl, hb⟩; obtain ⟨hS, hE, hz, hc, hf⟩ := bcell hb; (try simp only [go_sem] at hE); subst hE) | (refine wp_region_quiet_below (by kernel_rfl) (by kernel_rfl) ?_; (repeat (first | go_big_quiet_step ((first | (go_at_call 10; exact Calls.regrown_of (R1)))) | quiet_step ((first | (go_at_call 10; exact Calls.regrown_of (R1)))))); refine wpQuiet_nil ?_; intro w1 hw1; have hb := below_of_regrown hw1; clear hw1; obtain ⟨hS, hE, hz, hc, hf⟩ := bcell hb; (try simp only [go_sem] at hE); subst hE))
    have HW1 := hide (show Below w.heap.size w w1 from (by repeat' (first | (with_reducible exact Below.refl _ _) | (with_reducible refine below_drewN ?_ _) | (with_reducible refine Below.drew ?_) | (with_reducible refine Below.alloc ?_ ?_ _) | (with_reducible refine Below.setCell ?_ ?_ _) | (with_reducible refine below_step ?_ (by assumption) ?_) | go_size)))
    have hz0 : w.heap.size + 1 ≤ w1.heap.size := by omega
    obtain ⟨wo, rfl⟩ : ∃ wo : World, wo = w1 := ⟨_, rfl⟩
    clear hc hf hb R1
    go_loopw [5, 14] (fun s i wr => ∃ k : Nat, k ≤ cs.length ∧ i = .int .i64 k ∧ s = .int .i64 (sumL (pickL (cs.take k) by_)) ∧ Below (w.heap.size + 1) wo wr) (fun _ i _ => cs.length - (intOf i).toNat)
    case atStart => exact ⟨0, Nat.zero_le _, rfl, rfl, Below.refl _ _⟩
    case round =>
      obtain ⟨k, hk, rfl, rfl, hbw⟩ := hrel
      have hz2 := hbw.size
      have hw0 : Below w.heap.size w wr := HW1.out.trans (hbw.mono (by omega))
      obtain ⟨bd1, bd2⟩ := HPB.out k
      by_cases hlt : k < cs.length
      · obtain ⟨b, off, rfl, hbB, hcell⟩ := lrow_cells HR.out (by omega)
        obtain ⟨e0, e1, e2⟩ := hcell k hlt
        have d0 := (hw0.cell (p := ⟨b, off + k * 3, none⟩) (by dsimp only; omega)).trans e0
        have d1 := (hw0.cell (p := ⟨b, off + k * 3 + 1, none⟩) (by dsimp only; omega)).trans e1
        have d2 := (hw0.cell (p := ⟨b, off + k * 3 + 2, none⟩) (by dsimp only; omega)).trans e2
        have HS := hide (net_snoc cs by_ k hlt)
        obtain ⟨_, _, _, bx1, bx2⟩ := HMEM.out _ (getD_mem cs k hlt)
        clear hcell e0 e1 e2
        generalize cs.getD k (0, 0, 0) = ch at *
        obtain ⟨v, a, m⟩ := ch
        dsimp only at *
        have b1 : -9223372036854775808 ≤ sumL (pickL (cs.take k) by_) + m ∧ sumL (pickL (cs.take k) by_) + m ≤ 9223372036854775807 := by omega
        obtain ⟨b2, b3⟩ := b1
        have hHS : Hid (sumL (pickL (cs.take (k + 1)) by_) = sumL (pickL (cs.take k) by_) + (if a = by_ then m else 0)) := hide HS.out
        have N1 := net_one (wr.alloc (.cells #[.int .i64 v, .int .i64 a, .int .i64 m] 32)) v a m (b := wr.heap.size + 1) (by simp) bx1 bx2
        clear HS
        generalize sumL (pickL (cs.take k) by_) = s at *
        by_cases ha : a = by_
        · subst ha
          go_wp2_with (go_at_call 25; go_loud (with_reducible refine N1.mono ?_); rintro e w1 ⟨rfl, hb⟩; obtain ⟨hS, hE, hz, hc, hf⟩ := bcell hb; (try simp only [go_sem] at hE); subst hE)
          clear N1
          refine ⟨⟨k + 1, by omega, by go_num, by rw [hHS.out]; simp, ((hbw.alloc (by omega) _).alloc (by simp; omega) _).trans (hb.mono (by simp; omega))⟩, by simp [intOf]; omega⟩
        · have hab : (a == by_) = false := by simpa using ha
          have hH2 : Hid (sumL (pickL (cs.take (k + 1)) by_) = s) := hide (by rw [hHS.out, if_neg ha, Int.add_zero])
          clear ha hHS
          go_wp2
          refine ⟨⟨k + 1, by omega, by go_num, by rw [hH2.out], hbw.alloc (by omega) _⟩, by simp [intOf]; omega⟩
      · obtain rfl : k = cs.length := by omega
        go_wp2
        go_ret
        exact ⟨ret_int (by rw [HRES.out, List.take_length]), hw0⟩
  · rw [Bool.not_eq_true] at hr
    rw [show netL room last cs by_ = 0 by unfold netL; rw [if_pos hr]]
    rw [hr] at R1
    clear hr
    go_enter Try.func18, Try.ntmps18
    go_wp2_with (first | (go_at_call 10; refine (R1).mono ?_; rintro e w1 ⟨rfl, hb⟩; obtain ⟨hS, hE, hz, hc, hf⟩ := bcell hb; (try simp only [go_sem] at hE); subst hE) | (refine wp_region_quiet_below (by kernel_rfl) (by kernel_rfl) ?_; (repeat (first | go_big_quiet_step ((first | (go_at_call 10; exact Calls.regrown_of (R1)))) | quiet_step ((first | (go_at_call 10; exact Calls.regrown_of (R1)))))); refine wpQuiet_nil ?_; intro w1 hw1; have hb := below_of_regrown hw1; clear hw1; obtain ⟨hS, hE, hz, hc, hf⟩ := bcell hb; (try simp only [go_sem] at hE); subst hE))
    go_ret
    exact ⟨rfl, (by repeat' (first | (with_reducible exact Below.refl _ _) | (with_reducible refine below_drewN ?_ _) | (with_reducible refine Below.drew ?_) | (with_reducible refine Below.alloc ?_ ?_ _) | (with_reducible refine Below.setCell ?_ ?_ _) | (with_reducible refine below_step ?_ (by assumption) ?_) | go_size))⟩
set_option maxHeartbeats 1000000 in
theorem RNet_any {w : World} {A : Option Addr} {B n c : Nat} {room last by_ : Int} {cs : List Chg} (h : LRow w B A n cs) (hB : B ≤ w.heap.size) (h47 : n ≤ 140737488351232) :
    Calls Try.prog 19 #[.agg #[.int .i64 room, .int .i64 last, .slice A n c], .int .i64 by_] w fun e w' => e = .returned (.int .i64 (netL room last cs by_)) ∧ Below w.heap.size w w' := by
  have e1 := h.1
  subst e1
  have R1 := rright_any (c := c) (srow_alloc h hB (.cells #[.int .i64 room, .int .i64 last, .slice A cs.length c] 24)) (by simp; omega) (by omega) (room := room) (last := last)
  by_cases hr : rightL room last cs = true
  · obtain ⟨q1, q2, q3, q4, q5, q6⟩ := right_pre hr
    have q7 : cs.length ≤ 64 := by omega
    have HRES : Hid (netL room last cs by_ = sumL (pickL cs by_)) := hide (by unfold netL pickL; rw [if_neg (by simp [hr])])
    have HPB := hide (fun k => pick_bd (b := by_) hr k)
    have HMEM := hide (fun (x : Chg) (hx : x ∈ cs) => right_mem hr hx)
    rw [hr] at R1
    have HR := hide h
    clear hr h
    go_enter Try.func19, Try.ntmps19
    go_wp2_with (first | (go_at_call 11; refine (R1).mono ?_; rintro e w1 ⟨rfl, hb⟩; obtain ⟨hS, hE, hz, hc, hf⟩ := bcell hb; (try simp only [go_sem] at hE); subst hE) | (refine wp_region_quiet_below (by kernel_rfl) (by kernel_rfl) ?_; (repeat (first | go_big_quiet_step ((first | (go_at_call 11; exact Calls.regrown_of (R1)))) | quiet_step ((first | (go_at_call 11; exact Calls.regrown_of (R1)))))); refine wpQuiet_nil ?_; intro w1 hw1; have hb := below_of_regrown hw1; clear hw1; obtain ⟨hS, hE, hz, hc, hf⟩ := bcell hb; (try simp only [go_sem] at hE); subst hE))
    have HW1 := hide (show Below w.heap.size w w1 from (by repeat' (first | (with_reducible exact Below.refl _ _) | (with_reducible refine below_drewN ?_ _) | (with_reducible refine Below.drew ?_) | (with_reducible refine Below.alloc ?_ ?_ _) | (with_reducible refine Below.setCell ?_ ?_ _) | (with_reducible refine below_step ?_ (by assumption) ?_) | go_size)))
    have hz0 : w.heap.size + 1 ≤ w1.heap.size := by omega
    have c2 : w1.cell? ⟨w.heap.size, 2, none⟩ = some (.slice A cs.length c) := by rw [hc _ _ (by unfold ltA; omega), World.cell?_alloc_new]; rfl
    obtain ⟨wo, rfl⟩ : ∃ wo : World, wo = w1 := ⟨_, rfl⟩
    clear hc hf hb R1
    go_loopw [5, 6] (fun s i wr => ∃ k : Nat, k ≤ cs.length ∧ i = .int .i64 k ∧ s = .int .i64 (sumL (pickL (cs.take k) by_)) ∧ wr = wo) (fun _ i _ => cs.length - (intOf i).toNat)
    case atStart => exact ⟨0, Nat.zero_le _, rfl, rfl, rfl⟩
    case round =>
      obtain ⟨k, hk, rfl, rfl, rfl⟩ := hrel
      obtain ⟨bd1, bd2⟩ := HPB.out k
      by_cases hlt : k < cs.length
      · obtain ⟨b, off, rfl, hbB, hcell⟩ := lrow_cells HR.out (by omega)
        obtain ⟨e0, e1, e2⟩ := hcell k hlt
        have d0 := (HW1.out.cell (p := ⟨b, off + k * 3, none⟩) (by dsimp only; omega)).trans e0
        have d1 := (HW1.out.cell (p := ⟨b, off + k * 3 + 1, none⟩) (by dsimp only; omega)).trans e1
        have d2 := (HW1.out.cell (p := ⟨b, off + k * 3 + 2, none⟩) (by dsimp only; omega)).trans e2
        have HS := hide (net_snoc cs by_ k hlt)
        obtain ⟨_, _, _, bx1, bx2⟩ := HMEM.out _ (getD_mem cs k hlt)
        clear hcell e0 e1 e2
        generalize cs.getD k (0, 0, 0) = ch at *
        obtain ⟨v, a, m⟩ := ch
        dsimp only at *
        have b1 : -9223372036854775808 ≤ sumL (pickL (cs.take k) by_) + m ∧ sumL (pickL (cs.take k) by_) + m ≤ 9223372036854775807 := by omega
        obtain ⟨b2, b3⟩ := b1
        have hHS : Hid (sumL (pickL (cs.take (k + 1)) by_) = sumL (pickL (cs.take k) by_) + (if a = by_ then m else 0)) := hide HS.out
        clear HS
        generalize sumL (pickL (cs.take k) by_) = s at *
        by_cases ha : a = by_
        · subst ha
          go_wp2
          refine ⟨⟨k + 1, by omega, by go_num, by rw [hHS.out]; simp, trivial⟩, by simp [intOf]; omega⟩
        · have hab : (a == by_) = false := by simpa using ha
          have hH2 : Hid (sumL (pickL (cs.take (k + 1)) by_) = s) := hide (by rw [hHS.out, if_neg ha, Int.add_zero])
          clear ha hHS
          go_wp2
          refine ⟨⟨k + 1, by omega, by go_num, by rw [hH2.out], trivial⟩, by simp [intOf]; omega⟩
      · obtain rfl : k = cs.length := by omega
        go_wp2
        go_ret
        exact ⟨ret_int (by rw [HRES.out, List.take_length]), HW1.out⟩
  · rw [Bool.not_eq_true] at hr
    rw [show netL room last cs by_ = 0 by unfold netL; rw [if_pos hr]]
    rw [hr] at R1
    clear hr
    go_enter Try.func19, Try.ntmps19
    go_wp2_with (first | (go_at_call 11; refine (R1).mono ?_; rintro e w1 ⟨rfl, hb⟩; obtain ⟨hS, hE, hz, hc, hf⟩ := bcell hb; (try simp only [go_sem] at hE); subst hE) | (refine wp_region_quiet_below (by kernel_rfl) (by kernel_rfl) ?_; (repeat (first | go_big_quiet_step ((first | (go_at_call 11; exact Calls.regrown_of (R1)))) | quiet_step ((first | (go_at_call 11; exact Calls.regrown_of (R1)))))); refine wpQuiet_nil ?_; intro w1 hw1; have hb := below_of_regrown hw1; clear hw1; obtain ⟨hS, hE, hz, hc, hf⟩ := bcell hb; (try simp only [go_sem] at hE); subst hE))
    go_ret
    exact ⟨rfl, (by repeat' (first | (with_reducible exact Below.refl _ _) | (with_reducible refine below_drewN ?_ _) | (with_reducible refine Below.drew ?_) | (with_reducible refine Below.alloc ?_ ?_ _) | (with_reducible refine Below.setCell ?_ ?_ _) | (with_reducible refine below_step ?_ (by assumption) ?_) | go_size))⟩
end Go.Proofs.Ytngdlgmehefocaa.Log
