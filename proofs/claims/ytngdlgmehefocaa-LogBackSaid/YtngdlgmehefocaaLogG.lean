/- A new log; what changes did together; a difference. No condition. -/
import Derived.Test.YtngdlgmehefocaaLogB
import Derived.Test.YtngdlgmehefocaaLogC
import Derived.Test.YtngdlgmehefocaaWide
namespace Go.Proofs.Ytngdlgmehefocaa.Log
open Go.ChangeShapes Go.WideShapes Go.ChangeAt Go.RowKit Go.Proofs.Ytngdlgmehefocaa.Kit Go.Proofs.Ytngdlgmehefocaa.Mem Go.Proofs.Ytngdlgmehefocaa.Wide Go.Deep
set_option linter.unusedVariables false
set_option linter.unusedSimpArgs false
theorem new_yes (room : Int) (w : World) (h1 : 1 ≤ room) (h2 : room ≤ 64) : Calls Try.prog 12 #[.int .i64 room] w fun e w' => e = .returned (.tuple #[.agg #[.int .i64 room, .int .i64 0, .slice none 0 0], .int .i64 0]) ∧ Below w.heap.size w w' := by
  have R1 := fun (w : World) => right_any (w := w) (c := 0) (srow_nil w 0 none) (Nat.zero_le _) (by omega) (room := room) (last := 0) (cs := [])
  rw [show rightL room 0 [] = true from right_yes ⟨h1, h2, by omega, by omega, by simp; omega, by simp⟩ rfl] at R1
  go_enter Try.func12, Try.ntmps12
  go_wp2_with (first | (go_at_call 10; refine (R1 _).mono ?_; rintro e w1 ⟨rfl, hb⟩; obtain ⟨hS, hE, hz, hc, hf⟩ := bcell hb; (try simp only [go_sem] at hE); subst hE) | (refine wp_region_quiet_below (by kernel_rfl) (by kernel_rfl) ?_; (repeat (first | go_big_quiet_step ((first | (go_at_call 10; exact Calls.regrown_of (R1 _)))) | quiet_step ((first | (go_at_call 10; exact Calls.regrown_of (R1 _)))))); refine wpQuiet_nil ?_; intro w1 hw1; have hb := below_of_regrown hw1; clear hw1; obtain ⟨hS, hE, hz, hc, hf⟩ := bcell hb; (try simp only [go_sem] at hE); subst hE))
  refine bodyPost_ret (v := .tuple #[.agg #[.int .i64 room, .int .i64 0, .slice none 0 0], .int .i64 0]) ?_ rfl ⟨rfl, (by repeat' (first | (with_reducible exact Below.refl _ _) | (with_reducible refine below_drewN ?_ _) | (with_reducible refine Below.drew ?_) | (with_reducible refine Below.alloc ?_ ?_ _) | (with_reducible refine Below.setCell ?_ ?_ _) | (with_reducible refine below_step ?_ (by assumption) ?_) | go_size))⟩
  simp only [results, Try.results12]
  go_simp
theorem new_no (room : Int) (w : World) (h : room < 1 ∨ 64 < room) : Calls Try.prog 12 #[.int .i64 room] w fun e w' => e = .returned (.tuple #[.agg #[.int .i64 0, .int .i64 0, .slice none 0 0], .int .i64 110]) ∧ Below w.heap.size w w' := by
  have R1 := fun (w : World) => right_any (w := w) (c := 0) (srow_nil w 0 none) (Nat.zero_le _) (by omega) (room := room) (last := 0) (cs := [])
  rw [show rightL room 0 [] = false from right_no (by unfold preL; omega)] at R1
  clear h
  go_enter Try.func12, Try.ntmps12
  go_wp2_with (first | (go_at_call 10; refine (R1 _).mono ?_; rintro e w1 ⟨rfl, hb⟩; obtain ⟨hS, hE, hz, hc, hf⟩ := bcell hb; (try simp only [go_sem] at hE); subst hE) | (refine wp_region_quiet_below (by kernel_rfl) (by kernel_rfl) ?_; (repeat (first | go_big_quiet_step ((first | (go_at_call 10; exact Calls.regrown_of (R1 _)))) | quiet_step ((first | (go_at_call 10; exact Calls.regrown_of (R1 _)))))); refine wpQuiet_nil ?_; intro w1 hw1; have hb := below_of_regrown hw1; clear hw1; obtain ⟨hS, hE, hz, hc, hf⟩ := bcell hb; (try simp only [go_sem] at hE); subst hE))
  refine bodyPost_ret (v := .tuple #[.agg #[.int .i64 0, .int .i64 0, .slice none 0 0], .int .i64 110]) ?_ rfl ⟨rfl, (by repeat' (first | (with_reducible exact Below.refl _ _) | (with_reducible refine below_drewN ?_ _) | (with_reducible refine Below.drew ?_) | (with_reducible refine Below.alloc ?_ ?_ _) | (with_reducible refine Below.setCell ?_ ?_ _) | (with_reducible refine below_step ?_ (by assumption) ?_) | go_size))⟩
  simp only [results, Try.results12]
  go_simp
set_option maxHeartbeats 1000000 in
theorem net_any {w : World} {A : Option Addr} {B n c : Nat} {cs : List Chg} (h : LRow w B A n cs) (hn : n ≤ 64) (hbd : ∀ x ∈ cs, -1099511627776 ≤ x.2.2 ∧ x.2.2 ≤ 1099511627776) :
    Calls Try.prog 25 #[.slice A n c] w fun e w' => e = .returned (.int .i64 (sumL cs)) ∧ Below w.heap.size w w' := by
  have e1 := h.1
  subst e1
  have HR := hide h
  have HB := hide (fun k => sumL_bd (cs.take k) (fun x hx => hbd x (List.mem_of_mem_take hx)))
  have HX := hide hbd
  clear h hbd
  go_enter Try.func25, Try.ntmps25
  go_wp2
  go_loopw [3, 8] (fun s i wr => ∃ k : Nat, k ≤ cs.length ∧ i = .int .i64 k ∧ s = .int .i64 (sumL (cs.take k)) ∧ Below w.heap.size w wr) (fun _ i _ => cs.length - (intOf i).toNat)
  case atStart => exact ⟨0, Nat.zero_le _, rfl, rfl, Below.refl _ _⟩
  case round =>
    obtain ⟨k, hk, rfl, rfl, hbw⟩ := hrel
    have hz2 := hbw.size
    have bd := HB.out k
    rw [List.length_take, Nat.min_eq_left hk] at bd
    by_cases hlt : k < cs.length
    · obtain ⟨b, off, rfl, hbB, hcell⟩ := lrow_cells HR.out (by omega)
      obtain ⟨e0, e1, e2⟩ := hcell k hlt
      have d0 := (hbw.cell (p := ⟨b, off + k * 3, none⟩) (block_lt_of_cell e0)).trans e0
      have d1 := (hbw.cell (p := ⟨b, off + k * 3 + 1, none⟩) (block_lt_of_cell e1)).trans e1
      have d2 := (hbw.cell (p := ⟨b, off + k * 3 + 2, none⟩) (block_lt_of_cell e2)).trans e2
      have hl1 : b < wr.heap.size := block_lt_of_cell d0
      have HS := hide (sumL_snoc cs k hlt)
      have bx := HX.out _ (getD_mem cs k hlt)
      clear hcell e0 e1 e2
      generalize cs.getD k (0, 0, 0) = ch at *
      obtain ⟨v, a, m⟩ := ch
      dsimp only at *
      have b1 : -9223372036854775808 ≤ sumL (cs.take k) + m ∧ sumL (cs.take k) + m ≤ 9223372036854775807 := by omega
      obtain ⟨b2, b3⟩ := b1
      go_wp2
      refine ⟨⟨k + 1, by omega, by go_num, by rw [HS.out], hbw.alloc (by omega) _⟩, by simp [intOf]; omega⟩
    · obtain rfl : k = cs.length := by omega
      go_wp2
      go_ret
      exact ⟨ret_int (by rw [List.take_length]), hbw⟩
theorem not64 (b : Int) (h1 : -9223372036854775808 ≤ b) (h2 : b ≤ 9223372036854775807) : bits .xor .i64 (if IntKind.i64.signed = true then -1 else 9223372036854775807) b = -1 - b := by
  show IntKind.i64.wrap ((BitVec.ofInt 64 (-1) ^^^ BitVec.ofInt 64 b).toNat : Int) = _
  have e1 : BitVec.ofInt 64 (-1) = BitVec.allOnes 64 := by decide
  rw [e1, BitVec.allOnes_xor, BitVec.toNat_not, BitVec.toNat_ofInt, IntKind.wrap_i64]
  omega
theorem sub_any (a b : Int) (w : World) (h1 : -9223372036854775808 ≤ a) (h2 : a ≤ 9223372036854775807) (h3 : -9223372036854775808 ≤ b) (h4 : b ≤ 9223372036854775807) :
    Calls Try.prog 24 #[.int .i64 a, .int .i64 b] w fun e w' => e = .returned (.tuple #[.int .i64 (subL a b).1, .int .i64 (subL a b).2]) ∧ Below w.heap.size w w' := by
  have HO : Hid (oneW (a + (-1 - b) + 1) = subL a b) := hide (by unfold oneW subL; rw [show a + (-1 - b) + 1 = a - b by omega])
  go_enter Try.func24, Try.ntmps24
  have nb := not64 b h3 h4
  go_wp2_with (first | (go_at_call 27; refine (of_any _ _ (by omega) (by omega)).mono ?_; rintro e w1 ⟨rfl, hb⟩; obtain ⟨hS, hE, hz, hc, hf⟩ := bcell hb; (try simp only [go_sem] at hE); subst hE) | (go_at_call 28; refine (plus_any _ _ _).mono ?_; rintro e w1 ⟨rfl, hb⟩; obtain ⟨hS, hE, hz, hc, hf⟩ := bcell hb; (try simp only [go_sem] at hE); subst hE) | (go_at_call 29; refine (number_any _ _ (by omega) (by omega)).mono ?_; rintro e w1 ⟨rfl, hb⟩; obtain ⟨hS, hE, hz, hc, hf⟩ := bcell hb; (try simp only [go_sem] at hE); subst hE) | (refine wp_region_quiet_below (by kernel_rfl) (by kernel_rfl) ?_; (repeat (first | go_big_quiet_step ((first | (go_at_call 27; exact Calls.regrown_of (of_any _ _ (by omega) (by omega))) | (go_at_call 28; exact Calls.regrown_of (plus_any _ _ _)) | (go_at_call 29; exact Calls.regrown_of (number_any _ _ (by omega) (by omega))))) | quiet_step ((first | (go_at_call 27; exact Calls.regrown_of (of_any _ _ (by omega) (by omega))) | (go_at_call 28; exact Calls.regrown_of (plus_any _ _ _)) | (go_at_call 29; exact Calls.regrown_of (number_any _ _ (by omega) (by omega))))))); refine wpQuiet_nil ?_; intro w1 hw1; have hb := below_of_regrown hw1; clear hw1; obtain ⟨hS, hE, hz, hc, hf⟩ := bcell hb; (try simp only [go_sem] at hE); subst hE))
  go_ret2
  exact ⟨by rw [← HO.out]; rfl, (by repeat' (first | (with_reducible exact Below.refl _ _) | (with_reducible refine below_drewN ?_ _) | (with_reducible refine Below.drew ?_) | (with_reducible refine Below.alloc ?_ ?_ _) | (with_reducible refine Below.setCell ?_ ?_ _) | (with_reducible refine below_step ?_ (by assumption) ?_) | go_size))⟩
theorem rsub_any (a b : Int) (w : World) (h1 : -9223372036854775808 ≤ a) (h2 : a ≤ 9223372036854775807) (h3 : -9223372036854775808 ≤ b) (h4 : b ≤ 9223372036854775807) :
    Calls Try.prog 26 #[.int .i64 a, .int .i64 b] w fun e w' => e = .returned (.tuple #[.int .i64 (subL a b).1, .int .i64 (subL a b).2]) ∧ w = w' := by
  unfold subL
  by_cases hb : b < 0
  · by_cases ho : 9223372036854775807 + b < a
    · rw [if_neg (by omega)]
      go_enter Try.func26, Try.ntmps26
      go_wp2
      go_ret2
      exact ⟨rfl, rfl⟩
    · rw [if_pos (by omega)]
      go_enter Try.func26, Try.ntmps26
      go_wp2
      go_ret2
      exact ⟨rfl, rfl⟩
  · by_cases hb0 : b = 0
    · subst hb0
      rw [if_pos (by omega)]
      go_enter Try.func26, Try.ntmps26
      go_wp2
      go_ret2
      exact ⟨rfl, rfl⟩
    · by_cases ho : a < -9223372036854775808 + b
      · rw [if_neg (by omega)]
        go_enter Try.func26, Try.ntmps26
        go_wp2
        go_ret2
        exact ⟨rfl, rfl⟩
      · rw [if_pos (by omega)]
        go_enter Try.func26, Try.ntmps26
        go_wp2
        go_ret2
        exact ⟨rfl, rfl⟩
end Go.Proofs.Ytngdlgmehefocaa.Log
