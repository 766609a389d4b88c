/- Whether two lists of changes are the same, two logs. No condition. -/
import Derived.Test.YtngdlgmehefocaaLogA
namespace Go.Proofs.Ytngdlgmehefocaa.Log
open Go.ChangeShapes Go.WideShapes Go.ChangeAt Go.RowKit Go.Proofs.Ytngdlgmehefocaa.Kit Go.Proofs.Ytngdlgmehefocaa.Mem Go.Deep
set_option linter.unusedVariables false
set_option maxHeartbeats 1000000 in
theorem samelist_yes {w : World} {A A2 : Option Addr} {B B2 n n2 c c2 : Nat} {cs : List Chg} (h : LRow w B A n cs) (h2 : LRow w B2 A2 n2 cs) (hn : n ≤ 140737488351232) :
    Calls Try.prog 17 #[.slice A n c, .slice A2 n2 c2] w fun e w' => e = .returned (.bool true) ∧ Below w.heap.size w w' := by
  have e1 := h.1
  have e2 := h2.1
  subst e1
  subst e2
  have HR := hide h
  have HR2 := hide h2
  clear h h2
  go_enter Try.func17, Try.ntmps17
  go_wp2
  go_loopw [5] (fun i wr => ∃ k : Nat, k ≤ cs.length ∧ i = .int .i64 k ∧ Below w.heap.size w wr) (fun i _ => cs.length - (intOf i).toNat)
  case atStart => exact ⟨0, Nat.zero_le _, rfl, Below.refl _ _⟩
  case round =>
    obtain ⟨k, hk, rfl, hbw⟩ := hrel
    by_cases hlt : k < cs.length
    · obtain ⟨b, off, rfl, hbB, hcell⟩ := lrow_cells HR.out (by omega)
      obtain ⟨b2, off2, rfl, hbB2, hcell2⟩ := lrow_cells HR2.out (by omega)
      obtain ⟨e0, e1, e2⟩ := hcell k hlt
      obtain ⟨e3, e4, e5⟩ := hcell2 k hlt
      have d0 := (hbw.cell (p := ⟨b, off + k * 3, none⟩) (block_lt_of_cell e0)).trans e0
      have d1 := (hbw.cell (p := ⟨b, off + k * 3 + 1, none⟩) (block_lt_of_cell e1)).trans e1
      have d2 := (hbw.cell (p := ⟨b, off + k * 3 + 2, none⟩) (block_lt_of_cell e2)).trans e2
      have d3 := (hbw.cell (p := ⟨b2, off2 + k * 3, none⟩) (block_lt_of_cell e3)).trans e3
      have d4 := (hbw.cell (p := ⟨b2, off2 + k * 3 + 1, none⟩) (block_lt_of_cell e4)).trans e4
      have d5 := (hbw.cell (p := ⟨b2, off2 + k * 3 + 2, none⟩) (block_lt_of_cell e5)).trans e5
      have hl1 : b < wr.heap.size := block_lt_of_cell d0
      have hl2 : b2 < wr.heap.size := block_lt_of_cell d3
      clear hcell hcell2 e0 e1 e2 e3 e4 e5
      generalize cs.getD k (0, 0, 0) = ch at *
      obtain ⟨v, a, n⟩ := ch
      dsimp only at *
      go_wp2
      (refine wp_region_quiet_below (by kernel_rfl) (by kernel_rfl) ?_; (repeat (first | go_big_quiet_step (fail) | quiet_step (fail))); refine wpQuiet_nil ?_; intro w1 hw1; have hb := below_of_regrown hw1; clear hw1; obtain ⟨hS, hE, hz, hc, hf⟩ := bcell hb; (try simp only [go_sem] at hE); subst hE)
      go_wp2
      refine ⟨⟨k + 1, by omega, by go_num, hbw.trans (hb.mono hbw.size)⟩, by simp [intOf]; omega⟩
    · obtain rfl : k = cs.length := by omega
      go_wp2
      go_ret
      exact ⟨rfl, hbw⟩
set_option maxHeartbeats 1000000 in
theorem same_yes {w : World} {A A2 : Option Addr} {B B2 n n2 c c2 : Nat} {room last : Int} {cs : List Chg} (h : LRow w B A n cs) (h2 : LRow w B2 A2 n2 cs) (hB : B ≤ w.heap.size) (hB2 : B2 ≤ w.heap.size) (hn : n ≤ 140737488351232) :
    Calls Try.prog 9 #[.agg #[.int .i64 room, .int .i64 last, .slice A n c], .agg #[.int .i64 room, .int .i64 last, .slice A2 n2 c2]] w fun e w' => e = .returned (.bool true) ∧ Below w.heap.size w w' := by
  have S1 := samelist_yes (c := c) (c2 := c2) (srow_alloc (srow_alloc h hB (.cells #[.int .i64 room, .int .i64 last, .slice A n c] 24)) (by simp; omega) (.cells #[.int .i64 room, .int .i64 last, .slice A2 n2 c2] 24)) (srow_alloc (srow_alloc h2 hB2 _) (by simp; omega) _) hn
  go_enter Try.func9, Try.ntmps9
  go_wp2_with (first | (go_at_call 17; refine (S1).mono ?_; rintro e w1 ⟨rfl, hb⟩; obtain ⟨hS, hE, hz, hc, hf⟩ := bcell hb; (try simp only [go_sem] at hE); subst hE) | (refine wp_region_quiet_below (by kernel_rfl) (by kernel_rfl) ?_; (repeat (first | go_big_quiet_step ((first | (go_at_call 17; exact Calls.regrown_of (S1)))) | quiet_step ((first | (go_at_call 17; exact Calls.regrown_of (S1)))))); refine wpQuiet_nil ?_; intro w1 hw1; have hb := below_of_regrown hw1; clear hw1; obtain ⟨hS, hE, hz, hc, hf⟩ := bcell hb; (try simp only [go_sem] at hE); subst hE))
  go_ret
  exact ⟨rfl, (by repeat' (first | (with_reducible exact Below.refl _ _) | (with_reducible refine below_drewN ?_ _) | (with_reducible refine Below.drew ?_) | (with_reducible refine Below.alloc ?_ ?_ _) | (with_reducible refine Below.setCell ?_ ?_ _) | (with_reducible refine below_step ?_ (by assumption) ?_) | go_size))⟩
end Go.Proofs.Ytngdlgmehefocaa.Log
