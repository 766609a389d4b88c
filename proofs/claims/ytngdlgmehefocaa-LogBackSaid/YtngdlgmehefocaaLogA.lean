/- Which logs are right: the program's way and the document's. No condition. -/
import Derived.Test.YtngdlgmehefocaaLogL
import Derived.Test.YtngdlgmehefocaaSRow
import Derived.Laws.StructEq
import Derived.Outline
import Derived.Handy
namespace Go.Proofs.Ytngdlgmehefocaa.Log
open Go.ChangeShapes Go.WideShapes Go.ChangeAt Go.RowKit Go.Proofs.Ytngdlgmehefocaa.Kit Go.Proofs.Ytngdlgmehefocaa.Mem Go.Deep
set_option linter.unusedVariables false
def encC (c : Chg) : List Value := [.int .i64 c.1, .int .i64 c.2.1, .int .i64 c.2.2]
theorem encC_len (c : Chg) : (encC c).length = 3 := rfl
theorem encC_one (c : Chg) : ∀ u ∈ encC c, u.oneCell' = true := by intro u hu; simp only [encC, List.mem_cons, List.not_mem_nil, or_false] at hu; rcases hu with rfl | rfl | rfl <;> rfl
abbrev LRow (w : World) (B : Nat) (A : Option Addr) (n : Nat) (cs : List Chg) : Prop := SRow encC 3 w B A n cs
theorem lrow_cells {w : World} {B n : Nat} {A : Option Addr} {cs : List Chg} (h : LRow w B A n cs) (h0 : 0 < n) : ∃ b off, A = some ⟨b, off, none⟩ ∧ b < B ∧ ∀ j, j < n →
    w.cell? ⟨b, off + j * 3, none⟩ = some (.int .i64 (cs.getD j (0, 0, 0)).1) ∧ w.cell? ⟨b, off + j * 3 + 1, none⟩ = some (.int .i64 (cs.getD j (0, 0, 0)).2.1) ∧ w.cell? ⟨b, off + j * 3 + 2, none⟩ = some (.int .i64 (cs.getD j (0, 0, 0)).2.2) := by
  obtain ⟨b, off, rfl, hb, hc⟩ := h.cells encC_len (by decide) (0, 0, 0) h0
  exact ⟨b, off, rfl, hb, fun j hj => ⟨hc j hj 0 (by decide), hc j hj 1 (by decide), hc j hj 2 (by decide)⟩⟩
theorem may_any (b n : Int) (w : World) : Calls Try.prog 20 #[.int .i64 b, .int .i64 n] w fun e w' => e = .returned (.bool (mayB b n)) ∧ w = w' := by
  by_cases h1 : 1 ≤ b
  · by_cases h2 : b ≤ 8
    · by_cases h3 : n = 0
      · subst h3
        rw [show mayB b 0 = false from decide_eq_false (by omega)]
        go_enter Try.func20, Try.ntmps20
        go_wp2
        go_ret
        exact ⟨rfl, rfl⟩
      · by_cases h4 : -1099511627776 ≤ n
        · have h3b : (n != 0) = true := by simpa using h3
          by_cases h5 : n ≤ 1099511627776
          · rw [show mayB b n = true from decide_eq_true (by omega)]
            go_enter Try.func20, Try.ntmps20
            go_wp2
            go_ret
            exact ⟨rfl, rfl⟩
          · rw [show mayB b n = false from decide_eq_false (by omega)]
            go_enter Try.func20, Try.ntmps20
            go_wp2
            go_ret
            exact ⟨rfl, rfl⟩
        · rw [show mayB b n = false from decide_eq_false (by omega)]
          go_enter Try.func20, Try.ntmps20
          go_wp2
          go_ret
          exact ⟨rfl, rfl⟩
    · rw [show mayB b n = false from decide_eq_false (by omega)]
      go_enter Try.func20, Try.ntmps20
      go_wp2
      go_ret
      exact ⟨rfl, rfl⟩
  · rw [show mayB b n = false from decide_eq_false (by omega)]
    go_enter Try.func20, Try.ntmps20
    go_wp2
    go_ret
    exact ⟨rfl, rfl⟩
theorem rmay_any (b n : Int) (w : World) : Calls Try.prog 22 #[.int .i64 b, .int .i64 n] w fun e w' => e = .returned (.bool (mayB b n)) ∧ w = w' := by
  by_cases h1 : 1 ≤ b
  · by_cases h2 : b ≤ 8
    · by_cases h3 : n = 0
      · subst h3
        rw [show mayB b 0 = false from decide_eq_false (by omega)]
        go_enter Try.func22, Try.ntmps22
        go_wp2
        go_ret
        exact ⟨rfl, rfl⟩
      · by_cases h4 : -1099511627776 ≤ n
        · have h3b : (n != 0) = true := by simpa using h3
          by_cases h5 : n ≤ 1099511627776
          · rw [show mayB b n = true from decide_eq_true (by omega)]
            go_enter Try.func22, Try.ntmps22
            go_wp2
            go_ret
            exact ⟨rfl, rfl⟩
          · rw [show mayB b n = false from decide_eq_false (by omega)]
            go_enter Try.func22, Try.ntmps22
            go_wp2
            go_ret
            exact ⟨rfl, rfl⟩
        · rw [show mayB b n = false from decide_eq_false (by omega)]
          go_enter Try.func22, Try.ntmps22
          go_wp2
          go_ret
          exact ⟨rfl, rfl⟩
    · rw [show mayB b n = false from decide_eq_false (by omega)]
      go_enter Try.func22, Try.ntmps22
      go_wp2
      go_ret
      exact ⟨rfl, rfl⟩
  · rw [show mayB b n = false from decide_eq_false (by omega)]
    go_enter Try.func22, Try.ntmps22
    go_wp2
    go_ret
    exact ⟨rfl, rfl⟩
theorem kept_any (room last : Int) (A : Option Addr) (n c : Nat) (w : World) : Calls Try.prog 21 #[.agg #[.int .i64 room, .int .i64 last, .slice A n c]] w fun e w' => e = .returned (.int .i64 n) ∧ Below w.heap.size w w' := by
  go_enter Try.func21, Try.ntmps21
  go_wp2
  go_ret
  exact ⟨rfl, (by repeat' (first | (with_reducible exact Below.refl _ _) | (with_reducible refine below_drewN ?_ _) | (with_reducible refine Below.drew ?_) | (with_reducible refine Below.alloc ?_ ?_ _) | (with_reducible refine Below.setCell ?_ ?_ _) | (with_reducible refine below_step ?_ (by assumption) ?_) | go_size))⟩
theorem oldest_any (room last : Int) (A : Option Addr) (n c : Nat) (w : World) (h1 : 0 ≤ last) (h2 : last ≤ 2147483647) (h3 : n ≤ 64) : Calls Try.prog 23 #[.agg #[.int .i64 room, .int .i64 last, .slice A n c]] w fun e w' => e = .returned (.int .i64 (last - n)) ∧ Below w.heap.size w w' := by
  go_enter Try.func23, Try.ntmps23
  go_wp2_with (first | (go_at_call 21; refine (kept_any _ _ _ _ _ _).mono ?_; rintro e w1 ⟨rfl, hb⟩; obtain ⟨hS, hE, hz, hc, hf⟩ := bcell hb; (try simp only [go_sem] at hE); subst hE) | (refine wp_region_quiet_below (by kernel_rfl) (by kernel_rfl) ?_; (repeat (first | go_big_quiet_step ((first | (go_at_call 21; exact Calls.regrown_of (kept_any _ _ _ _ _ _)))) | quiet_step ((first | (go_at_call 21; exact Calls.regrown_of (kept_any _ _ _ _ _ _)))))); refine wpQuiet_nil ?_; intro w1 hw1; have hb := below_of_regrown hw1; clear hw1; obtain ⟨hS, hE, hz, hc, hf⟩ := bcell hb; (try simp only [go_sem] at hE); subst hE))
  go_ret
  exact ⟨rfl, (by repeat' (first | (with_reducible exact Below.refl _ _) | (with_reducible refine below_drewN ?_ _) | (with_reducible refine Below.drew ?_) | (with_reducible refine Below.alloc ?_ ?_ _) | (with_reducible refine Below.setCell ?_ ?_ _) | (with_reducible refine below_step ?_ (by assumption) ?_) | go_size))⟩
end Go.Proofs.Ytngdlgmehefocaa.Log
