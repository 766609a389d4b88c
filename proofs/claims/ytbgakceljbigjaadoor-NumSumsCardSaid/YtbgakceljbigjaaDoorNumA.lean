/- Sums, differences, ranges and what is left, of this layer and of the reference. No condition. -/
import Derived.Test.YtbgakceljbigjaaDoorWide
namespace Go.Proofs.YtbgakceljbigjaaDoor.Num
open Go.ChangeShapes Go.WideShapes Go.ChangeAt Go.RowKit Go.Proofs.YtbgakceljbigjaaDoor.Kit Go.Proofs.YtbgakceljbigjaaDoor.Wide Go.Deep
set_option linter.unusedVariables false
def In64 (a : Int) : Prop := -9223372036854775808 ≤ a ∧ a ≤ 9223372036854775807
theorem not64 (b : Int) (h1 : -9223372036854775808 ≤ b) (h2 : b ≤ 9223372036854775807) : bits .xor .i64 (if IntKind.i64.signed = true then -1 else 9223372036854775807) b = -1 - b := by
  show IntKind.i64.wrap ((BitVec.ofInt 64 (-1) ^^^ BitVec.ofInt 64 b).toNat : Int) = _
  have e1 : BitVec.ofInt 64 (-1) = BitVec.allOnes 64 := by decide
  rw [e1, BitVec.allOnes_xor, BitVec.toNat_not, BitVec.toNat_ofInt, IntKind.wrap_i64]
  omega
theorem add_any (a b : Int) (w : World) (ha : In64 a) (hb : In64 b) :
    Calls Tryd.prog 21 #[.int .i64 a, .int .i64 b] w fun e w' => e = .returned (.tuple #[.int .i64 (oneW (a + b)).1, .int .i64 (oneW (a + b)).2]) ∧ Below w.heap.size w w' := by
  obtain ⟨h1, h2⟩ := ha
  obtain ⟨h3, h4⟩ := hb
  go_enter Tryd.func21, Tryd.ntmps21
  go_wp2_with (first | (go_at_call 32; refine (of_any _ _ (by omega) (by omega)).mono ?_; rintro e w1 ⟨rfl, hb⟩; obtain ⟨hS, hE, hz, hc, hf⟩ := bcell hb; (try simp only [go_sem] at hE); subst hE) | (go_at_call 31; refine (plus_any _ _ _).mono ?_; rintro e w1 ⟨rfl, hb⟩; obtain ⟨hS, hE, hz, hc, hf⟩ := bcell hb; (try simp only [go_sem] at hE); subst hE) | (go_at_call 33; refine (number_any _ _ (by omega) (by omega)).mono ?_; rintro e w1 ⟨rfl, hb⟩; obtain ⟨hS, hE, hz, hc, hf⟩ := bcell hb; (try simp only [go_sem] at hE); subst hE) | (refine wp_region_quiet_below (by kernel_rfl) (by kernel_rfl) ?_; (repeat (first | go_big_quiet_step ((first | (go_at_call 32; exact Calls.regrown_of (of_any _ _ (by omega) (by omega))) | (go_at_call 31; exact Calls.regrown_of (plus_any _ _ _)) | (go_at_call 33; exact Calls.regrown_of (number_any _ _ (by omega) (by omega))))) | quiet_step ((first | (go_at_call 32; exact Calls.regrown_of (of_any _ _ (by omega) (by omega))) | (go_at_call 31; exact Calls.regrown_of (plus_any _ _ _)) | (go_at_call 33; exact Calls.regrown_of (number_any _ _ (by omega) (by omega))))))); refine wpQuiet_nil ?_; intro w1 hw1; have hb := below_of_regrown hw1; clear hw1; obtain ⟨hS, hE, hz, hc, hf⟩ := bcell hb; (try simp only [go_sem] at hE); subst hE))
  go_ret2
  exact ⟨rfl, (by repeat' (first | (with_reducible exact Below.refl _ _) | (with_reducible refine below_drewN ?_ _) | (with_reducible refine Below.drew ?_) | (with_reducible refine Below.alloc ?_ ?_ _) | (with_reducible refine Below.setCell ?_ ?_ _) | (with_reducible refine below_step ?_ (by assumption) ?_) | go_size))⟩
theorem sub_any (a b : Int) (w : World) (ha : In64 a) (hb : In64 b) :
    Calls Tryd.prog 22 #[.int .i64 a, .int .i64 b] w fun e w' => e = .returned (.tuple #[.int .i64 (oneW (a - b)).1, .int .i64 (oneW (a - b)).2]) ∧ Below w.heap.size w w' := by
  obtain ⟨h1, h2⟩ := ha
  obtain ⟨h3, h4⟩ := hb
  have HO : Hid (oneW (a + (-1 - b) + 1) = oneW (a - b)) := hide (by rw [show a + (-1 - b) + 1 = a - b by omega])
  go_enter Tryd.func22, Tryd.ntmps22
  have nb := not64 b h3 h4
  go_wp2_with (first | (go_at_call 32; refine (of_any _ _ (by omega) (by omega)).mono ?_; rintro e w1 ⟨rfl, hb⟩; obtain ⟨hS, hE, hz, hc, hf⟩ := bcell hb; (try simp only [go_sem] at hE); subst hE) | (go_at_call 31; refine (plus_any _ _ _).mono ?_; rintro e w1 ⟨rfl, hb⟩; obtain ⟨hS, hE, hz, hc, hf⟩ := bcell hb; (try simp only [go_sem] at hE); subst hE) | (go_at_call 33; refine (number_any _ _ (by omega) (by omega)).mono ?_; rintro e w1 ⟨rfl, hb⟩; obtain ⟨hS, hE, hz, hc, hf⟩ := bcell hb; (try simp only [go_sem] at hE); subst hE) | (refine wp_region_quiet_below (by kernel_rfl) (by kernel_rfl) ?_; (repeat (first | go_big_quiet_step ((first | (go_at_call 32; exact Calls.regrown_of (of_any _ _ (by omega) (by omega))) | (go_at_call 31; exact Calls.regrown_of (plus_any _ _ _)) | (go_at_call 33; exact Calls.regrown_of (number_any _ _ (by omega) (by omega))))) | quiet_step ((first | (go_at_call 32; exact Calls.regrown_of (of_any _ _ (by omega) (by omega))) | (go_at_call 31; exact Calls.regrown_of (plus_any _ _ _)) | (go_at_call 33; exact Calls.regrown_of (number_any _ _ (by omega) (by omega))))))); refine wpQuiet_nil ?_; intro w1 hw1; have hb := below_of_regrown hw1; clear hw1; obtain ⟨hS, hE, hz, hc, hf⟩ := bcell hb; (try simp only [go_sem] at hE); subst hE))
  go_ret2
  exact ⟨by rw [← HO.out]; rfl, (by repeat' (first | (with_reducible exact Below.refl _ _) | (with_reducible refine below_drewN ?_ _) | (with_reducible refine Below.drew ?_) | (with_reducible refine Below.alloc ?_ ?_ _) | (with_reducible refine Below.setCell ?_ ?_ _) | (with_reducible refine below_step ?_ (by assumption) ?_) | go_size))⟩
theorem radd_any (a b : Int) (w : World) (ha : In64 a) (hb : In64 b) :
    Calls Tryd.prog 24 #[.int .i64 a, .int .i64 b] w fun e w' => e = .returned (.tuple #[.int .i64 (oneW (a + b)).1, .int .i64 (oneW (a + b)).2]) ∧ w = w' := by
  obtain ⟨h1, h2⟩ := ha
  obtain ⟨h3, h4⟩ := hb
  unfold oneW
  by_cases hb : 0 < b
  · by_cases ho : 9223372036854775807 - b < a
    · rw [if_neg (by omega)]
      go_enter Tryd.func24, Tryd.ntmps24
      go_wp2
      go_ret2
      exact ⟨rfl, rfl⟩
    · rw [if_pos (by omega)]
      have hb2 : ¬ b < 0 := by omega
      go_enter Tryd.func24, Tryd.ntmps24
      go_wp2
      go_ret2
      exact ⟨rfl, rfl⟩
  · by_cases hb2 : b < 0
    · by_cases ho : a < -9223372036854775808 - b
      · rw [if_neg (by omega)]
        go_enter Tryd.func24, Tryd.ntmps24
        go_wp2
        go_ret2
        exact ⟨rfl, rfl⟩
      · rw [if_pos (by omega)]
        go_enter Tryd.func24, Tryd.ntmps24
        go_wp2
        go_ret2
        exact ⟨rfl, rfl⟩
    · rw [if_pos (by omega)]
      go_enter Tryd.func24, Tryd.ntmps24
      go_wp2
      go_ret2
      exact ⟨rfl, rfl⟩
theorem rsub_any (a b : Int) (w : World) (ha : In64 a) (hb : In64 b) :
    Calls Tryd.prog 25 #[.int .i64 a, .int .i64 b] w fun e w' => e = .returned (.tuple #[.int .i64 (oneW (a - b)).1, .int .i64 (oneW (a - b)).2]) ∧ w = w' := by
  obtain ⟨h1, h2⟩ := ha
  obtain ⟨h3, h4⟩ := hb
  unfold oneW
  by_cases hb : b < 0
  · by_cases ho : 9223372036854775807 + b < a
    · rw [if_neg (by omega)]
      go_enter Tryd.func25, Tryd.ntmps25
      go_wp2
      go_ret2
      exact ⟨rfl, rfl⟩
    · rw [if_pos (by omega)]
      have hb2 : ¬ 0 < b := by omega
      go_enter Tryd.func25, Tryd.ntmps25
      go_wp2
      go_ret2
      exact ⟨rfl, rfl⟩
  · by_cases hb2 : 0 < b
    · by_cases ho : a < -9223372036854775808 + b
      · rw [if_neg (by omega)]
        go_enter Tryd.func25, Tryd.ntmps25
        go_wp2
        go_ret2
        exact ⟨rfl, rfl⟩
      · rw [if_pos (by omega)]
        go_enter Tryd.func25, Tryd.ntmps25
        go_wp2
        go_ret2
        exact ⟨rfl, rfl⟩
    · rw [if_pos (by omega)]
      go_enter Tryd.func25, Tryd.ntmps25
      go_wp2
      go_ret2
      exact ⟨rfl, rfl⟩
def betweenN (n low high : Int) : Int := if n < low then low else if high < n then high else n
theorem between_any (n low high : Int) (w : World) : Calls Tryd.prog 17 #[.int .i64 n, .int .i64 low, .int .i64 high] w fun e w' => e = .returned (.int .i64 (betweenN n low high)) ∧ w = w' := by
  unfold betweenN
  by_cases h1 : n < low
  · rw [if_pos h1]
    go_enter Tryd.func17, Tryd.ntmps17
    go_wp2
    go_ret
    exact ⟨rfl, rfl⟩
  · rw [if_neg h1]
    by_cases h2 : high < n
    · rw [if_pos h2]
      go_enter Tryd.func17, Tryd.ntmps17
      go_wp2
      go_ret
      exact ⟨rfl, rfl⟩
    · rw [if_neg h2]
      go_enter Tryd.func17, Tryd.ntmps17
      go_wp2
      go_ret
      exact ⟨rfl, rfl⟩
theorem rbetween_any (n low high : Int) (w : World) : Calls Tryd.prog 18 #[.int .i64 n, .int .i64 low, .int .i64 high] w fun e w' => e = .returned (.int .i64 (betweenN n low high)) ∧ w = w' := by
  unfold betweenN
  by_cases h1 : n < low
  · rw [if_pos h1]
    go_enter Tryd.func18, Tryd.ntmps18
    go_wp2
    go_ret
    exact ⟨rfl, rfl⟩
  · rw [if_neg h1]
    by_cases h2 : high < n
    · rw [if_pos h2]
      go_enter Tryd.func18, Tryd.ntmps18
      go_wp2
      go_ret
      exact ⟨rfl, rfl⟩
    · rw [if_neg h2]
      go_enter Tryd.func18, Tryd.ntmps18
      go_wp2
      go_ret
      exact ⟨rfl, rfl⟩
theorem tmod_bd (n m : Int) (hm : 0 < m) : -m < Int.tmod n m ∧ Int.tmod n m < m := by
  refine ⟨?_, Int.tmod_lt_of_pos n hm⟩
  have := Int.tmod_lt_of_pos (-n) hm
  rw [Int.neg_tmod] at this
  omega
def modN (n m : Int) : Int := if m < 1 then 0 else if Int.tmod n m < 0 then Int.tmod n m + m else Int.tmod n m
theorem mod_any (n m : Int) (w : World) (hm : In64 m) : Calls Tryd.prog 19 #[.int .i64 n, .int .i64 m] w fun e w' => e = .returned (.int .i64 (modN n m)) ∧ w = w' := by
  obtain ⟨h3, h4⟩ := hm
  unfold modN
  by_cases h1 : m < 1
  · rw [if_pos h1]
    go_enter Tryd.func19, Tryd.ntmps19
    go_wp2
    go_ret
    exact ⟨rfl, rfl⟩
  · rw [if_neg h1]
    obtain ⟨b1, b2⟩ := tmod_bd n m (by omega)
    have hm0 : m ≠ 0 := by omega
    generalize hk : Int.tmod n m = k at *
    by_cases h2 : k < 0
    · rw [if_pos h2]
      go_enter Tryd.func19, Tryd.ntmps19
      go_wp2
      go_ret
      exact ⟨rfl, rfl⟩
    · rw [if_neg h2]
      go_enter Tryd.func19, Tryd.ntmps19
      go_wp2
      go_ret
      exact ⟨rfl, rfl⟩
theorem rmod_any (n m : Int) (w : World) (hm : In64 m) : Calls Tryd.prog 20 #[.int .i64 n, .int .i64 m] w fun e w' => e = .returned (.int .i64 (modN n m)) ∧ w = w' := by
  obtain ⟨h3, h4⟩ := hm
  unfold modN
  by_cases h1 : m < 1
  · rw [if_pos h1]
    go_enter Tryd.func20, Tryd.ntmps20
    go_wp2
    go_ret
    exact ⟨rfl, rfl⟩
  · rw [if_neg h1]
    obtain ⟨b1, b2⟩ := tmod_bd n m (by omega)
    have hm0 : m ≠ 0 := by omega
    generalize hk : Int.tmod n m = k at *
    by_cases h2 : k < 0
    · rw [if_pos h2]
      go_enter Tryd.func20, Tryd.ntmps20
      go_wp2
      go_ret
      exact ⟨rfl, rfl⟩
    · rw [if_neg h2]
      go_enter Tryd.func20, Tryd.ntmps20
      go_wp2
      go_ret
      exact ⟨rfl, rfl⟩
end Go.Proofs.YtbgakceljbigjaaDoor.Num
