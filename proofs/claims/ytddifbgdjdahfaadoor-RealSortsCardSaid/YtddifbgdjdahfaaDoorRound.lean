/- A number divided by a power of 2, to the nearest whole one, by the reference (for every chapter). No condition. -/
import Derived.Test.YtddifbgdjdahfaaDoorRPart
namespace Go.Proofs.YtddifbgdjdahfaaDoor.Real
open Go.ChangeShapes Go.WideShapes Go.ChangeAt Go.RowKit Go.Proofs.YtddifbgdjdahfaaDoor.Kit Go.Proofs.YtddifbgdjdahfaaDoor.Flt Go.Deep
set_option linter.unusedVariables false
set_option linter.unusedSimpArgs false
def upV (q : Nat) (a b : Bool) : Nat := if a = true ∨ (b = true ∧ q % 2 = 1) then q + 1 else q
set_option maxHeartbeats 1000000 in
theorem round_walk (n s q t g half : Nat) (h1 : 1 ≤ s) (h2 : s ≤ 63) (hn : n < 18446744073709551616) (hq2 : q < 18446744073709551615) (hg0 : 0 < g) (hg1 : g < 18446744073709551616) (ht : t < 18446744073709551616) (hhalf : half < 18446744073709551616) (w : World) (hq : (n : Int) / 2 ^ s = (q : Int))
    (hg : IntKind.u64.wrap (2 ^ s) = (g : Int)) (hm : (n : Int) % g = (t : Int)) (hh : IntKind.u64.wrap (2 ^ (s - 1)) = (half : Int)) :
    Calls Tryd.prog 39 #[.int .u64 n, .int .i64 s] w fun e w' => e = .returned (.int .u64 (upV q (decide (half < t)) (decide (t = half)) : Nat)) ∧ Below w.heap.size w w' := by
  have hqm : q % 2 = 0 ∨ q % 2 = 1 := by omega
  have key : (t < half ∧ Hid (upV q (decide (half < t)) (decide (t = half)) = q)) ∨ (t = half ∧ ((q : Int) % 2 = 0) ∧ Hid (upV q (decide (half < t)) (decide (t = half)) = q)) ∨
      (t = half ∧ ((q : Int) % 2 = 1) ∧ Hid (upV q (decide (half < t)) (decide (t = half)) = q + 1)) ∨ (half < t ∧ Hid (upV q (decide (half < t)) (decide (t = half)) = q + 1)) := by
    unfold upV
    rcases Nat.lt_trichotomy t half with h | h | h
    · exact .inl ⟨h, if_neg (by rw [decide_eq_false (by omega), decide_eq_false (by omega)]; simp)⟩
    · rcases hqm with hm | hm
      · exact .inr (.inl ⟨h, by omega, if_neg (by rw [decide_eq_false (by omega), hm]; simp)⟩)
      · exact .inr (.inr (.inl ⟨h, by omega, if_pos (.inr ⟨decide_eq_true h, hm⟩)⟩))
    · exact .inr (.inr (.inr ⟨h, if_pos (.inl (decide_eq_true h))⟩))
  clear hqm
  generalize upV q (decide (half < t)) (decide (t = half)) = U at *
  rcases key with ⟨h, HR⟩ | ⟨rfl, r2, HR⟩ | ⟨rfl, r2, HR⟩ | ⟨h, HR⟩
  all_goals
    go_enter Tryd.func39, Tryd.ntmps39
    go_wp2_with (first | ((with_reducible change Code.wp _ (Code.region _ _ _) _ _ _); refine wp_region_quiet_below (by kernel_rfl) (by kernel_rfl) ?_; (repeat (first | go_big_quiet_step (fail) | quiet_step (fail))); refine wpQuiet_nil ?_; intro w1 hw1; have hb := below_of_regrown hw1; clear hw1; obtain ⟨hS, hE, hz, hc, hf⟩ := bcell hb; (try simp only [go_sem] at hE); subst hE))
    go_ret
    exact ⟨by rw [HR.out]; rfl, (by repeat' (first | (with_reducible exact Below.refl _ _) | (with_reducible refine below_drewN ?_ _) | (with_reducible refine Below.drew ?_) | (with_reducible refine Below.alloc ?_ ?_ _) | (with_reducible refine Below.setCell ?_ ?_ _) | (with_reducible refine below_step ?_ (by assumption) ?_) | (with_reducible refine below_step ?_ (below_regrown _ _ _) ?_) | go_size))⟩
theorem rnd_half (n g h : Nat) (hg : g = h * 2) : upV (n / g) (decide (h < n % g)) (decide (n % g = h)) = rnd n g := by
  unfold upV rnd
  simp only [decide_eq_true_eq]
  have e1 : (h < n % g) ↔ g < 2 * (n % g) := by omega
  have e2 : (n % g = h) ↔ g = 2 * (n % g) := by omega
  simp only [e1, e2]
  split <;> rfl
theorem round_any (n s : Nat) (h1 : 1 ≤ s) (h2 : s ≤ 63) (hn : n < 18446744073709551616) (w : World) : Calls Tryd.prog 39 #[.int .u64 n, .int .i64 s] w fun e w' => e = .returned (.int .u64 (rnd n (2 ^ s) : Nat)) ∧ Below w.heap.size w w' := by
  have hg0 : 0 < 2 ^ s := Nat.pow_pos (by decide)
  have hgs : 2 ^ s = 2 ^ (s - 1) * 2 := by
    conv => lhs; rw [show s = s - 1 + 1 by omega]
    rw [Nat.pow_succ]
  have hh0 : 0 < 2 ^ (s - 1) := Nat.pow_pos (by decide)
  have hg1 : 2 ^ s ≤ 2 ^ 63 := Nat.pow_le_pow_right (by decide) h2
  have h63 : (2 : Nat) ^ 63 = 9223372036854775808 := by decide
  have hqle : n / 2 ^ s ≤ n / 2 := Nat.div_le_div_left (by omega) (by decide)
  have hml := Nat.mod_lt n hg0
  have wp : ∀ k : Nat, 2 ^ k < 18446744073709551616 → IntKind.u64.wrap (2 ^ k) = ((2 ^ k : Nat) : Int) := fun k hk => by
    have e : (2 : Int) ^ k = ((2 ^ k : Nat) : Int) := by rw [Int.natCast_pow]; rfl
    rw [IntKind.wrap_u64, e]
    generalize 2 ^ k = v at *
    omega
  rw [← rnd_half n (2 ^ s) (2 ^ (s - 1)) hgs]
  exact round_walk n s (n / 2 ^ s) (n % 2 ^ s) (2 ^ s) (2 ^ (s - 1)) h1 h2 hn (by omega) hg0 (by omega) (by omega) (by omega) w (by rw [Int.natCast_ediv, Int.natCast_pow]; rfl) (wp s (by omega)) (by rw [Int.natCast_emod]) (wp (s - 1) (by omega))
theorem round_64 (n : Nat) (hn : n ≤ 9223372036854775808) (w : World) : Calls Tryd.prog 39 #[.int .u64 n, .int .i64 64] w fun e w' => e = .returned (.int .u64 0) ∧ Below w.heap.size w w' := by
  rcases Nat.lt_or_eq_of_le hn with h | rfl
  · go_enter Tryd.func39, Tryd.ntmps39
    go_wp2_with (first | ((with_reducible change Code.wp _ (Code.region _ _ _) _ _ _); refine wp_region_quiet_below (by kernel_rfl) (by kernel_rfl) ?_; (repeat (first | go_big_quiet_step (fail) | quiet_step (fail))); refine wpQuiet_nil ?_; intro w1 hw1; have hb := below_of_regrown hw1; clear hw1; obtain ⟨hS, hE, hz, hc, hf⟩ := bcell hb; (try simp only [go_sem] at hE); subst hE))
    go_ret
    exact ⟨rfl, (by repeat' (first | (with_reducible exact Below.refl _ _) | (with_reducible refine below_drewN ?_ _) | (with_reducible refine Below.drew ?_) | (with_reducible refine Below.alloc ?_ ?_ _) | (with_reducible refine Below.setCell ?_ ?_ _) | (with_reducible refine below_step ?_ (by assumption) ?_) | (with_reducible refine below_step ?_ (below_regrown _ _ _) ?_) | go_size))⟩
  · go_enter Tryd.func39, Tryd.ntmps39
    go_wp2_with (first | ((with_reducible change Code.wp _ (Code.region _ _ _) _ _ _); refine wp_region_quiet_below (by kernel_rfl) (by kernel_rfl) ?_; (repeat (first | go_big_quiet_step (fail) | quiet_step (fail))); refine wpQuiet_nil ?_; intro w1 hw1; have hb := below_of_regrown hw1; clear hw1; obtain ⟨hS, hE, hz, hc, hf⟩ := bcell hb; (try simp only [go_sem] at hE); subst hE))
    go_ret
    exact ⟨rfl, (by repeat' (first | (with_reducible exact Below.refl _ _) | (with_reducible refine below_drewN ?_ _) | (with_reducible refine Below.drew ?_) | (with_reducible refine Below.alloc ?_ ?_ _) | (with_reducible refine Below.setCell ?_ ?_ _) | (with_reducible refine below_step ?_ (by assumption) ?_) | (with_reducible refine below_step ?_ (below_regrown _ _ _) ?_) | go_size))⟩
end Go.Proofs.YtddifbgdjdahfaaDoor.Real
