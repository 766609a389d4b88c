/- Parts of real.Make: a number without its sign, its length, a number divided by a power of 2, a float with a sign. No condition. -/
import Derived.Test.YtddifbgdjdahfaaDoorMakV
import Derived.Test.YtddifbgdjdahfaaDoorShelf
import Derived.Lib.ItoaNum
namespace Go.Proofs.YtddifbgdjdahfaaDoor.Real
open Go.ChangeShapes Go.WideShapes Go.ChangeAt Go.RowKit Go.Proofs.YtddifbgdjdahfaaDoor.Kit Go.Proofs.YtddifbgdjdahfaaDoor.Flt Go.Proofs.YtddifbgdjdahfaaDoor.Num Go.Deep
set_option linter.unusedVariables false
set_option linter.unusedSimpArgs false
theorem size_any (n : Int) (hn : In64 n) (w : World) : Calls Tryd.prog 32 #[.int .i64 n] w fun e w' => e = .returned (.int .u64 (n.natAbs : Nat)) ∧ w = w' := by
  unfold In64 at hn
  by_cases h : n < 0
  · have w1' : IntKind.u64.wrap (-IntKind.u64.wrap n) = (n.natAbs : Nat) := by rw [IntKind.wrap_u64, IntKind.wrap_u64]; omega
    go_enter Tryd.func32, Tryd.ntmps32
    go_wp2
    go_ret
    exact ⟨by go_num, rfl⟩
  · have w1' : IntKind.u64.wrap n = (n.natAbs : Nat) := by rw [IntKind.wrap_u64]; omega
    go_enter Tryd.func32, Tryd.ntmps32
    go_wp2
    go_ret
    exact ⟨rfl, rfl⟩
theorem len_bit (n : Nat) (h : n < 18446744073709551616) : Lib.bitLen n = lenV n := by
  unfold lenV
  by_cases h0 : n = 0
  · subst h0
    decide
  · rw [if_neg h0]
    obtain ⟨h1, h2, h3⟩ := Lib.bitLenAux_bounds 64 n h h0
    have e : n.log2 = Lib.bitLen n - 1 := by
      refine (Nat.log2_eq_iff h0).2 ⟨h2, ?_⟩
      rw [show Lib.bitLen n - 1 + 1 = Lib.bitLen n from Nat.sub_add_cancel h1]
      exact h3
    have h4 : 1 ≤ Lib.bitLen n := h1
    omega
theorem len_any (n : Nat) (hn : n < 18446744073709551616) (w : World) : Calls Tryd.prog 33 #[.int .u64 n] w fun e w' => e = .returned (.int .i64 (lenV n : Nat)) ∧ w = w' := by
  refine (Tryd.bits_Len64 (n : Int) w (by omega) (by omega)).mono ?_
  rintro e w' ⟨rfl, rfl⟩
  rw [Int.toNat_natCast, len_bit n hn]
  exact ⟨rfl, rfl⟩
theorem copy_pos (r : Nat) (hr : r < 9223372036854775808) (w : World) : Calls Tryd.prog 29 #[.float .f64 r, .float .f64 4607182418800017408] w fun e w' => e = .returned (.float .f64 r) ∧ w = w' := by
  have e0 : rg r = r := Nat.mod_eq_of_lt hr
  have h1 := bits_abs r (by omega)
  rw [e0] at h1
  have h2 : bits .and .u64 4607182418800017408 9223372036854775808 = 0 := by decide +kernel
  have h3 : bits .or .u64 (r : Int) 0 = (r : Int) := (u64_or_nat r 0 (by omega) (by decide)).trans (by rw [Nat.or_zero])
  go_enter Tryd.func29, Tryd.ntmps29
  go_wp2
  go_ret
  exact ⟨rfl, rfl⟩
theorem copy_neg (r : Nat) (hr : r < 9223372036854775808) (w : World) : Calls Tryd.prog 29 #[.float .f64 r, .float .f64 13830554455654793216] w fun e w' => e = .returned (.float .f64 (9223372036854775808 + r)) ∧ w = w' := by
  have e0 : rg r = r := Nat.mod_eq_of_lt hr
  have h1 := bits_abs r (by omega)
  rw [e0] at h1
  have h2 : bits .and .u64 13830554455654793216 9223372036854775808 = 9223372036854775808 := by decide +kernel
  have h3 : bits .or .u64 (r : Int) 9223372036854775808 = ((9223372036854775808 + r : Nat) : Int) := (u64_or_nat r 9223372036854775808 (by omega) (by decide)).trans (by
    have := Nat.two_pow_add_eq_or_of_lt (i := 63) (b := r) (by simpa using hr) 1
    rw [Nat.or_comm, ← show 2 ^ 63 * 1 = 9223372036854775808 by decide, this])
  go_enter Tryd.func29, Tryd.ntmps29
  go_wp2
  go_ret
  exact ⟨rfl, rfl⟩
theorem inf_any (s : Int) (b : Nat) (h : (decide (0 ≤ s) = true ∧ b = 9218868437227405312) ∨ (decide (0 ≤ s) = false ∧ b = 18442240474082181120)) (w : World) : Calls Tryd.prog 30 #[.int .i64 s] w fun e w' => e = .returned (.float .f64 b) ∧ w = w' := by
  rcases h with ⟨h, rfl⟩ | ⟨h, rfl⟩
  all_goals
    go_enter Tryd.func30, Tryd.ntmps30
    go_wp2
    go_ret
    exact ⟨rfl, rfl⟩
set_option maxHeartbeats 1000000 in
theorem halved_walk (n s q r : Nat) (h1 : 1 ≤ s) (h2 : s ≤ 64) (hn : n < 18446744073709551616) (hq2 : q < 9223372036854775808) (w : World)
    (hq : (decide ((s : Int) < 64) = true ∧ (n : Int) / 2 ^ s = (q : Int)) ∨ (decide ((s : Int) < 64) = false ∧ q = 0)) (hr : IntKind.u64.wrap ((n : Int) * 2 ^ (64 - s)) = (r : Int)) :
    Calls Tryd.prog 34 #[.int .u64 n, .int .i64 s] w fun e w' => e = .returned (.int .u64 (upV q (decide (9223372036854775808 < r)) (decide (r = 9223372036854775808)) : Nat)) ∧ w = w' := by
  have HU := hide (show upV q (decide (9223372036854775808 < r)) (decide (r = 9223372036854775808)) = if decide (9223372036854775808 < r) = true ∨ (decide (r = 9223372036854775808) = true ∧ q % 2 = 1) then q + 1 else q from rfl)
  have r2 : bits .and .u64 (q : Int) 1 = ((q % 2 : Nat) : Int) := (u64_and_nat q 1 (by omega) (by decide)).trans (by rw [Nat.and_one_is_mod])
  have r3 : bits .and .u64 0 1 = 0 := by decide
  have hqm : q % 2 = 0 ∨ q % 2 = 1 := by omega
  have b0 : decide (64 < (s : Int)) = false := decide_eq_false (by omega)
  have key : (r < 9223372036854775808 ∧ Hid (upV q (decide (9223372036854775808 < r)) (decide (r = 9223372036854775808)) = q)) ∨ (r = 9223372036854775808 ∧ q % 2 = 0 ∧ Hid (upV q (decide (9223372036854775808 < r)) (decide (r = 9223372036854775808)) = q)) ∨
      (r = 9223372036854775808 ∧ q % 2 = 1 ∧ Hid (upV q (decide (9223372036854775808 < r)) (decide (r = 9223372036854775808)) = q + 1)) ∨ (9223372036854775808 < r ∧ Hid (upV q (decide (9223372036854775808 < r)) (decide (r = 9223372036854775808)) = q + 1)) := by
    rcases Nat.lt_trichotomy r 9223372036854775808 with h | h | h
    · exact .inl ⟨h, HU.out.trans (if_neg (by rw [decide_eq_false (by omega), decide_eq_false (by omega)]; simp))⟩
    · rcases hqm with hm | hm
      · exact .inr (.inl ⟨h, hm, HU.out.trans (if_neg (by rw [decide_eq_false (by omega), hm]; simp))⟩)
      · exact .inr (.inr (.inl ⟨h, hm, HU.out.trans (if_pos (.inr ⟨decide_eq_true h, hm⟩))⟩))
    · exact .inr (.inr (.inr ⟨h, HU.out.trans (if_pos (.inl (decide_eq_true h)))⟩))
  clear hqm HU
  generalize upV q (decide (9223372036854775808 < r)) (decide (r = 9223372036854775808)) = U at *
  rcases key with ⟨h, HR⟩ | ⟨rfl, hm, HR⟩ | ⟨rfl, hm, HR⟩ | ⟨h, HR⟩
  · clear r2
    have c1 : decide ((9223372036854775808 : Int) < r) = false := decide_eq_false (by omega)
    have c2 : ((r : Int) == 9223372036854775808) = false := beq_eq_false_iff_ne.2 (by omega)
    clear h
    rcases hq with ⟨hb, hq⟩ | ⟨hb, rfl⟩
    all_goals
      go_enter Tryd.func34, Tryd.ntmps34
      go_wp2
      go_ret
      exact ⟨by rw [HR.out]; rfl, rfl⟩
  · rw [hm] at r2
    clear hm
    rcases hq with ⟨hb, hq⟩ | ⟨hb, rfl⟩
    all_goals
      go_enter Tryd.func34, Tryd.ntmps34
      go_wp2
      go_ret
      exact ⟨by rw [HR.out]; rfl, rfl⟩
  · rw [hm] at r2
    rcases hq with ⟨hb, hq⟩ | ⟨hb, rfl⟩
    · clear hm
      go_enter Tryd.func34, Tryd.ntmps34
      go_wp2
      go_ret
      exact ⟨by rw [HR.out]; rfl, rfl⟩
    · cases hm
  · clear r2
    have c1 : decide ((9223372036854775808 : Int) < r) = true := decide_eq_true (by omega)
    clear h
    rcases hq with ⟨hb, hq⟩ | ⟨hb, rfl⟩
    all_goals
      go_enter Tryd.func34, Tryd.ntmps34
      go_wp2
      go_ret
      exact ⟨by rw [HR.out]; rfl, rfl⟩
theorem rnd_up (n g c : Nat) (hg : 0 < g) (hc : 0 < c) (h : g * c = 18446744073709551616) : upV (n / g) (decide (9223372036854775808 < n % g * c)) (decide (n % g * c = 9223372036854775808)) = rnd n g := by
  have e1 : (9223372036854775808 < n % g * c) ↔ g < 2 * (n % g) := by
    have h1 : 9223372036854775808 < n % g * c ↔ g * c < 2 * (n % g) * c := by rw [Nat.mul_assoc]; omega
    rw [h1]
    exact Nat.mul_lt_mul_right hc
  have e2 : (n % g * c = 9223372036854775808) ↔ g = 2 * (n % g) := by
    have h1 : n % g * c = 9223372036854775808 ↔ g * c = 2 * (n % g) * c := by rw [Nat.mul_assoc]; omega
    rw [h1]
    exact ⟨fun h2 => Nat.eq_of_mul_eq_mul_right hc h2, fun h2 => by rw [← h2]⟩
  unfold upV rnd
  simp only [decide_eq_true_eq, e1, e2]
  split <;> rfl
theorem halved_any (n s : Nat) (h1 : 1 ≤ s) (h : s ≤ 64) (hn : n < 18446744073709551616) (w : World) : Calls Tryd.prog 34 #[.int .u64 n, .int .i64 s] w fun e w' => e = .returned (.int .u64 (rnd n (2 ^ s) : Nat)) ∧ w = w' := by
  have hg : 0 < 2 ^ s := Nat.pow_pos (by decide)
  have hc : 0 < 2 ^ (64 - s) := Nat.pow_pos (by decide)
  have hgc : 2 ^ s * 2 ^ (64 - s) = 18446744073709551616 := by
    rw [← Nat.pow_add, show s + (64 - s) = 64 by omega]
  have h2g : 2 ≤ 2 ^ s := by
    rw [show s = s - 1 + 1 by omega, Nat.pow_succ, Nat.mul_comm]
    exact Nat.mul_le_mul_left 2 (Nat.pow_pos (by decide))
  have hqle : n / 2 ^ s ≤ n / 2 := Nat.div_le_div_left (by omega) (show 0 < 2 by decide)
  rw [← rnd_up n (2 ^ s) (2 ^ (64 - s)) hg hc hgc]
  refine halved_walk n s (n / 2 ^ s) (n % 2 ^ s * 2 ^ (64 - s)) h1 h hn (by omega) w ?_ ?_
  · rcases Nat.lt_or_eq_of_le h with h3 | h3
    · exact .inl ⟨decide_eq_true (by omega), by rw [Int.natCast_ediv, Int.natCast_pow]; rfl⟩
    · refine .inr ⟨decide_eq_false (by omega), ?_⟩
      rw [h3]
      exact Nat.div_eq_of_lt hn
  · rw [IntKind.wrap_u64]
    have e : (n : Int) * 2 ^ (64 - s) = ((n * 2 ^ (64 - s) : Nat) : Int) := by rw [Int.natCast_mul, Int.natCast_pow]; rfl
    rw [e, ← Nat.mul_mod_mul_right, hgc]
    omega
theorem halved_far (n s : Nat) (h : 64 < s) (hs : s ≤ 5000) (w : World) : Calls Tryd.prog 34 #[.int .u64 n, .int .i64 s] w fun e w' => e = .returned (.int .u64 0) ∧ w = w' := by
  go_enter Tryd.func34, Tryd.ntmps34
  go_wp2
  go_ret
  exact ⟨rfl, rfl⟩
end Go.Proofs.YtddifbgdjdahfaaDoor.Real
