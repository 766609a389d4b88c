/- Floats in their order: place, ahead, same, minus, by the program and by the reference. No condition. -/
import Derived.Test.YtkkapajpgfjomaaReal
namespace Go.Proofs.Ytkkapajpgfjomaa.Real
open Go.ChangeShapes Go.WideShapes Go.ChangeAt Go.RowKit Go.Proofs.Ytkkapajpgfjomaa.Kit Go.Proofs.Ytkkapajpgfjomaa.Flt Go.Proofs.Ytkkapajpgfjomaa.Num Go.Deep
set_option linter.unusedVariables false
set_option linter.unusedSimpArgs false
/-- A float's place in the order. -/
def rankV (x : Nat) : Nat := if nanB x = true then 18446744073709551615 else if NEG x = true then 18446744073709551615 - x else x + 9223372036854775808
theorem rank_lt {x : Nat} (hx : x < 18446744073709551616) : rankV x < 18446744073709551616 := by
  unfold rankV NEG
  split
  · decide
  · split
    · omega
    · rename_i h
      have : ¬ x / 9223372036854775808 % 2 = 1 := by simpa using h
      omega
theorem neg_ge {x : Nat} (hx : x < 18446744073709551616) : (NEG x = true → 9223372036854775808 ≤ x) ∧ (NEG x = false → x < 9223372036854775808) := by
  unfold NEG
  constructor
  · intro h
    have := beq_iff_eq.1 h
    omega
  · intro h
    have := beq_eq_false_iff_ne.1 h
    omega
theorem flip_all (x : Nat) (hx : x < 18446744073709551616) : bits .xor .u64 IntKind.u64.max (x : Int) = 18446744073709551615 - (x : Int) := by
  have h1 := u64_xor_nat 18446744073709551615 x (by decide) hx
  have h2 : (BitVec.allOnes 64 ^^^ BitVec.ofNat 64 x).toNat = 18446744073709551615 ^^^ x := by
    rw [BitVec.toNat_xor, BitVec.toNat_allOnes, BitVec.toNat_ofNat, Nat.mod_eq_of_lt hx]
  rw [← BitVec.not_def, BitVec.toNat_not, BitVec.toNat_ofNat, Nat.mod_eq_of_lt hx] at h2
  have h3 : ((18446744073709551615 ^^^ x : Nat) : Int) = 18446744073709551615 - (x : Int) := by rw [← h2]; omega
  exact h1.trans h3
theorem rank_any (x : Nat) (hx : x < 18446744073709551616) (w : World) : Calls Try.prog 41 #[.float .f64 x] w fun e w' => e = .returned (.int .u64 (rankV x : Nat)) ∧ w = w' := by
  obtain ⟨g1, g2⟩ := neg_ge hx
  have cS := fun w => sign_any x hx w
  have f0 := feq_self x
  have hd : Hid (rankV x = if nanB x = true then 18446744073709551615 else if NEG x = true then 18446744073709551615 - x else x + 9223372036854775808) := hide rfl
  cases hn : nanB x
  · rw [hn] at f0 hd
    cases hs : NEG x
    · have hr : Hid (((rankV x : Nat) : Int) = (x : Int) + 9223372036854775808) := hide (by rw [hd.out, hs]; simp)
      have hx2 := g2 hs
      have hor : bits .or .u64 (x : Int) 9223372036854775808 = (x : Int) + 9223372036854775808 := (u64_or_nat x 9223372036854775808 (by omega) (by decide)).trans (by
        have := Nat.two_pow_add_eq_or_of_lt (i := 63) (b := x) (by simpa using hx2) 1
        rw [Nat.or_comm, ← show 2 ^ 63 * 1 = 9223372036854775808 by decide, ← this]
        omega)
      rw [hs] at cS
      clear g1 g2 hd
      go_enter Try.func41, Try.ntmps41
      go_wp2_with (first | (go_at_call 44; refine (cS _).mono ?_; rintro e w1 ⟨rfl, rfl⟩) | ((with_reducible change Code.wp _ (Code.region _ _ _) _ _ _); refine wp_region_quiet_below (by kernel_rfl) (by kernel_rfl) ?_; (repeat (first | go_big_quiet_step ((first | (go_at_call 44; exact Calls.regrown_of (below_of_same (cS _))))) | quiet_step ((first | (go_at_call 44; exact Calls.regrown_of (below_of_same (cS _))))))); refine wpQuiet_nil ?_; intro w1 hw1; have hb := below_of_regrown hw1; clear hw1; obtain ⟨hS, hE, hz, hc, hf⟩ := bcell hb; (try simp only [go_sem] at hE); subst hE))
      go_ret
      exact ⟨by rw [hr.out]; rfl, rfl⟩
    · have hr : Hid (((rankV x : Nat) : Int) = 18446744073709551615 - (x : Int)) := hide (by rw [hd.out, hs]; simp; omega)
      rw [hs] at cS
      have hfl := flip_all x hx
      clear g1 g2 hd
      go_enter Try.func41, Try.ntmps41
      go_wp2_with (first | (go_at_call 44; refine (cS _).mono ?_; rintro e w1 ⟨rfl, rfl⟩) | ((with_reducible change Code.wp _ (Code.region _ _ _) _ _ _); refine wp_region_quiet_below (by kernel_rfl) (by kernel_rfl) ?_; (repeat (first | go_big_quiet_step ((first | (go_at_call 44; exact Calls.regrown_of (below_of_same (cS _))))) | quiet_step ((first | (go_at_call 44; exact Calls.regrown_of (below_of_same (cS _))))))); refine wpQuiet_nil ?_; intro w1 hw1; have hb := below_of_regrown hw1; clear hw1; obtain ⟨hS, hE, hz, hc, hf⟩ := bcell hb; (try simp only [go_sem] at hE); subst hE))
      go_ret
      exact ⟨by rw [hr.out]; rfl, rfl⟩
  · rw [hn] at f0 hd
    have hr : Hid (((rankV x : Nat) : Int) = 18446744073709551615) := hide (by rw [hd.out]; simp)
    clear g1 g2 hd
    go_enter Try.func41, Try.ntmps41
    go_wp2_with (first | (go_at_call 44; refine (cS _).mono ?_; rintro e w1 ⟨rfl, rfl⟩) | ((with_reducible change Code.wp _ (Code.region _ _ _) _ _ _); refine wp_region_quiet_below (by kernel_rfl) (by kernel_rfl) ?_; (repeat (first | go_big_quiet_step ((first | (go_at_call 44; exact Calls.regrown_of (below_of_same (cS _))))) | quiet_step ((first | (go_at_call 44; exact Calls.regrown_of (below_of_same (cS _))))))); refine wpQuiet_nil ?_; intro w1 hw1; have hb := below_of_regrown hw1; clear hw1; obtain ⟨hS, hE, hz, hc, hf⟩ := bcell hb; (try simp only [go_sem] at hE); subst hE))
    go_ret
    exact ⟨by rw [hr.out]; rfl, rfl⟩
theorem ahead_any (x y : Nat) (hx : x < 18446744073709551616) (hy : y < 18446744073709551616) (w : World) : Calls Try.prog 33 #[.float .f64 x, .float .f64 y] w fun e w' => e = .returned (.bool (decide (rankV x < rankV y))) ∧ w = w' := by
  have c1 := fun w => rank_any x hx w
  have c2 := fun w => rank_any y hy w
  have e : Hid (decide (rankV x < rankV y) = decide ((rankV x : Int) < (rankV y : Int))) := hide (by simp)
  generalize decide (rankV x < rankV y) = b at *
  generalize rankV x = a at *
  generalize rankV y = c at *
  go_enter Try.func33, Try.ntmps33
  go_wp2_with (first | (go_at_call 41; (with_reducible refine (c1 _).mono ?_); rintro e w1 ⟨rfl, rfl⟩) | (go_at_call 41; (with_reducible refine (c2 _).mono ?_); rintro e w1 ⟨rfl, rfl⟩) | ((with_reducible change Code.wp _ (Code.region _ _ _) _ _ _); refine wp_region_quiet_below (by kernel_rfl) (by kernel_rfl) ?_; (repeat (first | go_big_quiet_step ((first | (go_at_call 41; (with_reducible refine Calls.regrown_of (below_of_same (c1 _)));) | (go_at_call 41; (with_reducible refine Calls.regrown_of (below_of_same (c2 _)));))) | quiet_step ((first | (go_at_call 41; (with_reducible refine Calls.regrown_of (below_of_same (c1 _)));) | (go_at_call 41; (with_reducible refine Calls.regrown_of (below_of_same (c2 _)));))))); refine wpQuiet_nil ?_; intro w1 hw1; have hb := below_of_regrown hw1; clear hw1; obtain ⟨hS, hE, hz, hc, hf⟩ := bcell hb; (try simp only [go_sem] at hE); subst hE))
  go_ret
  exact ⟨by rw [e.out]; first | rfl | simp, rfl⟩
theorem class_nan (x : Nat) : (classS x == 1) = nanB x := by
  unfold classS
  cases nanB x
  · rw [if_neg (by decide)]
    repeat' split
    all_goals rfl
  · rfl
theorem rrank_any (x : Nat) (hx : x < 18446744073709551616) (w : World) : Calls Try.prog 34 #[.int .u64 x] w fun e w' => e = .returned (.int .u64 (rankV x : Nat)) ∧ w = w' := by
  obtain ⟨g1, g2⟩ := neg_ge hx
  have cC := fun w => rclass_any x hx w
  have f0 := class_nan x
  have hd : Hid (rankV x = if nanB x = true then 18446744073709551615 else if NEG x = true then 18446744073709551615 - x else x + 9223372036854775808) := hide rfl
  generalize classS x = c at *
  cases hn : nanB x
  · rw [hn] at f0 hd
    cases hs : NEG x
    · have hr : Hid (((rankV x : Nat) : Int) = (x : Int) + 9223372036854775808) := hide (by rw [hd.out, hs]; simp)
      have hx2 := g2 hs
      have q0 : (x : Int) / 9223372036854775808 = 0 := by omega
      clear g1 g2 hd
      go_enter Try.func34, Try.ntmps34
      go_wp2_with (first | (go_at_call 37; refine (cC _).mono ?_; rintro e w1 ⟨rfl, rfl⟩) | ((with_reducible change Code.wp _ (Code.region _ _ _) _ _ _); refine wp_region_quiet_below (by kernel_rfl) (by kernel_rfl) ?_; (repeat (first | go_big_quiet_step ((first | (go_at_call 37; exact Calls.regrown_of (below_of_same (cC _))))) | quiet_step ((first | (go_at_call 37; exact Calls.regrown_of (below_of_same (cC _))))))); refine wpQuiet_nil ?_; intro w1 hw1; have hb := below_of_regrown hw1; clear hw1; obtain ⟨hS, hE, hz, hc, hf⟩ := bcell hb; (try simp only [go_sem] at hE); subst hE))
      go_ret
      exact ⟨by rw [hr.out]; go_num, rfl⟩
    · have hr : Hid (((rankV x : Nat) : Int) = 18446744073709551615 - (x : Int)) := hide (by rw [hd.out, hs]; simp; omega)
      have hx2 := g1 hs
      have q0 : (x : Int) / 9223372036854775808 = 1 := by omega
      have q1 : (x : Int) % 9223372036854775808 = (x : Int) - 9223372036854775808 := by omega
      clear g1 g2 hd
      go_enter Try.func34, Try.ntmps34
      go_wp2_with (first | (go_at_call 37; refine (cC _).mono ?_; rintro e w1 ⟨rfl, rfl⟩) | ((with_reducible change Code.wp _ (Code.region _ _ _) _ _ _); refine wp_region_quiet_below (by kernel_rfl) (by kernel_rfl) ?_; (repeat (first | go_big_quiet_step ((first | (go_at_call 37; exact Calls.regrown_of (below_of_same (cC _))))) | quiet_step ((first | (go_at_call 37; exact Calls.regrown_of (below_of_same (cC _))))))); refine wpQuiet_nil ?_; intro w1 hw1; have hb := below_of_regrown hw1; clear hw1; obtain ⟨hS, hE, hz, hc, hf⟩ := bcell hb; (try simp only [go_sem] at hE); subst hE))
      go_ret
      exact ⟨by rw [hr.out]; go_num, rfl⟩
  · rw [hn] at f0 hd
    have hr : Hid (((rankV x : Nat) : Int) = 18446744073709551615) := hide (by rw [hd.out]; simp)
    clear g1 g2 hd
    go_enter Try.func34, Try.ntmps34
    go_wp2_with (first | (go_at_call 37; refine (cC _).mono ?_; rintro e w1 ⟨rfl, rfl⟩) | ((with_reducible change Code.wp _ (Code.region _ _ _) _ _ _); refine wp_region_quiet_below (by kernel_rfl) (by kernel_rfl) ?_; (repeat (first | go_big_quiet_step ((first | (go_at_call 37; exact Calls.regrown_of (below_of_same (cC _))))) | quiet_step ((first | (go_at_call 37; exact Calls.regrown_of (below_of_same (cC _))))))); refine wpQuiet_nil ?_; intro w1 hw1; have hb := below_of_regrown hw1; clear hw1; obtain ⟨hS, hE, hz, hc, hf⟩ := bcell hb; (try simp only [go_sem] at hE); subst hE))
    go_ret
    exact ⟨by rw [hr.out]; rfl, rfl⟩
end Go.Proofs.Ytkkapajpgfjomaa.Real
