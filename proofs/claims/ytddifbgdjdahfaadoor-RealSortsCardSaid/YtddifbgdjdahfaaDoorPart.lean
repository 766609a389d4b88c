/- An odd number and a power of 2 of a float, by the program and by the reference. Condition: the library's table is in place (for the program's). -/
import Derived.Test.YtddifbgdjdahfaaDoorReal
import Derived.LoopTactic
namespace Go.Proofs.YtddifbgdjdahfaaDoor.Real
open Go.ChangeShapes Go.WideShapes Go.ChangeAt Go.RowKit Go.Proofs.YtddifbgdjdahfaaDoor.Kit Go.Proofs.YtddifbgdjdahfaaDoor.Flt Go.Deep
set_option linter.unusedVariables false
set_option linter.unusedSimpArgs false
/-- A float's number, and the power of its last bit, above the least one. -/
def manM (x : Nat) : Nat := if rg x < 4503599627370496 then rg x else 4503599627370496 + rg x % 4503599627370496
def expE (x : Nat) : Nat := if rg x < 4503599627370496 then 0 else rg x / 4503599627370496 - 1
def tzM (x : Nat) : Nat := Lib.ctz 64 (manM x)
def oddM (x : Nat) : Nat := manM x / 2 ^ tzM x
def partsV (x : Nat) : Int × Int := if classS x < 4 then (0, 0) else (sg (NEG x) (oddM x), -1074 + ((expE x + tzM x : Nat) : Int))
theorem class_full {x : Nat} (h : ¬ classS x < 4) : rg x < 9218868437227405312 ∧ rg x ≠ 0 ∧ ((classS x = 4 ∧ rg x < 4503599627370496) ∨ (classS x = 5 ∧ 4503599627370496 ≤ rg x)) := by
  unfold classS at h ⊢
  cases hn : nanB x
  · rw [hn] at h
    have h2 : ¬ 9218868437227405312 < rg x := of_decide_eq_false hn
    simp only [Bool.false_eq_true, if_false] at h ⊢
    by_cases h3 : rg x = 9218868437227405312
    · rw [if_pos h3] at h; omega
    · rw [if_neg h3] at h ⊢
      by_cases h4 : rg x = 0
      · rw [if_pos h4] at h; omega
      · rw [if_neg h4] at h ⊢
        by_cases h5 : rg x < 4503599627370496
        · rw [if_pos h5]; exact ⟨by omega, h4, .inl ⟨rfl, h5⟩⟩
        · rw [if_neg h5]; exact ⟨by omega, h4, .inr ⟨rfl, by omega⟩⟩
  · rw [hn] at h
    simp at h
theorem man_pos {x : Nat} (h : rg x ≠ 0) : manM x ≠ 0 ∧ manM x < 9007199254740992 := by
  unfold manM
  split <;> omega
theorem man_split {x : Nat} (h : rg x ≠ 0) : ∃ m, manM x = 2 ^ tzM x * (2 * m + 1) ∧ oddM x = 2 * m + 1 ∧ tzM x < 53 := by
  obtain ⟨h1, h2⟩ := man_pos h
  obtain ⟨m, hm, _⟩ := Lib.ctzFrom_spec 64 (manM x) (by omega) (by omega)
  have e : tzM x = Lib.ctzFrom 64 (manM x) := by unfold tzM Lib.ctz; rw [if_neg h1]
  rw [← e] at hm
  have hp : 0 < 2 ^ tzM x := Nat.pow_pos (by decide)
  refine ⟨m, hm, ?_, ?_⟩
  · unfold oddM
    rw [hm, Nat.mul_div_cancel_left _ hp]
  · apply Nat.lt_of_not_le
    intro h3
    have h4 := Nat.pow_le_pow_right (show 0 < 2 by decide) h3
    have h5 : 2 ^ tzM x * 1 ≤ 2 ^ tzM x * (2 * m + 1) := Nat.mul_le_mul_left _ (by omega)
    have h6 : (2 : Nat) ^ 53 = 9007199254740992 := by decide
    omega
theorem shr_eq (x : Nat) (hx : x < 18446744073709551616) : x / 4503599627370496 % 2048 = rg x / 4503599627370496 := by
  unfold rg
  omega
theorem low_eq (x : Nat) : x % 4503599627370496 = rg x % 4503599627370496 := by
  unfold rg
  omega
theorem odd_shr (x : Nat) : manM x >>> tzM x = oddM x := by
  unfold oddM
  exact Nat.shiftRight_eq_div_pow _ _
set_option maxHeartbeats 2000000 in
theorem parts_walk (x m e k o l : Nat) (hx : x < 18446744073709551616) (w : World) (hf : classS x = 5)
    (b1 : bits .and .u64 (x : Int) 4503599627370495 = (l : Int)) (b2 : bits .or .u64 (l : Int) 4503599627370496 = (m : Int))
    (b3 : bits .and .u64 ((x : Int) / 4503599627370496) 2047 = (e : Int) + 1) (he : e ≤ 2046) (hk : k < 64) (hT : ∀ w', w = w' → Calls Tryd.prog 26 #[.int .u64 m] w' fun e w'' => e = .returned (.int .i64 k) ∧ w' = w'') (hm : m < 9007199254740992) (ho : Hid ((m : Int) / 2 ^ k = (o : Int))) (ho2 : o < 9007199254740992) :
    Calls Tryd.prog 8 #[.float .f64 x] w fun e' w' => e' = .returned (.tuple #[.int .i64 (sg (NEG x) o), .int .i64 (-1074 + ((e + k : Nat) : Int))]) ∧ w = w' := by
  have hC := fun w => class_any x hx w
  have hS := fun w => sign_any x hx w
  rw [hf] at hC
  have HF := hide (show sg (NEG x) o = if NEG x = true then -(o : Int) else o from rfl)
  go_enter Tryd.func8, Tryd.ntmps8
  go_wp2_with (first | (go_at_call 11; refine (hC _).mono ?_; rintro e w1 ⟨rfl, rfl⟩) | ((with_reducible change Code.wp _ (Code.region _ _ _) _ _ _); refine wp_region_quiet_below (by kernel_rfl) (by kernel_rfl) ?_; (repeat (first | go_big_quiet_step ((first | (go_at_call 11; exact Calls.regrown_of (below_of_same (hC _))))) | quiet_step ((first | (go_at_call 11; exact Calls.regrown_of (below_of_same (hC _))))))); refine wpQuiet_nil ?_; intro w1 hw1; have hb := below_of_regrown hw1; clear hw1; obtain ⟨hS, hE, hz, hc, hf⟩ := bcell hb; (try simp only [go_sem] at hE); subst hE))
  clear b1 b2 b3
  go_wp2_with (first | (go_at_call 26; refine (hT _ rfl).mono ?_; rintro e w1 ⟨rfl, rfl⟩) | ((with_reducible change Code.wp _ (Code.region _ _ _) _ _ _); refine wp_region_quiet_below (by kernel_rfl) (by kernel_rfl) ?_; (repeat (first | go_big_quiet_step ((first | (go_at_call 26; exact Calls.regrown_of (below_of_same (hT _ rfl))))) | quiet_step ((first | (go_at_call 26; exact Calls.regrown_of (below_of_same (hT _ rfl))))))); refine wpQuiet_nil ?_; intro w1 hw1; have hb := below_of_regrown hw1; clear hw1; obtain ⟨hS, hE, hz, hc, hf⟩ := bcell hb; (try simp only [go_sem] at hE); subst hE))
  have hw : Hid (wrap64 (o : Int) = o) := IntWalk.wrap64_in _ ⟨by omega, by omega⟩
  simp only [ho.out, hw.out]
  clear ho hw hT
  have HS : (NEG x = true ∧ Hid (sg (NEG x) o = -(o : Int))) ∨ (NEG x = false ∧ Hid (sg (NEG x) o = o)) := by
    unfold sg
    cases NEG x
    · exact .inr ⟨rfl, rfl⟩
    · exact .inl ⟨rfl, rfl⟩
  rcases HS with ⟨hn, HS⟩ | ⟨hn, HS⟩
  all_goals
    rw [hn] at hS
    go_wp2_with (first | (go_at_call 27; refine (hS _).mono ?_; rintro e w1 ⟨rfl, rfl⟩) | ((with_reducible change Code.wp _ (Code.region _ _ _) _ _ _); refine wp_region_quiet_below (by kernel_rfl) (by kernel_rfl) ?_; (repeat (first | go_big_quiet_step ((first | (go_at_call 27; exact Calls.regrown_of (below_of_same (hS _))))) | quiet_step ((first | (go_at_call 27; exact Calls.regrown_of (below_of_same (hS _))))))); refine wpQuiet_nil ?_; intro w1 hw1; have hb := below_of_regrown hw1; clear hw1; obtain ⟨hS, hE, hz, hc, hf⟩ := bcell hb; (try simp only [go_sem] at hE); subst hE))
    go_ret2
    refine ⟨?_, rfl⟩
    rw [HS.out, Int.natCast_add, ← Int.add_assoc]
    rfl
set_option maxHeartbeats 2000000 in
theorem parts_small (x k o l : Nat) (hx : x < 18446744073709551616) (w : World) (hf : classS x = 4)
    (b1 : bits .and .u64 (x : Int) 4503599627370495 = (l : Int)) (hk : k < 64) (hT : ∀ w', w = w' → Calls Tryd.prog 26 #[.int .u64 l] w' fun e w'' => e = .returned (.int .i64 k) ∧ w' = w'') (ho : Hid ((l : Int) / 2 ^ k = (o : Int))) (ho2 : o < 9007199254740992) :
    Calls Tryd.prog 8 #[.float .f64 x] w fun e' w' => e' = .returned (.tuple #[.int .i64 (sg (NEG x) o), .int .i64 (-1074 + (k : Int))]) ∧ w = w' := by
  have hC := fun w => class_any x hx w
  have hS := fun w => sign_any x hx w
  rw [hf] at hC
  go_enter Tryd.func8, Tryd.ntmps8
  go_wp2_with (first | (go_at_call 11; refine (hC _).mono ?_; rintro e w1 ⟨rfl, rfl⟩) | ((with_reducible change Code.wp _ (Code.region _ _ _) _ _ _); refine wp_region_quiet_below (by kernel_rfl) (by kernel_rfl) ?_; (repeat (first | go_big_quiet_step ((first | (go_at_call 11; exact Calls.regrown_of (below_of_same (hC _))))) | quiet_step ((first | (go_at_call 11; exact Calls.regrown_of (below_of_same (hC _))))))); refine wpQuiet_nil ?_; intro w1 hw1; have hb := below_of_regrown hw1; clear hw1; obtain ⟨hS, hE, hz, hc, hf⟩ := bcell hb; (try simp only [go_sem] at hE); subst hE))
  clear b1
  go_wp2_with (first | (go_at_call 26; refine (hT _ rfl).mono ?_; rintro e w1 ⟨rfl, rfl⟩) | ((with_reducible change Code.wp _ (Code.region _ _ _) _ _ _); refine wp_region_quiet_below (by kernel_rfl) (by kernel_rfl) ?_; (repeat (first | go_big_quiet_step ((first | (go_at_call 26; exact Calls.regrown_of (below_of_same (hT _ rfl))))) | quiet_step ((first | (go_at_call 26; exact Calls.regrown_of (below_of_same (hT _ rfl))))))); refine wpQuiet_nil ?_; intro w1 hw1; have hb := below_of_regrown hw1; clear hw1; obtain ⟨hS, hE, hz, hc, hf⟩ := bcell hb; (try simp only [go_sem] at hE); subst hE))
  have hw : Hid (wrap64 (o : Int) = o) := IntWalk.wrap64_in _ ⟨by omega, by omega⟩
  simp only [ho.out, hw.out]
  clear ho hw hT
  have HS : (NEG x = true ∧ Hid (sg (NEG x) o = -(o : Int))) ∨ (NEG x = false ∧ Hid (sg (NEG x) o = o)) := by
    unfold sg
    cases NEG x
    · exact .inr ⟨rfl, rfl⟩
    · exact .inl ⟨rfl, rfl⟩
  rcases HS with ⟨hn, HS⟩ | ⟨hn, HS⟩
  all_goals
    rw [hn] at hS
    go_wp2_with (first | (go_at_call 27; refine (hS _).mono ?_; rintro e w1 ⟨rfl, rfl⟩) | ((with_reducible change Code.wp _ (Code.region _ _ _) _ _ _); refine wp_region_quiet_below (by kernel_rfl) (by kernel_rfl) ?_; (repeat (first | go_big_quiet_step ((first | (go_at_call 27; exact Calls.regrown_of (below_of_same (hS _))))) | quiet_step ((first | (go_at_call 27; exact Calls.regrown_of (below_of_same (hS _))))))); refine wpQuiet_nil ?_; intro w1 hw1; have hb := below_of_regrown hw1; clear hw1; obtain ⟨hS, hE, hz, hc, hf⟩ := bcell hb; (try simp only [go_sem] at hE); subst hE))
    go_ret2
    refine ⟨?_, rfl⟩
    rw [HS.out]
    rfl
theorem parts_none (x : Nat) (hx : x < 18446744073709551616) (w : World) (hf : classS x < 4) :
    Calls Tryd.prog 8 #[.float .f64 x] w fun e' w' => e' = .returned (.tuple #[.int .i64 0, .int .i64 0]) ∧ w = w' := by
  have hC := fun w => class_any x hx w
  generalize classS x = c at *
  go_enter Tryd.func8, Tryd.ntmps8
  go_wp2_with (first | (go_at_call 11; refine (hC _).mono ?_; rintro e w1 ⟨rfl, rfl⟩) | ((with_reducible change Code.wp _ (Code.region _ _ _) _ _ _); refine wp_region_quiet_below (by kernel_rfl) (by kernel_rfl) ?_; (repeat (first | go_big_quiet_step ((first | (go_at_call 11; exact Calls.regrown_of (below_of_same (hC _))))) | quiet_step ((first | (go_at_call 11; exact Calls.regrown_of (below_of_same (hC _))))))); refine wpQuiet_nil ?_; intro w1 hw1; have hb := below_of_regrown hw1; clear hw1; obtain ⟨hS, hE, hz, hc, hf⟩ := bcell hb; (try simp only [go_sem] at hE); subst hE))
  go_ret2
  exact ⟨rfl, rfl⟩
theorem and_low (x : Nat) (hx : x < 18446744073709551616) : bits .and .u64 (x : Int) 4503599627370495 = ((rg x % 4503599627370496 : Nat) : Int) := by
  refine (bits_and_u64_nat x 4503599627370495 hx (by decide)).trans ?_
  rw [← low_eq]
  exact congrArg _ (Nat.and_two_pow_sub_one_eq_mod x 52)
theorem or_top (l : Nat) (hl : l < 4503599627370496) : bits .or .u64 (l : Int) 4503599627370496 = ((4503599627370496 + l : Nat) : Int) := by
  refine (bits_or_u64_nat l 4503599627370496 (by omega) (by decide)).trans ?_
  congr 1
  have := Nat.two_pow_add_eq_or_of_lt (i := 52) (b := l) (by simpa using hl) 1
  rw [Nat.or_comm]
  simpa using this.symm
theorem and_exp (x : Nat) (hx : x < 18446744073709551616) : bits .and .u64 ((x : Int) / 4503599627370496) 2047 = ((rg x / 4503599627370496 : Nat) : Int) := by
  have e : (x : Int) / 4503599627370496 = ((x / 4503599627370496 : Nat) : Int) := by omega
  rw [e]
  refine (bits_and_u64_nat (x / 4503599627370496) 2047 (by omega) (by decide)).trans ?_
  rw [← shr_eq x hx]
  exact congrArg _ (Nat.and_two_pow_sub_one_eq_mod (x / 4503599627370496) 11)
theorem parts_any (x : Nat) (hx : x < 18446744073709551616) (w : World) (h : TabW w) :
    Calls Tryd.prog 8 #[.float .f64 x] w fun e' w' => e' = .returned (.tuple #[.int .i64 (partsV x).1, .int .i64 (partsV x).2]) ∧ w = w' := by
  by_cases hc : classS x < 4
  · have e : partsV x = (0, 0) := if_pos hc
    rw [e]
    exact parts_none x hx w hc
  · have e : partsV x = (sg (NEG x) (oddM x), -1074 + ((expE x + tzM x : Nat) : Int)) := if_neg hc
    rw [e]
    obtain ⟨c1, c2, c3⟩ := class_full hc
    obtain ⟨m, h1, h2, h3⟩ := man_split c2
    obtain ⟨p1, p2⟩ := man_pos c2
    have ho : Hid ((manM x : Int) / 2 ^ tzM x = (oddM x : Int)) := by
      unfold oddM
      rw [Int.natCast_ediv, Int.natCast_pow]
      rfl
    have ho2 : oddM x < 9007199254740992 := Nat.lt_of_le_of_lt (Nat.div_le_self _ _) p2
    have hT : ∀ w', w = w' → Calls Tryd.prog 26 #[.int .u64 (manM x)] w' fun e w'' => e = .returned (.int .i64 (tzM x)) ∧ w' = w'' := fun w' hw => tz_any (manM x) (by omega) p1 w' (hw ▸ h)
    rcases c3 with ⟨hf, hr⟩ | ⟨hf, hr⟩
    · have em : manM x = rg x := if_pos hr
      have ee : expE x = 0 := if_pos hr
      rw [ee, Nat.zero_add]
      refine parts_small x (tzM x) (oddM x) (manM x) hx w hf ?_ (by omega) hT ho ho2
      rw [and_low x hx, em, Nat.mod_eq_of_lt hr]
    · have em : manM x = 4503599627370496 + rg x % 4503599627370496 := if_neg (by omega)
      have ee : expE x = rg x / 4503599627370496 - 1 := if_neg (by omega)
      refine parts_walk x (manM x) (expE x) (tzM x) (oddM x) (rg x % 4503599627370496) hx w hf (and_low x hx) ?_ ?_ (by omega) (by omega) hT p2 ho ho2
      · rw [or_top _ (Nat.mod_lt _ (by decide)), em]
      · rw [and_exp x hx, ee]
        omega
end Go.Proofs.YtddifbgdjdahfaaDoor.Real
