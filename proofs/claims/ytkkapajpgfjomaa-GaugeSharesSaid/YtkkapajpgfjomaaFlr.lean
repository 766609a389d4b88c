/- Whole parts of floats, products with whole numbers, and how they stand to whole numbers: plain. No condition. -/
import Derived.Test.YtkkapajpgfjomaaGb
import Derived.Test.YtkkapajpgfjomaaMicP
namespace Go.Proofs.Ytkkapajpgfjomaa.Gauge
open Go.ChangeShapes Go.WideShapes Go.ChangeAt Go.RowKit Go.Proofs.Ytkkapajpgfjomaa.Kit Go.Proofs.Ytkkapajpgfjomaa.Flt Go.Proofs.Ytkkapajpgfjomaa.Real
open Ieee
set_option linter.unusedVariables false
/-- A float from 0 to 1000 (or the negative nought). -/
def VOk (v : Nat) : Prop := v < 18446744073709551616 ∧ rg v ≤ 4652007308841189376 ∧ (NEG v = false ∨ rg v = 0)
theorem VOk.nan {v : Nat} (h : VOk v) : nanB v = false := by
  obtain ⟨_, h2, _⟩ := h
  exact decide_eq_false (by omega)
/-- Its whole part. -/
def floorV (v : Nat) : Nat := if rg v < 4607182418800017408 then 0 else (4503599627370496 + rg v % 4503599627370496) / 2 ^ (1075 - rg v / 4503599627370496)
theorem place {v : Nat} (h : VOk v) (h1 : ¬ rg v < 4607182418800017408) : ∃ e s : Nat, e ≤ 9 ∧ s + e = 52 ∧ 1075 - rg v / 4503599627370496 = s ∧ rg v / 4503599627370496 = e + 1023 := by
  obtain ⟨_, h2, _⟩ := h
  exact ⟨rg v / 4503599627370496 - 1023, 1075 - rg v / 4503599627370496, by omega, by omega, rfl, by omega⟩
theorem pow_div {s e : Nat} (h : s + e = 52) : 2 ^ s * 2 ^ e = 4503599627370496 := by rw [← Nat.pow_add, h]
theorem word_pos {v : Nat} (h : NEG v = false) (hv : v < 18446744073709551616) : v = rg v := by
  have := (neg_ge hv).2 h
  exact (Nat.mod_eq_of_lt this).symm
theorem cut_zero (neg : Bool) (n drop : Nat) : Toward.zero.cut neg n drop = n / 2 ^ drop := by
  unfold Toward.cut
  simp only [Nat.shiftLeft_eq, Nat.one_mul, Bool.toNat_false, Nat.add_zero]
  by_cases h : drop ≤ n.log2 + 2
  · rw [Nat.min_eq_left h]
  · rw [Nat.min_eq_right (by omega)]
    have hn : n < 2 ^ (n.log2 + 1) := Nat.lt_log2_self
    have h1 : 2 ^ (n.log2 + 1) ≤ 2 ^ (n.log2 + 2) := Nat.pow_le_pow_right (by decide) (by omega)
    have h2 : 2 ^ (n.log2 + 2) ≤ 2 ^ drop := Nat.pow_le_pow_right (by decide) (by omega)
    rw [Nat.div_eq_of_lt (by omega), Nat.div_eq_of_lt (by omega)]
theorem floor_lt {v : Nat} (h : VOk v) : floorV v < 1024 := by
  unfold floorV
  split
  · decide
  · rename_i h1
    obtain ⟨e, s, he, hs, h2, h3⟩ := place h h1
    rw [h2]
    refine (Nat.div_lt_iff_lt_mul (Nat.pow_pos (by decide))).2 ?_
    have h4 : 2 ^ 43 ≤ 2 ^ s := Nat.pow_le_pow_right (by decide) (by omega)
    have h5 : (2 : Nat) ^ 43 = 8796093022208 := by decide
    omega
/-- The rung of a whole number. -/
theorem int_rung (m : Nat) (h1 : 1 ≤ m) (h2 : m ≤ 1023) : ∃ j : Nat, j ≤ 52 ∧ 43 ≤ j ∧ 4503599627370496 ≤ m * 2 ^ j ∧ m * 2 ^ j < 9007199254740992 ∧ rungOf m 0 = (1074 - j) * 4503599627370496 + m * 2 ^ j := by
  have hl : m.log2 ≤ 9 := by
    have := (Nat.log2_lt (by omega)).2 (show m < 2 ^ 10 by omega)
    omega
  have l1 := Nat.log2_self_le (show m ≠ 0 by omega)
  have l2 := Nat.lt_log2_self (n := m)
  generalize m.log2 = l at *
  have hlj : l + (52 - l) = 52 := by omega
  have hj43 : 43 ≤ 52 - l := by omega
  have hj52 : 52 - l ≤ 52 := by omega
  generalize 52 - l = j at *
  have e52 : (2 : Nat) ^ (l + j) = 4503599627370496 := by rw [hlj]
  rw [Nat.pow_add] at e52
  have hj0 : 0 < 2 ^ j := Nat.pow_pos (by decide)
  have k1 : 4503599627370496 ≤ m * 2 ^ j := by rw [← e52]; exact Nat.mul_le_mul_right _ l1
  have k2 : m * 2 ^ j < 9007199254740992 := by
    have := Nat.mul_lt_mul_of_pos_right l2 hj0
    rw [Nat.pow_succ, Nat.mul_right_comm, e52] at this
    exact this
  refine ⟨j, hj52, hj43, k1, k2, ?_⟩
  have e1 := rungOf_scale m j (-1074 + ((1074 - j : Nat) : Int))
  rw [show -1074 + ((1074 - j : Nat) : Int) + (j : Int) = 0 by omega] at e1
  rw [← e1]
  exact rung_full _ _ k1 (by omega) (by omega)
theorem word_f (r : Nat) : word false r = r := rfl
theorem int_float (m : Nat) : floatOfInt .f64 (m : Int) = rungOf m 0 := by
  rw [of_int, decide_eq_false (by omega), Int.natAbs_natCast]
  exact word_f _
theorem ge_int {v m : Nat} (h : VOk v) (h1 : 1 ≤ m) (h2 : m ≤ 1000) : fleB (floatOfInt .f64 (m : Int)) v = decide (m ≤ floorV v) := by
  obtain ⟨j, j1, j2, k1, k2, hR⟩ := int_rung m h1 (by omega)
  have hRl : rungOf m 0 < 9218868437227405312 := by omega
  have hw := word_facts false (rungOf m 0) (by omega)
  rw [word_f] at hw
  have hn0 : nanB (rungOf m 0) = false := by unfold nanB; rw [hw.2]; exact decide_eq_false (by omega)
  have hk0 : key (rungOf m 0) = (rungOf m 0 : Int) := by unfold key sg; rw [hw.1, hw.2, if_neg (by decide)]
  have hv := h.nan
  rw [int_float]
  generalize rungOf m 0 = R at *
  unfold fleB
  rw [hn0, hv, hk0]
  simp only [Bool.not_false, Bool.true_and]
  refine decide_eq_decide.2 ?_
  have hkv : key v = (rg v : Int) := by
    rcases h.2.2 with hs | hs
    · unfold key sg; rw [hs]; rfl
    · unfold key sg; rw [hs]; split <;> rfl
  rw [hkv]
  unfold floorV
  by_cases hv1 : rg v < 4607182418800017408
  · rw [if_pos hv1]
    omega
  · rw [if_neg hv1]
    obtain ⟨e, s, he, hs, hp1, hp2⟩ := place h hv1
    rw [hp1]
    have hr := h.2.1
    generalize rg v = r at *
    have hp0 : 0 < 2 ^ s := Nat.pow_pos (by decide)
    rw [Nat.le_div_iff_mul_le hp0]
    rcases Nat.lt_trichotomy s j with hsj | hsj | hsj
    · have e1 : 2 ^ (s + 1) ≤ 2 ^ j := Nat.pow_le_pow_right (by decide) hsj
      rw [Nat.pow_succ] at e1
      have e2 := Nat.mul_le_mul_left m e1
      rw [← Nat.mul_assoc] at e2
      generalize m * 2 ^ s = u at *
      generalize m * 2 ^ j = t at *
      omega
    · subst hsj
      generalize m * 2 ^ s = u at *
      omega
    · have e1 : 2 ^ (j + 1) ≤ 2 ^ s := Nat.pow_le_pow_right (by decide) hsj
      rw [Nat.pow_succ] at e1
      have e2 := Nat.mul_le_mul_left m e1
      rw [← Nat.mul_assoc] at e2
      generalize m * 2 ^ s = u at *
      generalize m * 2 ^ j = t at *
      omega
theorem magR_one : ∃ E : Nat, E = 1074 ∧ magR 4607182418800017408 = 2 ^ E := ⟨1074, rfl, by decide +kernel⟩
theorem rung_1000 : rungOf 1000 0 = 4652007308841189376 := by decide +kernel
/-- The product of a float from 0 to 1 and a whole number. -/
theorem mul_ok {f n : Nat} (h0 : fleB 0 f = true) (h1 : fleB f 4607182418800017408 = true) (hn : 1 ≤ n) (hn2 : n ≤ 1000) : ∃ v, double.mul f (floatOfInt .f64 (n : Int)) = some v ∧ VOk v := by
  unfold fleB at h0 h1
  rw [Bool.and_eq_true, Bool.and_eq_true] at h0 h1
  have hnf : nanB f = false := by simpa using h1.1.1
  have k0 := of_decide_eq_true h0.2
  have k1 := of_decide_eq_true h1.2
  rw [show key 0 = 0 by decide] at k0
  rw [show key 4607182418800017408 = 4607182418800017408 by decide] at k1
  have hs : rg f ≤ 4607182418800017408 ∧ (NEG f = false ∨ rg f = 0) := by
    unfold key sg at k0 k1
    cases hN : NEG f
    · rw [hN] at k0 k1
      simp at k0 k1
      exact ⟨by omega, .inl rfl⟩
    · rw [hN] at k0 k1
      simp at k0 k1
      exact ⟨by omega, .inr (by omega)⟩
  obtain ⟨hr, hz⟩ := hs
  obtain ⟨j, j1, j2, q1, q2, hR⟩ := int_rung n hn (by omega)
  have hw := word_facts false (rungOf n 0) (by omega)
  rw [word_f] at hw
  obtain ⟨m, a, e1, e2⟩ := read_fin f (by omega)
  obtain ⟨mn, b, e3, e4⟩ := read_fin (rungOf n 0) (by rw [hw.2]; omega)
  rw [hw.1] at e3
  rw [hw.2] at e4
  have hmul : double.mul f (floatOfInt .f64 (n : Int)) = some (word (NEG f) (rungOf (m * mn) (-1074 + (a : Int) + (-1074 + (b : Int))))) := by
    unfold Format.mul
    rw [int_float, e1, e3]
    have e5 : (Datum.number (NEG f) m (-1074 + (a : Int))).product (.number false mn (-1074 + (b : Int))) = some (.number (NEG f) (m * mn) (-1074 + (a : Int) + (-1074 + (b : Int)))) := by
      show some (Datum.number (NEG f ^^ false) (m * mn) _) = _
      rw [Bool.xor_false]
    rw [e5, Option.map_some]
    exact congrArg some (nearest_eq _ _ _)
  have hle : rungOf (m * mn) (-1074 + (a : Int) + (-1074 + (b : Int))) ≤ 4652007308841189376 := by
    have s1 : rungOf (m * mn * 2 ^ a) (-1074 + (-1074 + (b : Int))) = rungOf (m * mn) (-1074 + (a : Int) + (-1074 + (b : Int))) := by
      rw [rungOf_scale]
      congr 1
      omega
    rw [← s1, Nat.mul_right_comm, e2]
    obtain ⟨E, hE, hE2⟩ := magR_one
    have s2 : magR (rg f) ≤ 2 ^ E := by
      rw [← hE2]
      rcases Nat.lt_or_eq_of_le hr with h | h
      · exact Nat.le_of_lt ((magR_iff _ _).2 h)
      · rw [h]
        exact Nat.le_refl _
    refine Nat.le_trans (rungOf_mono (Nat.mul_le_mul_right mn s2) _) ?_
    rw [Nat.mul_comm, rungOf_scale, show -1074 + (-1074 + (b : Int)) + (E : Int) = -1074 + (b : Int) by omega, ← rungOf_scale, e4, rungOf_magR _ (by omega), ← rung_1000]
    exact rungOf_mono hn2 0
  obtain ⟨w1, w2⟩ := word_facts (NEG f) (rungOf (m * mn) (-1074 + (a : Int) + (-1074 + (b : Int)))) (by omega)
  refine ⟨_, hmul, ?_, by rw [w2]; exact hle, ?_⟩
  · unfold word
    split <;> omega
  · rcases hz with hz | hz
    · exact .inl (w1.trans hz)
    · right
      rw [w2]
      rw [hz, magR_zero] at e2
      have hm : m = 0 := by
        rcases Nat.mul_eq_zero.1 e2 with h | h
        · exact h
        · exact absurd h (Nat.ne_of_gt (Nat.pow_pos (by decide)))
      rw [hm, Nat.zero_mul]
      rfl
theorem cut_down (n drop : Nat) : Toward.down.cut false n drop = n / 2 ^ drop := cut_zero false n drop
theorem cut_down0 (drop : Nat) : Toward.down.cut true 0 drop = 0 := by
  unfold Toward.cut
  simp
/-- A float made whole. -/
theorem whole {v : Nat} (h : VOk v) : ∃ s : Bool, (double.read v).integral .down = .number s (floorV v) 0 ∧ (s = true → floorV v = 0) := by
  by_cases h1 : rg v < 4607182418800017408
  · have hz : floorV v = 0 := if_pos h1
    obtain ⟨m, a, e1, e2⟩ := read_fin v (by omega)
    rw [hz, e1]
    refine ⟨NEG v, ?_, fun _ => rfl⟩
    show Datum.number (NEG v) (Toward.down.cut (NEG v) (m <<< (-1074 + (a : Int)).toNat) (-(-1074 + (a : Int))).toNat) 0 = _
    obtain ⟨E, hE, hE2⟩ := magR_one
    have hlt : m * 2 ^ a < 2 ^ E := by rw [e2, ← hE2]; exact (magR_iff _ _).2 h1
    have key : Toward.down.cut (NEG v) (m <<< (-1074 + (a : Int)).toNat) (-(-1074 + (a : Int))).toNat = 0 := by
      rcases h.2.2 with hs | hs
      · rw [hs, cut_down, Nat.shiftLeft_eq]
        have ha : a ≤ E ∨ m = 0 := by
          rcases Nat.eq_zero_or_pos m with h0 | h0
          · exact .inr h0
          · left
            have h3 : 1 * 2 ^ a ≤ m * 2 ^ a := Nat.mul_le_mul_right _ h0
            have h4 : 2 ^ a < 2 ^ E := by omega
            exact Nat.le_of_lt ((Nat.pow_lt_pow_iff_right (by decide)).1 h4)
        rcases ha with ha | ha
        · rw [show (-1074 + (a : Int)).toNat = 0 by omega, Nat.pow_zero, Nat.mul_one, show (-(-1074 + (a : Int))).toNat = E - a by omega]
          apply Nat.div_eq_of_lt
          have e3 : (2 : Nat) ^ E = 2 ^ (E - a) * 2 ^ a := by rw [← Nat.pow_add, Nat.sub_add_cancel ha]
          rw [e3] at hlt
          exact Nat.lt_of_mul_lt_mul_right hlt
        · rw [ha, Nat.zero_mul, Nat.zero_div]
      · have hm : m = 0 := by
          rw [hs, magR_zero] at e2
          rcases Nat.mul_eq_zero.1 e2 with h | h
          · exact h
          · exact absurd h (Nat.ne_of_gt (Nat.pow_pos (by decide)))
        rw [hm, Nat.zero_shiftLeft]
        cases NEG v
        · rw [cut_down, Nat.zero_div]
        · exact cut_down0 _
    rw [key]
  · have hs : NEG v = false := h.2.2.resolve_right (by omega)
    obtain ⟨e, s, he, hse, hp1, hp2⟩ := place h h1
    have hf : floorV v = (4503599627370496 + rg v % 4503599627370496) / 2 ^ s := by unfold floorV; rw [if_neg h1, hp1]
    have hv : v = rg v := word_pos hs h.1
    have hr := h.2.1
    rw [hf]
    refine ⟨false, ?_, fun h => (by cases h)⟩
    have hw : v = word false ((e + 1022) * 4503599627370496 + (4503599627370496 + rg v % 4503599627370496)) := by
      show v = (e + 1022) * 4503599627370496 + (4503599627370496 + rg v % 4503599627370496)
      generalize rg v = r at *
      omega
    have hrd := read_word false (4503599627370496 + rg v % 4503599627370496) (e + 1022) (by omega) (by omega) (by omega)
    rw [← hw] at hrd
    rw [hrd]
    show Datum.number false (Toward.down.cut false ((4503599627370496 + rg v % 4503599627370496) <<< (-1074 + ((e + 1022 : Nat) : Int)).toNat) (-(-1074 + ((e + 1022 : Nat) : Int))).toNat) 0 = _
    rw [cut_down, Nat.shiftLeft_eq, show (-1074 + ((e + 1022 : Nat) : Int)).toNat = 0 by omega, show (-(-1074 + ((e + 1022 : Nat) : Int))).toNat = s by omega, Nat.pow_zero, Nat.mul_one]
theorem int_zero : floatToIntVal .f64 0 .i64 = some 0 ∧ floatToIntVal .f64 9223372036854775808 .i64 = some 0 := by decide +kernel
/-- A whole number's float is told as it. -/
theorem int_back (K : Nat) (h : K ≤ 1023) (s : Bool) (hs : s = true → K = 0) : floatToIntVal .f64 (double.write (.number s K 0)) .i64 = some (K : Int) := by
  have hw : double.write (.number s K 0) = word s (rungOf K 0) := nearest_eq s K 0
  rw [hw]
  by_cases h0 : K = 0
  · subst h0
    cases s
    · exact int_zero.1
    · exact int_zero.2
  · have hsf : s = false := by
      cases s
      · rfl
      · exact absurd (hs rfl) h0
    subst hsf
    rw [word_f]
    obtain ⟨j, j1, j2, k1, k2, hR⟩ := int_rung K (by omega) h
    have hrd := read_word false (K * 2 ^ j) (1074 - j) k1 k2 (by omega)
    rw [word_f, ← hR] at hrd
    generalize rungOf K 0 = R at *
    have hti : (double.read R).toInt .zero = some (K : Int) := by
      rw [hrd]
      show some (signed false (Toward.zero.cut false ((K * 2 ^ j) <<< (-1074 + ((1074 - j : Nat) : Int)).toNat) (-(-1074 + ((1074 - j : Nat) : Int))).toNat) 0) = _
      rw [cut_zero, signed_eq, Nat.shiftLeft_eq, show (-1074 + ((1074 - j : Nat) : Int)).toNat = 0 by omega, show (-(-1074 + ((1074 - j : Nat) : Int))).toNat = j by omega]
      simp only [Nat.pow_zero, Nat.mul_one]
      rw [Nat.mul_div_cancel _ (Nat.pow_pos (by decide))]
      rfl
    unfold floatToIntVal
    have hd : FloatKind.f64.decode R = double.read R := rfl
    rw [hd, hti]
    have m1 : IntKind.i64.min = -9223372036854775808 := by decide
    have m2 : IntKind.i64.max = 9223372036854775807 := by decide
    simp only
    rw [if_pos (by rw [m1, m2]; omega)]
end Go.Proofs.Ytkkapajpgfjomaa.Gauge
