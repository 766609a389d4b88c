/- Floats of 64 bits as plain numbers: their order, and that sums and differences, rounded, keep the order. No condition. -/
import Ieee.Arith
namespace Go.Proofs.YtfckciblnojniaaDoor.Flt
open Ieee
set_option linter.unusedVariables false

/-! ### A word: sign and rung -/
def NEG (x : Nat) : Bool := x / 9223372036854775808 % 2 == 1
def rg (x : Nat) : Nat := x % 9223372036854775808
def nanB (x : Nat) : Bool := decide (9218868437227405312 < rg x)
def sg (s : Bool) (n : Nat) : Int := if s = true then -(n : Int) else n
def key (x : Nat) : Int := sg (NEG x) (rg x)
/-- What a rung stands for, in units of the least one. -/
def magR (r : Nat) : Nat := if r < 4503599627370496 then r else (4503599627370496 + r % 4503599627370496) * 2 ^ (r / 4503599627370496 - 1)
theorem sw : double.signWeight = 9223372036854775808 := by decide
theorem bn : double.binade = 4503599627370496 := by decide
theorem ir : double.infRung = 9218868437227405312 := by decide
theorem lp : double.leastPlace = -1074 := by decide
theorem read_eq (x : Nat) : double.read x =
    if rg x < 4503599627370496 then .number (NEG x) (rg x) (-1074)
    else if rg x < 9218868437227405312 then .number (NEG x) (4503599627370496 + rg x % 4503599627370496) (-1074 + (rg x / 4503599627370496 - 1 : Nat))
    else if rg x = 9218868437227405312 then .infinity (NEG x) else .nan (NEG x) (rg x - 9218868437227405312) := by
  unfold Format.read
  rw [sw, bn, ir, lp]
  rfl
theorem read_fin (x : Nat) (h : rg x < 9218868437227405312) : ∃ m a : Nat, double.read x = .number (NEG x) m (-1074 + (a : Int)) ∧ m * 2 ^ a = magR (rg x) := by
  rw [read_eq]
  unfold magR
  by_cases h1 : rg x < 4503599627370496
  · exact ⟨rg x, 0, by rw [if_pos h1]; rfl, by rw [if_pos h1]; simp⟩
  · exact ⟨_, rg x / 4503599627370496 - 1, by rw [if_neg h1, if_pos h], by rw [if_neg h1]⟩
theorem read_inf (x : Nat) (h : rg x = 9218868437227405312) : double.read x = .infinity (NEG x) := by
  rw [read_eq, if_neg (by omega), if_neg (by omega), if_pos h]
theorem read_nan (x : Nat) (h : 9218868437227405312 < rg x) : ∃ f, double.read x = .nan (NEG x) f := by
  exact ⟨_, by rw [read_eq, if_neg (by omega), if_neg (by omega), if_neg (by omega)]⟩

theorem magR_lt {r s : Nat} (h : r < s) : magR r < magR s := by
  unfold magR
  by_cases hr : r < 4503599627370496
  · rw [if_pos hr]
    by_cases hs : s < 4503599627370496
    · rw [if_pos hs]; exact h
    · rw [if_neg hs]
      have h1 : 0 < 2 ^ (s / 4503599627370496 - 1) := Nat.two_pow_pos _
      have h2 := Nat.mul_le_mul_left (4503599627370496 + s % 4503599627370496) h1
      omega
  · have hs : ¬ s < 4503599627370496 := by omega
    rw [if_neg hr, if_neg hs]
    by_cases e : r / 4503599627370496 = s / 4503599627370496
    · rw [e]
      exact Nat.mul_lt_mul_of_pos_right (by omega) (Nat.two_pow_pos _)
    · have hlt : r / 4503599627370496 < s / 4503599627370496 := by omega
      have h0 : 1 ≤ r / 4503599627370496 := by omega
      have h1 : (4503599627370496 + r % 4503599627370496) * 2 ^ (r / 4503599627370496 - 1) < (2 * 4503599627370496) * 2 ^ (r / 4503599627370496 - 1) := Nat.mul_lt_mul_of_pos_right (by omega) (Nat.two_pow_pos _)
      have h2 : (2 * 4503599627370496) * 2 ^ (r / 4503599627370496 - 1) = 4503599627370496 * 2 ^ (r / 4503599627370496) := by
        generalize r / 4503599627370496 = k at h0
        obtain ⟨j, rfl⟩ : ∃ j, k = j + 1 := ⟨k - 1, by omega⟩
        rw [Nat.add_sub_cancel, Nat.pow_succ, Nat.mul_comm 2, Nat.mul_assoc, Nat.mul_comm 2]
      have h3 : 4503599627370496 * 2 ^ (r / 4503599627370496) ≤ 4503599627370496 * 2 ^ (s / 4503599627370496 - 1) := Nat.mul_le_mul_left _ (Nat.pow_le_pow_right (by decide) (by omega))
      have h4 : 4503599627370496 * 2 ^ (s / 4503599627370496 - 1) ≤ (4503599627370496 + s % 4503599627370496) * 2 ^ (s / 4503599627370496 - 1) := Nat.mul_le_mul_right _ (by omega)
      omega
theorem magR_iff (r s : Nat) : magR r < magR s ↔ r < s := by
  refine ⟨fun h => ?_, magR_lt⟩
  rcases Nat.lt_trichotomy r s with h1 | h1 | h1
  · exact h1
  · subst h1; omega
  · have := magR_lt h1; omega
theorem magR_zero : magR 0 = 0 := rfl
theorem sg_magR (s t : Bool) (r q : Nat) : (sg s (magR r) < sg t (magR q) ↔ sg s r < sg t q) ∧ (sg s (magR r) = sg t (magR q) ↔ sg s r = sg t q) := by
  have h1 := magR_iff r q
  have h2 := magR_iff q r
  have h3 := magR_iff 0 r
  have h4 := magR_iff 0 q
  rw [magR_zero] at h3 h4
  unfold sg
  cases s <;> cases t <;> simp <;> omega

/-! ### Their order -/
theorem cmp_congr {a b c d : Int} (h1 : a < b ↔ c < d) (h2 : a = b ↔ c = d) : compare a b = compare c d := by
  show compareOfLessAndEq a b = compareOfLessAndEq c d
  unfold compareOfLessAndEq
  simp only [h1, h2]
theorem cmp_lt {a b : Int} (h : a < b) : compare a b = .lt := by
  show compareOfLessAndEq a b = _
  unfold compareOfLessAndEq
  rw [if_pos h]
theorem cmp_gt {a b : Int} (h : b < a) : compare a b = .gt := by
  show compareOfLessAndEq a b = _
  unfold compareOfLessAndEq
  rw [if_neg (by omega), if_neg (by omega)]
theorem cmp_eq {a b : Int} (h : a = b) : compare a b = .eq := by
  show compareOfLessAndEq a b = _
  unfold compareOfLessAndEq
  rw [if_neg (by omega), if_pos h]
theorem signed_eq (s : Bool) (m k : Nat) : signed s m k = sg s (m * 2 ^ k) := by
  unfold signed sg
  rw [Nat.shiftLeft_eq]
theorem sg_mul (s : Bool) (m k : Nat) : sg s (m * k) = sg s m * k := by
  unfold sg
  cases s <;> simp [Int.neg_mul]
theorem pow_split (a c : Nat) (h : c ≤ a) (m : Nat) : m * 2 ^ a = m * 2 ^ (a - c) * 2 ^ c := by
  rw [Nat.mul_assoc, ← Nat.pow_add, Nat.sub_add_cancel h]
theorem base_eq (a b : Nat) : min (-1074 + (a : Int)) (-1074 + (b : Int)) = -1074 + ((min a b : Nat) : Int) := by omega
theorem order_num (s t : Bool) (m n a b : Nat) : (Datum.number s m (-1074 + (a : Int))).order (.number t n (-1074 + (b : Int))) = some (compare (sg s (m * 2 ^ a)) (sg t (n * 2 ^ b))) := by
  unfold Datum.order
  simp only [base_eq]
  rw [show (-1074 + (a : Int) - (-1074 + ((min a b : Nat) : Int))).toNat = a - min a b by omega, show (-1074 + (b : Int) - (-1074 + ((min a b : Nat) : Int))).toNat = b - min a b by omega, signed_eq, signed_eq,
    pow_split a (min a b) (Nat.min_le_left ..) m, pow_split b (min a b) (Nat.min_le_right ..) n, sg_mul s _ (2 ^ min a b), sg_mul t _ (2 ^ min a b)]
  have hp : (0 : Int) < ((2 ^ min a b : Nat) : Int) := by have := Nat.two_pow_pos (min a b); omega
  congr 1
  refine cmp_congr ⟨fun h => Int.mul_lt_mul_of_pos_right h hp, fun h => Int.lt_of_mul_lt_mul_right h (Int.le_of_lt hp)⟩ ⟨fun h => by rw [h], fun h => Int.eq_of_mul_eq_mul_right (by omega) h⟩
theorem key_fin (x : Nat) (h : rg x < 9218868437227405312) : -9218868437227405312 < key x ∧ key x < 9218868437227405312 := by
  unfold key sg; split <;> omega
theorem order_eq (x y : Nat) : double.order x y = if nanB x = true ∨ nanB y = true then none else some (compare (key x) (key y)) := by
  unfold Format.order nanB
  simp only [decide_eq_true_eq]
  rcases Nat.lt_trichotomy (rg x) 9218868437227405312 with hx | hx | hx
  · obtain ⟨m, a, e1, e2⟩ := read_fin x hx
    rcases Nat.lt_trichotomy (rg y) 9218868437227405312 with hy | hy | hy
    · obtain ⟨n, b, e3, e4⟩ := read_fin y hy
      rw [e1, e3, order_num, e2, e4, if_neg (by omega)]
      have := sg_magR (NEG x) (NEG y) (rg x) (rg y)
      rw [cmp_congr this.1 this.2]
      rfl
    · rw [e1, read_inf y hy, if_neg (by omega)]
      have hk := key_fin x hx
      have hky : key y = if NEG y = true then -9218868437227405312 else 9218868437227405312 := by unfold key sg; rw [hy]; rfl
      unfold Datum.order
      cases hn : NEG y <;> rw [hn] at hky <;> simp at hky
      · rw [cmp_lt (by omega)]; rfl
      · rw [cmp_gt (by omega)]; rfl
    · obtain ⟨f, e3⟩ := read_nan y hy
      rw [e1, e3, if_pos (by omega)]
      rfl
  · rcases Nat.lt_trichotomy (rg y) 9218868437227405312 with hy | hy | hy
    · obtain ⟨n, b, e3, e4⟩ := read_fin y hy
      rw [e3, read_inf x hx, if_neg (by omega)]
      have hk := key_fin y hy
      have hkx : key x = if NEG x = true then -9218868437227405312 else 9218868437227405312 := by unfold key sg; rw [hx]; rfl
      unfold Datum.order
      cases hn : NEG x <;> rw [hn] at hkx <;> simp at hkx
      · rw [cmp_gt (by omega)]; rfl
      · rw [cmp_lt (by omega)]; rfl
    · rw [read_inf x hx, read_inf y hy, if_neg (by omega)]
      unfold Datum.order key
      rw [hx, hy]
      cases NEG x <;> cases NEG y <;> rfl
    · obtain ⟨f, e3⟩ := read_nan y hy
      rw [read_inf x hx, e3, if_pos (by omega)]
      rfl
  · obtain ⟨f, e3⟩ := read_nan x hx
    rw [e3, if_pos (by omega)]
    unfold Datum.order
    rfl

/-! ### The comparisons, as they answer -/
def fltB (x y : Nat) : Bool := !nanB x && !nanB y && decide (key x < key y)
def fleB (x y : Nat) : Bool := !nanB x && !nanB y && decide (key x ≤ key y)
def feqB (x y : Nat) : Bool := !nanB x && !nanB y && decide (key x = key y)
theorem ord_lt (x y : Nat) : (double.order x y == some .lt) = fltB x y := by
  rw [order_eq]
  unfold fltB
  by_cases h1 : nanB x = true
  · simp [h1]
  by_cases h2 : nanB y = true
  · simp [h2]
  simp only [Bool.not_eq_true] at h1 h2
  simp only [h1, h2]
  rcases Int.lt_trichotomy (key x) (key y) with h | h | h
  · rw [cmp_lt h]; simp [h]
  · rw [cmp_eq h]; simp [h]
  · rw [cmp_gt h]; simp; omega
theorem ord_gt (x y : Nat) : (double.order x y == some .gt) = fltB y x := by
  rw [order_eq]
  unfold fltB
  by_cases h1 : nanB x = true
  · simp [h1]
  by_cases h2 : nanB y = true
  · simp [h2]
  simp only [Bool.not_eq_true] at h1 h2
  simp only [h1, h2]
  rcases Int.lt_trichotomy (key x) (key y) with h | h | h
  · rw [cmp_lt h]; simp; omega
  · rw [cmp_eq h]; simp [h]
  · rw [cmp_gt h]; simp [h]
theorem ord_eq (x y : Nat) : (double.order x y == some .eq) = feqB x y := by
  rw [order_eq]
  unfold feqB
  by_cases h1 : nanB x = true
  · simp [h1]
  by_cases h2 : nanB y = true
  · simp [h2]
  simp only [Bool.not_eq_true] at h1 h2
  simp only [h1, h2]
  rcases Int.lt_trichotomy (key x) (key y) with h | h | h
  · rw [cmp_lt h]; simp; omega
  · rw [cmp_eq h]; simp [h]
  · rw [cmp_gt h]; simp; omega
theorem ord_le (x y : Nat) : (fltB x y || feqB x y) = fleB x y := by
  unfold fltB feqB fleB
  cases nanB x <;> cases nanB y <;> simp
  rw [Bool.eq_iff_iff]; simp; omega
theorem ord_ge (x y : Nat) : (fltB y x || feqB x y) = fleB y x := by
  unfold fltB feqB fleB
  cases nanB x <;> cases nanB y <;> simp
  rw [Bool.eq_iff_iff]; simp; omega

/-! ### Rounding -/
def rnd (n g : Nat) : Nat := n / g + if g < 2 * (n % g) ∨ (g = 2 * (n % g) ∧ n / g % 2 = 1) then 1 else 0
theorem rnd_mono {n m g : Nat} (h : n ≤ m) (hg : 0 < g) : rnd n g ≤ rnd m g := by
  unfold rnd
  have hd : n / g ≤ m / g := Nat.div_le_div_right h
  rcases Nat.lt_or_eq_of_le hd with h1 | h1
  · split <;> split <;> omega
  · have e1 := Nat.div_add_mod n g
    have e2 := Nat.div_add_mod m g
    rw [h1] at e1 ⊢
    have h2 : n % g ≤ m % g := by omega
    generalize m / g = q
    split <;> split <;> omega
theorem rnd_exact (c g : Nat) (hg : 0 < g) : rnd (c * g) g = c := by
  unfold rnd
  rw [Nat.mul_mod_left, Nat.mul_div_cancel _ hg, if_neg (by omega)]
  rfl
theorem rnd_one (n : Nat) : rnd n 1 = n := by have := rnd_exact n 1 (by decide); rwa [Nat.mul_one] at this
theorem rnd_scale (n g c : Nat) (hc : 0 < c) : rnd (n * c) (g * c) = rnd n g := by
  unfold rnd
  rw [Nat.mul_div_mul_right _ _ hc, Nat.mul_mod_mul_right]
  have h1 : (g * c < 2 * (n % g * c)) ↔ (g < 2 * (n % g)) := by
    rw [← Nat.mul_assoc]; exact Nat.mul_lt_mul_right hc
  have h2 : (g * c = 2 * (n % g * c)) ↔ (g = 2 * (n % g)) := by
    rw [← Nat.mul_assoc]; exact Nat.mul_left_inj (by omega)
  simp only [h1, h2]
theorem cut_even (neg : Bool) (n drop : Nat) : Toward.even.cut neg n drop = rnd n (2 ^ drop) := by
  unfold Toward.cut
  simp only [Nat.shiftLeft_eq, Nat.one_mul]
  by_cases h : drop ≤ n.log2 + 2
  · rw [Nat.min_eq_left h]
    unfold rnd
    congr 1
    by_cases h1 : 2 ^ drop < 2 * (n % 2 ^ drop)
    · simp [h1]
    · by_cases h2 : 2 ^ drop = 2 * (n % 2 ^ drop)
      · by_cases h3 : n / 2 ^ drop % 2 = 1
        · simp [← h2, h3]
        · simp [← h2, h3]
      · simp [h1, h2]
  · rw [Nat.min_eq_right (by omega)]
    have hn : n < 2 ^ (n.log2 + 1) := Nat.lt_log2_self
    have h2 : 2 ^ (n.log2 + 2) = 2 * 2 ^ (n.log2 + 1) := by rw [Nat.pow_succ, Nat.mul_comm]
    have h3 : 2 ^ (n.log2 + 2) ≤ 2 ^ drop := Nat.pow_le_pow_right (by decide) (by omega)
    unfold rnd
    have k1 : n / 2 ^ (n.log2 + 2) = 0 := Nat.div_eq_of_lt (by omega)
    have k2 : n % 2 ^ (n.log2 + 2) = n := Nat.mod_eq_of_lt (by omega)
    have k3 : n / 2 ^ drop = 0 := Nat.div_eq_of_lt (by omega)
    have k4 : n % 2 ^ drop = n := Nat.mod_eq_of_lt (by omega)
    rw [k1, k2, k3, k4, if_neg (by omega)]
    simp
    omega
/-- The place of the last bit that is kept. -/
def lastP (m : Nat) (p : Int) : Int := max (p + m.log2 - 52) (-1074)
def kept (m : Nat) (p : Int) : Nat := rnd (m * 2 ^ (p - lastP m p).toNat) (2 ^ (lastP m p - p).toNat)
/-- The rung next to m * 2^p. -/
def rungOf (m : Nat) (p : Int) : Nat := if m = 0 then 0 else min ((lastP m p + 1074).toNat * 4503599627370496 + kept m p) 9218868437227405312
def word (neg : Bool) (r : Nat) : Nat := if neg then 9223372036854775808 + r else r
theorem nearest_eq (neg : Bool) (m : Nat) (p : Int) : double.nearest neg m p = word neg (rungOf m p) := by
  unfold Format.nearest rungOf
  by_cases h : m = 0
  · rw [if_pos h, if_pos h]; rfl
  · rw [if_neg h, if_neg h]
    simp only [cut_even, lp, bn, ir, Nat.shiftLeft_eq]
    unfold Format.word word
    rw [sw]
    rfl
theorem rungOf_le (m : Nat) (p : Int) : rungOf m p ≤ 9218868437227405312 := by unfold rungOf; split <;> omega
theorem word_facts (neg : Bool) (r : Nat) (h : r ≤ 9218868437227405312) : NEG (word neg r) = neg ∧ rg (word neg r) = r := by
  unfold NEG rg word
  cases neg
  · simp only [Bool.false_eq_true, if_false]
    refine ⟨?_, by omega⟩
    rw [Nat.div_eq_of_lt (by omega)]; rfl
  · simp only [if_true]
    refine ⟨?_, by omega⟩
    rw [show (9223372036854775808 + r) / 9223372036854775808 = 1 by omega]; rfl
theorem kept_le (m : Nat) (p : Int) : kept m p ≤ 9007199254740992 := by
  have hl : m < 2 ^ (m.log2 + 1) := Nat.lt_log2_self
  have hL : p + m.log2 - 52 ≤ lastP m p := Int.le_max_left ..
  unfold kept
  generalize lastP m p = l at hL
  have e53 : (9007199254740992 : Nat) = 2 ^ 53 := by decide
  by_cases h : l ≤ p
  · rw [show (l - p).toNat = 0 by omega, Nat.pow_zero, rnd_one, e53]
    have h1 : (p - l).toNat + (m.log2 + 1) ≤ 53 := by omega
    calc m * 2 ^ (p - l).toNat ≤ 2 ^ (m.log2 + 1) * 2 ^ (p - l).toNat := Nat.mul_le_mul_right _ (by omega)
      _ = 2 ^ (m.log2 + 1 + (p - l).toNat) := (Nat.pow_add ..).symm
      _ ≤ 2 ^ 53 := Nat.pow_le_pow_right (by decide) (by omega)
  · rw [show (p - l).toNat = 0 by omega, Nat.pow_zero, Nat.mul_one]
    have h1 : m ≤ 9007199254740992 * 2 ^ (l - p).toNat := by
      rw [e53, ← Nat.pow_add]
      have : 2 ^ (m.log2 + 1) ≤ 2 ^ (53 + (l - p).toNat) := Nat.pow_le_pow_right (by decide) (by omega)
      omega
    have := rnd_mono h1 (Nat.two_pow_pos (l - p).toNat)
    rwa [rnd_exact _ _ (Nat.two_pow_pos _)] at this
theorem kept_ge (m : Nat) (p : Int) (hm : m ≠ 0) (h : -1074 < lastP m p) : 4503599627370496 ≤ kept m p := by
  have hl : 2 ^ m.log2 ≤ m := Nat.log2_self_le hm
  have hL : lastP m p = p + m.log2 - 52 := by unfold lastP at h ⊢; omega
  unfold kept
  rw [hL]
  have e52 : (4503599627370496 : Nat) = 2 ^ 52 := by decide
  by_cases h : m.log2 ≤ 52
  · rw [show (p + (m.log2 : Int) - 52 - p).toNat = 0 by omega, Nat.pow_zero, rnd_one, e52, show (p - (p + (m.log2 : Int) - 52)).toNat = 52 - m.log2 by omega]
    calc 2 ^ 52 = 2 ^ (m.log2 + (52 - m.log2)) := by rw [Nat.add_sub_cancel' h]
      _ = 2 ^ m.log2 * 2 ^ (52 - m.log2) := Nat.pow_add ..
      _ ≤ m * 2 ^ (52 - m.log2) := Nat.mul_le_mul_right _ hl
  · rw [show (p - (p + (m.log2 : Int) - 52)).toNat = 0 by omega, Nat.pow_zero, Nat.mul_one, show (p + (m.log2 : Int) - 52 - p).toNat = m.log2 - 52 by omega]
    have h1 : 4503599627370496 * 2 ^ (m.log2 - 52) ≤ m := by
      rw [e52, ← Nat.pow_add, Nat.add_sub_cancel' (by omega)]; exact hl
    have := rnd_mono h1 (Nat.two_pow_pos (m.log2 - 52))
    rwa [rnd_exact _ _ (Nat.two_pow_pos _)] at this
theorem log2_mono {m n : Nat} (h : m ≤ n) (hm : m ≠ 0) : m.log2 ≤ n.log2 := by
  have h1 : 2 ^ m.log2 ≤ m := Nat.log2_self_le hm
  have h2 : n < 2 ^ (n.log2 + 1) := Nat.lt_log2_self
  have h3 : 2 ^ m.log2 < 2 ^ (n.log2 + 1) := by omega
  have := (Nat.pow_lt_pow_iff_right (by decide : 1 < 2)).1 h3
  omega
theorem min_mono {a b c : Nat} (h : a ≤ b) : min a c ≤ min b c := by omega
theorem step_le {a b C k1 k2 : Nat} (h : a + 1 ≤ b) (h1 : k1 ≤ 2 * C) (h2 : C ≤ k2) : a * C + k1 ≤ b * C + k2 := by
  have := Nat.mul_le_mul_right C h
  rw [Nat.add_mul, Nat.one_mul] at this
  omega
theorem rungOf_mono {m n : Nat} (h : m ≤ n) (p : Int) : rungOf m p ≤ rungOf n p := by
  by_cases hm : m = 0
  · unfold rungOf; rw [if_pos hm]; exact Nat.zero_le _
  have hn : n ≠ 0 := by omega
  have hlog := log2_mono h hm
  have hll : lastP m p ≤ lastP n p := by unfold lastP; omega
  have hlo : -1074 ≤ lastP m p := Int.le_max_right ..
  unfold rungOf
  rw [if_neg hm, if_neg hn]
  refine min_mono ?_
  rcases Int.lt_or_eq_of_le hll with hlt | heq
  · exact step_le (by omega) (kept_le m p) (kept_ge n p hn (by omega))
  · have k : kept m p ≤ kept n p := by
      unfold kept
      rw [heq]
      exact rnd_mono (Nat.mul_le_mul_right _ h) (Nat.two_pow_pos _)
    rw [heq]
    exact Nat.add_le_add_left k _
theorem log2_mul_pow (m k : Nat) (hm : m ≠ 0) : (m * 2 ^ k).log2 = m.log2 + k := by
  have h1 : 2 ^ m.log2 ≤ m := Nat.log2_self_le hm
  have h2 : m < 2 ^ (m.log2 + 1) := Nat.lt_log2_self
  have hp := Nat.two_pow_pos k
  have hz : m * 2 ^ k ≠ 0 := Nat.mul_ne_zero hm (by omega)
  refine (Nat.log2_eq_iff hz).2 ⟨?_, ?_⟩
  · rw [Nat.pow_add]; exact Nat.mul_le_mul_right _ h1
  · rw [show m.log2 + k + 1 = m.log2 + 1 + k by omega, Nat.pow_add]; exact Nat.mul_lt_mul_of_pos_right h2 hp
/-- The same number, written otherwise, has the same rung. -/
theorem rungOf_scale (m k : Nat) (p : Int) : rungOf (m * 2 ^ k) p = rungOf m (p + k) := by
  by_cases hm : m = 0
  · subst hm; simp [rungOf]
  have hp := Nat.two_pow_pos k
  have hz : m * 2 ^ k ≠ 0 := Nat.mul_ne_zero hm (by omega)
  have hlast : lastP (m * 2 ^ k) p = lastP m (p + k) := by unfold lastP; rw [log2_mul_pow m k hm]; omega
  have hk : kept (m * 2 ^ k) p = kept m (p + k) := by
    unfold kept
    rw [hlast]
    generalize lastP m (p + k) = l
    by_cases h1 : l ≤ p
    · rw [show (l - p).toNat = 0 by omega, show (l - (p + (k : Int))).toNat = 0 by omega, Nat.pow_zero, rnd_one, rnd_one, show (p + (k : Int) - l).toNat = k + (p - l).toNat by omega, Nat.pow_add, Nat.mul_assoc]
    · by_cases h2 : l ≤ p + k
      · rw [show (p - l).toNat = 0 by omega, show (l - (p + (k : Int))).toNat = 0 by omega, Nat.pow_zero, rnd_one, Nat.mul_one]
        rw [pow_split k (l - p).toNat (by omega) m, rnd_exact _ _ (Nat.two_pow_pos _), show (p + (k : Int) - l).toNat = k - (l - p).toNat by omega]
      · rw [show (p - l).toNat = 0 by omega, show (p + (k : Int) - l).toNat = 0 by omega, Nat.pow_zero, Nat.mul_one, Nat.mul_one, show (l - p).toNat = (l - (p + (k : Int))).toNat + k by omega, Nat.pow_add]
        exact rnd_scale _ _ _ hp
  unfold rungOf
  rw [if_neg hm, if_neg hz, hlast, hk]
/-- The rung of a rung's number is it. -/
theorem rungOf_magR (r : Nat) (h : r ≤ 9218868437227405312) : rungOf (magR r) (-1074) = r := by
  by_cases h0 : r = 0
  · subst h0; rfl
  by_cases h1 : r < 4503599627370496
  · have hm : magR r = r := by unfold magR; rw [if_pos h1]
    rw [hm]
    have hlog : r.log2 < 52 := (Nat.log2_lt h0).2 h1
    have hl : lastP r (-1074) = -1074 := by unfold lastP; omega
    unfold rungOf kept
    rw [if_neg h0, hl]
    simp [rnd_one]
    omega
  · have hm : magR r = (4503599627370496 + r % 4503599627370496) * 2 ^ (r / 4503599627370496 - 1) := by unfold magR; rw [if_neg h1]
    rw [hm, rungOf_scale]
    generalize hn : 4503599627370496 + r % 4503599627370496 = n
    have hb : 4503599627370496 ≤ n ∧ n < 9007199254740992 := by omega
    have hlog : n.log2 = 52 := by
      refine (Nat.log2_eq_iff (by omega)).2 ⟨?_, ?_⟩
      · have : (4503599627370496 : Nat) = 2 ^ 52 := by decide
        omega
      · have : (9007199254740992 : Nat) = 2 ^ 53 := by decide
        omega
    have hl : lastP n (-1074 + ((r / 4503599627370496 - 1 : Nat) : Int)) = -1074 + ((r / 4503599627370496 - 1 : Nat) : Int) := by unfold lastP; rw [hlog]; omega
    unfold rungOf kept
    rw [if_neg (by omega), hl]
    simp only [Int.sub_self, Int.toNat_zero, Nat.pow_zero, Nat.mul_one, rnd_one]
    omega

/-! ### Sums and differences -/
/-- What a word stands for, in units of the least one. -/
def val (x : Nat) : Int := sg (NEG x) (magR (rg x))
/-- The place in the order of the float next to t * 2^p. -/
def K (t : Int) (p : Int) : Int := sg (decide (t < 0)) (rungOf t.natAbs p)
theorem K_mono {s t : Int} (h : s ≤ t) (p : Int) : K s p ≤ K t p := by
  unfold K sg
  by_cases h1 : s < 0
  · by_cases h2 : t < 0
    · have := rungOf_mono (m := t.natAbs) (n := s.natAbs) (by omega) p
      simp [h1, h2]; omega
    · simp [h1, h2] <;> omega
  · have h2 : ¬ t < 0 := by omega
    have := rungOf_mono (m := s.natAbs) (n := t.natAbs) (by omega) p
    simp [h1, h2]; omega
theorem K_scale (t : Int) (k : Nat) (p : Int) : K (t * (2 ^ k : Nat)) p = K t (p + k) := by
  unfold K
  have hp : (0 : Int) < ((2 ^ k : Nat) : Int) := by have := Nat.two_pow_pos k; omega
  have h1 : (t * ((2 ^ k : Nat) : Int) < 0) ↔ t < 0 := by
    constructor
    · intro h
      rcases Int.lt_or_le t 0 with h2 | h2
      · exact h2
      · have := Int.mul_nonneg h2 (Int.le_of_lt hp); omega
    · exact fun h => Int.mul_neg_of_neg_of_pos h hp
  rw [Int.natAbs_mul, Int.natAbs_natCast, rungOf_scale, decide_eq_decide.2 h1]
theorem K_val (x : Nat) (h : rg x ≤ 9218868437227405312) : K (val x) (-1074) = key x := by
  unfold K val key
  have hr := rungOf_magR (rg x) h
  have h0 : magR (rg x) = 0 → rg x = 0 := by have := magR_iff 0 (rg x); rw [magR_zero] at this; omega
  cases hN : NEG x
  · have e : sg false (magR (rg x)) = (magR (rg x) : Int) := rfl
    rw [e, Int.natAbs_natCast, hr, decide_eq_false (by omega)]
  · have e : sg true (magR (rg x)) = -(magR (rg x) : Int) := rfl
    rw [e, Int.natAbs_neg, Int.natAbs_natCast, hr]
    by_cases h1 : magR (rg x) = 0
    · rw [h0 h1]; rfl
    · rw [decide_eq_true (by omega)]
theorem key_word (neg : Bool) (r : Nat) (h : r ≤ 9218868437227405312) : key (word neg r) = sg neg r ∧ nanB (word neg r) = false := by
  obtain ⟨h1, h2⟩ := word_facts neg r h
  unfold key nanB
  rw [h1, h2]
  exact ⟨rfl, decide_eq_false (by omega)⟩
def finB (x : Nat) : Bool := decide (rg x < 9218868437227405312)
theorem sum_num (s t : Bool) (m n a b : Nat) : ∃ z, ((Datum.number s m (-1074 + (a : Int))).sum (.number t n (-1074 + (b : Int)))).map double.write = some z ∧ key z = K (sg s (m * 2 ^ a) + sg t (n * 2 ^ b)) (-1074) ∧ nanB z = false := by
  unfold Datum.sum
  simp only [base_eq, Option.map_some, Format.write]
  rw [show (-1074 + (a : Int) - (-1074 + ((min a b : Nat) : Int))).toNat = a - min a b by omega, show (-1074 + (b : Int) - (-1074 + ((min a b : Nat) : Int))).toNat = b - min a b by omega, signed_eq, signed_eq,
    pow_split a (min a b) (Nat.min_le_left ..) m, pow_split b (min a b) (Nat.min_le_right ..) n, sg_mul s _ (2 ^ min a b), sg_mul t _ (2 ^ min a b), ← Int.add_mul, K_scale, nearest_eq]
  generalize sg s (m * 2 ^ (a - min a b)) + sg t (n * 2 ^ (b - min a b)) = q
  refine ⟨_, rfl, ?_⟩
  obtain ⟨h1, h2⟩ := key_word (if q = 0 then s && t else decide (q < 0)) (rungOf q.natAbs (-1074 + ((min a b : Nat) : Int))) (rungOf_le ..)
  refine ⟨?_, h2⟩
  rw [h1]
  unfold K
  by_cases hq : q = 0
  · subst hq
    have : rungOf (Int.natAbs 0) (-1074 + ((min a b : Nat) : Int)) = 0 := rfl
    rw [this]
    unfold sg; split <;> split <;> rfl
  · rw [if_neg hq]
theorem add_fin (x y : Nat) (hx : finB x = true) (hy : finB y = true) : ∃ z, double.add x y = some z ∧ key z = K (val x + val y) (-1074) ∧ nanB z = false := by
  unfold finB at hx hy
  obtain ⟨m, a, e1, e2⟩ := read_fin x (of_decide_eq_true hx)
  obtain ⟨n, b, e3, e4⟩ := read_fin y (of_decide_eq_true hy)
  unfold Format.add val
  rw [e1, e3, ← e2, ← e4]
  exact sum_num ..
theorem sub_fin (x y : Nat) (hx : finB x = true) (hy : finB y = true) : ∃ z, double.sub x y = some z ∧ key z = K (val x - val y) (-1074) ∧ nanB z = false := by
  unfold finB at hx hy
  obtain ⟨m, a, e1, e2⟩ := read_fin x (of_decide_eq_true hx)
  obtain ⟨n, b, e3, e4⟩ := read_fin y (of_decide_eq_true hy)
  unfold Format.sub val
  rw [e1, e3, ← e2, ← e4]
  have := sum_num (NEG x) (!NEG y) m n a b
  rw [show sg (NEG x) (m * 2 ^ a) - sg (NEG y) (n * 2 ^ b) = sg (NEG x) (m * 2 ^ a) + sg (!NEG y) (n * 2 ^ b) by cases NEG y <;> simp [sg, Int.sub_eq_add_neg]]
  exact this
end Go.Proofs.YtfckciblnojniaaDoor.Flt
