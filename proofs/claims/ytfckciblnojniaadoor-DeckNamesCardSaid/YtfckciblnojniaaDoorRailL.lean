/- The plain law of rails: lanes between borders that rise; no Go in sight. No condition. -/
import Derived.Test.YtfckciblnojniaaDoorFlt
namespace Go.Proofs.YtfckciblnojniaaDoor.Rail
open Go.Proofs.YtfckciblnojniaaDoor.Flt
set_option linter.unusedVariables false
def B (l : List Nat) (k : Nat) : Nat := l.getD k 0
/-- What is wrong with borders from the k-th on. -/
def chkFrom (l : List Nat) : Nat → Nat → Int
  | 0, _ => 0
  | f + 1, k => if nanB (B l k) = true then 20 else if 0 < k ∧ fltB (B l (k - 1)) (B l k) = false then 70 else chkFrom l f (k + 1)
def chkS (l : List Nat) : Int := if l.length < 2 then 1 else if 25 < l.length then 2 else chkFrom l l.length 0
structure Good (l : List Nat) : Prop where
  two : 2 ≤ l.length
  few : l.length ≤ 25
  num : ∀ k, k < l.length → nanB (B l k) = false
  up : ∀ k, 0 < k → k < l.length → key (B l (k - 1)) < key (B l k)
theorem chkFrom_good (l : List Nat) : ∀ f k, chkFrom l f k = 0 → ∀ j, k ≤ j → j < k + f → nanB (B l j) = false ∧ (0 < j → fltB (B l (j - 1)) (B l j) = true)
  | 0, k, _, j, h1, h2 => by omega
  | f + 1, k, h, j, h1, h2 => by
    unfold chkFrom at h
    split at h
    · cases h
    · split at h
      · cases h
      · rename_i h3 h4
        rcases Nat.eq_or_lt_of_le h1 with e | e
        · subst e
          exact ⟨by simpa using h3, fun h0 => by simpa [h0] using h4⟩
        · exact chkFrom_good l f (k + 1) h j e (by omega)
theorem good_of (l : List Nat) (h : chkS l = 0) : Good l := by
  unfold chkS at h
  split at h
  · cases h
  · split at h
    · cases h
    · have := chkFrom_good l l.length 0 h
      refine ⟨by omega, by omega, fun k hk => (this k (by omega) (by omega)).1, fun k h0 hk => ?_⟩
      have h2 := (this k (by omega) (by omega)).2 h0
      unfold fltB at h2
      simp at h2
      exact h2.2
theorem Good.lt {l : List Nat} (h : Good l) : ∀ {i j : Nat}, i < j → j < l.length → key (B l i) < key (B l j) := by
  intro i j
  induction j with
  | zero => intro h1; omega
  | succ j ih =>
    intro h1 h2
    have h3 := h.up (j + 1) (by omega) h2
    rw [Nat.add_sub_cancel] at h3
    rcases Nat.lt_or_eq_of_le (Nat.lt_succ_iff.1 h1) with h4 | h4
    · have := ih h4 (by omega); omega
    · subst h4; exact h3
theorem Good.lt_iff {l : List Nat} (h : Good l) {i j : Nat} (hi : i < l.length) (hj : j < l.length) : key (B l i) < key (B l j) ↔ i < j := by
  refine ⟨fun hk => ?_, fun hk => h.lt hk hj⟩
  rcases Nat.lt_trichotomy i j with h1 | h1 | h1
  · exact h1
  · subst h1; omega
  · have := h.lt h1 hi; omega

/-- How many of the next f borders, from the k-th on, lie at x or ahead of it, one behind the other. -/
def behFrom (l : List Nat) (x : Nat) : Nat → Nat → Nat
  | 0, _ => 0
  | f + 1, k => if fleB (B l k) x = true then behFrom l x f (k + 1) + 1 else 0
def behS (l : List Nat) (x : Nat) : Nat := behFrom l x (l.length - 1) 0
theorem behFrom_le (l : List Nat) (x : Nat) : ∀ f k, behFrom l x f k ≤ f
  | 0, _ => Nat.le_refl _
  | f + 1, k => by
    unfold behFrom
    have := behFrom_le l x f (k + 1)
    split <;> omega
theorem beh_le (l : List Nat) (x : Nat) : behS l x ≤ l.length - 1 := behFrom_le _ _ _ _
theorem behFrom_iff {l : List Nat} (h : Good l) {x : Nat} (hx : nanB x = false) : ∀ f k, k + f ≤ l.length → ∀ j, j < f → (j < behFrom l x f k ↔ key (B l (k + j)) ≤ key x)
  | 0, _, _, j, hj => by omega
  | f + 1, k, hk, j, hj => by
    have hn := h.num k (by omega)
    have hb : fleB (B l k) x = decide (key (B l k) ≤ key x) := by unfold fleB; rw [hn, hx]; rfl
    unfold behFrom
    rw [hb]
    by_cases h1 : key (B l k) ≤ key x
    · rw [if_pos (decide_eq_true h1)]
      rcases Nat.eq_zero_or_pos j with h2 | h2
      · subst h2; simp [h1]
      · have := behFrom_iff h hx f (k + 1) (by omega) (j - 1) (by omega)
        rw [show k + 1 + (j - 1) = k + j by omega] at this
        rw [← this]; omega
    · rw [if_neg (by simpa using h1)]
      have h2 : key (B l k) ≤ key (B l (k + j)) := by
        rcases Nat.eq_zero_or_pos j with h3 | h3
        · subst h3; exact Int.le_refl _
        · exact Int.le_of_lt (h.lt (by omega) (by omega))
      constructor
      · intro h3; omega
      · intro h3; omega
theorem beh_iff {l : List Nat} (h : Good l) {x : Nat} (hx : nanB x = false) (j : Nat) (hj : j < l.length - 1) : j < behS l x ↔ key (B l j) ≤ key x := by
  have := behFrom_iff h hx (l.length - 1) 0 (by omega) j hj
  rwa [Nat.zero_add] at this
theorem beh_mono {l : List Nat} (h : Good l) {x y : Nat} (hx : nanB x = false) (hy : nanB y = false) (hxy : key x ≤ key y) : behS l x ≤ behS l y := by
  rcases Nat.lt_or_ge (behS l y) (behS l x) with h1 | h1
  · have h2 := beh_le l x
    have h3 := (beh_iff h hx (behS l y) (by omega)).1 h1
    have h4 := (beh_iff h hy (behS l y) (by omega)).2 (by omega)
    omega
  · exact h1

/-- The lane of a place. -/
def laneS (l : List Nat) (x : Nat) : Int × Int :=
  if chkS l ≠ 0 then (0, chkS l) else if nanB x = true then (0, 20) else if fltB x (B l 0) = true ∨ fltB (B l (l.length - 1)) x = true then (0, 71) else ((behS l x : Int) - 1, 0)
/-- The last of the first n borders that lies at x or ahead of it. -/
def atUpto (l : List Nat) (x : Nat) : Nat → Nat
  | 0 => 0
  | n + 1 => if fleB (B l n) x = true then n else atUpto l x n
theorem beh_pos {l : List Nat} (h : Good l) {x : Nat} (hx : nanB x = false) (h0 : ¬ fltB x (B l 0) = true) : 1 ≤ behS l x := by
  have := h.two
  have h1 := beh_iff h hx 0 (by omega)
  have hn := h.num 0 (by omega)
  unfold fltB at h0
  rw [hx, hn] at h0
  simp at h0
  omega
theorem atUpto_eq {l : List Nat} (h : Good l) {x : Nat} (hx : nanB x = false) (h0 : ¬ fltB x (B l 0) = true) : ∀ n, n ≤ l.length - 1 → 1 ≤ n → (atUpto l x n : Int) = min n (behS l x) - 1
  | 0, _, h1 => by omega
  | n + 1, hn, _ => by
    have hp := beh_pos h hx h0
    have hi := beh_iff h hx n (by omega)
    have hnn := h.num n (by omega)
    have hb : fleB (B l n) x = decide (key (B l n) ≤ key x) := by unfold fleB; rw [hnn, hx]; rfl
    unfold atUpto
    rw [hb]
    by_cases h1 : key (B l n) ≤ key x
    · rw [if_pos (decide_eq_true h1)]
      have := hi.2 h1
      omega
    · rw [if_neg (by simpa using h1)]
      have h2 : ¬ n < behS l x := fun h => h1 (hi.1 h)
      rcases Nat.eq_zero_or_pos n with h3 | h3
      · omega
      · have := atUpto_eq h hx h0 n (by omega) h3
        omega

/-- Does what goes from a to b touch the k-th lane? -/
def touchB (l : List Nat) (k a b : Nat) : Bool := if k + 2 = l.length then fleB a (B l (k + 1)) && fleB (B l k) b else fltB a (B l (k + 1)) && fleB (B l k) b
def inL (l : List Nat) (a b n : Nat) : List Nat := (List.range n).filter fun k => touchB l k a b
theorem inL_succ (l : List Nat) (a b n : Nat) : inL l a b (n + 1) = inL l a b n ++ if touchB l n a b = true then [n] else [] := by
  unfold inL
  rw [List.range_succ, List.filter_append, List.filter_cons, List.filter_nil]
def loS (l : List Nat) (a : Nat) : Nat := max (behS l a) 1 - 1
def hiS (l : List Nat) (b : Nat) : Nat := behS l b - 1
theorem touch_iff {l : List Nat} (h : Good l) {a b : Nat} (ha : nanB a = false) (hb : nanB b = false) (hab : key a ≤ key b) (h1 : ¬ fltB b (B l 0) = true) (h2 : ¬ fltB (B l (l.length - 1)) a = true) (k : Nat) (hk : k < l.length - 1) :
    touchB l k a b = true ↔ loS l a ≤ k ∧ k ≤ hiS l b := by
  have htwo := h.two
  have hp := beh_pos h hb h1
  have hlb := beh_le l b
  have hn0 := h.num k (by omega)
  have hn1 := h.num (k + 1) (by omega)
  have hnl := h.num (l.length - 1) (by omega)
  have ib := beh_iff h hb k hk
  unfold fltB at h2
  rw [ha, hnl] at h2
  simp at h2
  unfold touchB loS hiS fltB fleB
  rw [ha, hb, hn0, hn1]
  simp only [Bool.not_false, Bool.true_and]
  by_cases hl : k + 2 = l.length
  · rw [if_pos hl]
    rw [show l.length - 1 = k + 1 by omega] at h2
    have hla := beh_le l a
    simp only [Bool.and_eq_true, decide_eq_true_eq]
    omega
  · rw [if_neg hl]
    have ia := beh_iff h ha (k + 1) (by omega)
    simp only [Bool.and_eq_true, decide_eq_true_eq]
    omega
theorem lo_hi {l : List Nat} (h : Good l) {a b : Nat} (ha : nanB a = false) (hb : nanB b = false) (hab : key a ≤ key b) (h1 : ¬ fltB b (B l 0) = true) : loS l a ≤ hiS l b ∧ hiS l b < l.length - 1 := by
  have hp := beh_pos h hb h1
  have := beh_mono h ha hb hab
  have hlb := beh_le l b
  unfold loS hiS
  omega
theorem inL_range {l : List Nat} (h : Good l) {a b : Nat} (ha : nanB a = false) (hb : nanB b = false) (hab : key a ≤ key b) (h1 : ¬ fltB b (B l 0) = true) (h2 : ¬ fltB (B l (l.length - 1)) a = true) :
    ∀ n, n ≤ l.length - 1 → inL l a b n = List.range' (loS l a) (min n (hiS l b + 1) - loS l a)
  | 0, _ => by simp [inL]
  | n + 1, hn => by
    rw [inL_succ, inL_range h ha hb hab h1 h2 n (by omega)]
    have ht := touch_iff h ha hb hab h1 h2 n (by omega)
    by_cases h3 : touchB l n a b = true
    · rw [if_pos h3]
      have := ht.1 h3
      rw [show min (n + 1) (hiS l b + 1) - loS l a = (min n (hiS l b + 1) - loS l a) + 1 by omega, List.range'_concat]
      congr 2
      omega
    · rw [if_neg h3, List.append_nil]
      have h4 : ¬ (loS l a ≤ n ∧ n ≤ hiS l b) := fun h => h3 (ht.2 h)
      congr 1
      omega
theorem inL_all {l : List Nat} (h : Good l) {a b : Nat} (ha : nanB a = false) (hb : nanB b = false) (hab : key a ≤ key b) (h1 : ¬ fltB b (B l 0) = true) (h2 : ¬ fltB (B l (l.length - 1)) a = true) :
    inL l a b (l.length - 1) = List.range' (loS l a) (hiS l b + 1 - loS l a) := by
  have := lo_hi h ha hb hab h1
  rw [inL_range h ha hb hab h1 h2 _ (Nat.le_refl _), Nat.min_eq_right (by omega)]
theorem inL_none {l : List Nat} (h : Good l) {a b : Nat} (ha : nanB a = false) (hb : nanB b = false) (hab : key a ≤ key b) (h1 : fltB b (B l 0) = true ∨ fltB (B l (l.length - 1)) a = true) : inL l a b (l.length - 1) = [] := by
  have htwo := h.two
  unfold inL
  rw [List.filter_eq_nil_iff]
  intro k hk
  have hk := List.mem_range.1 hk
  have hn0 := h.num k (by omega)
  have hn1 := h.num (k + 1) (by omega)
  have hnl := h.num (l.length - 1) (by omega)
  have hnz := h.num 0 (by omega)
  have g0 : key (B l 0) ≤ key (B l k) := by
    rcases Nat.eq_zero_or_pos k with h3 | h3
    · subst h3; exact Int.le_refl _
    · exact Int.le_of_lt (h.lt h3 (by omega))
  have g1 : key (B l (k + 1)) ≤ key (B l (l.length - 1)) := by
    rcases Nat.eq_or_lt_of_le (show k + 1 ≤ l.length - 1 by omega) with h3 | h3
    · rw [h3]; exact Int.le_refl _
    · exact Int.le_of_lt (h.lt h3 (by omega))
  unfold fltB at h1
  rw [ha, hb, hnl, hnz] at h1
  simp at h1
  unfold touchB fltB fleB
  rw [ha, hb, hn0, hn1]
  split <;> simp <;> omega
end Go.Proofs.YtfckciblnojniaaDoor.Rail
