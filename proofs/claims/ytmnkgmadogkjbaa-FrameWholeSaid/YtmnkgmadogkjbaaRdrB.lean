/- What next and From do: the reader's next bytes, or its first error; a new reader. No condition but sizes. -/
import Derived.Test.YtmnkgmadogkjbaaRdrA
namespace Go.Proofs.Ytmnkgmadogkjbaa.Pack
open Go.ChangeShapes Go.WideShapes Go.ChangeAt Go.RowKit Go.Proofs.Ytmnkgmadogkjbaa.Kit Go.Proofs.Ytmnkgmadogkjbaa.Mem
set_option linter.unusedVariables false
/-- Are there so many bytes, and nothing is wrong? -/
def okT (p e m : Int) (n : Nat) : Bool := decide (0 ≤ m ∧ m ≤ n - p ∧ e = 0)
/-- The error behind asking for m bytes. -/
def errT (p e m : Int) (n : Nat) : Int := if m < 0 then failE e 1 else if n - p < m then failE e 250 else e
def atT (p e m : Int) (n : Nat) : Int := if okT p e m n = true then p + m else p
theorem okT_true (p e m : Int) (n : Nat) (h : 0 ≤ m ∧ m ≤ n - p ∧ e = 0) : okT p e m n = true := by unfold okT; exact decide_eq_true h
theorem errT_ne (p e m : Int) (n : Nat) (h : ¬ okT p e m n = true) : errT p e m n ≠ 0 := by
  unfold okT at h
  unfold errT failE
  simp only [decide_eq_true_eq] at h
  repeat' split
  all_goals omega
section
variable (g : Nat) (p e m : Int) (A : Option Addr) (n c : Nat) (w : World)
theorem next_bad (h : RB w g p e A n c) (hp : 0 ≤ p ∧ p ≤ n) (hn : n ≤ 1099511627776) (hm : -9223372036854775808 ≤ m ∧ m ≤ 9223372036854775807) (hno : ¬ okT p e m n = true) :
    Calls Try.prog 26 #[.pointer (some ⟨g, 0, none⟩), .int .i64 m] w (fun en w' => en = .returned (.slice none 0 0) ∧ RB w' g (p) (errT p e m n) A n c ∧ w.grownBy w' (some g)) := by
  have hne := errT_ne p e m n hno
  obtain ⟨hl, c0, c1, c2, d0, d1, d2⟩ := rb_facts h
  by_cases h1 : m < 0
  · have he : errT p e m n = failE e 1 := by unfold errT; rw [if_pos h1]
    rw [he] at hne ⊢
    have hb : (failE e 1 != 0) = true := by simpa using hne
    have HE := hide he
    have HN := hide hne
    clear he hne hno
    go_enter Try.func26, Try.ntmps26
    go_wp2_with (go_at_call 25; refine (fail_any g p e 1 A n c _ h).mono ?_; rintro en w1 ⟨rfl, hrb, hu⟩; obtain ⟨gl, k0, k1, k2, f0, f1, f2⟩ := rb_facts hrb; have HR := hide hrb; clear hrb c0 c1 c2 d0 d1 d2)
    go_ret
    exact ⟨rfl, HR.out, hu⟩
  · by_cases h2 : n - p < m
    · have he : errT p e m n = failE e 250 := by unfold errT; rw [if_neg h1, if_pos h2]
      rw [he] at hne ⊢
      have hb : (failE e 250 != 0) = true := by simpa using hne
      have HE := hide he
      have HN := hide hne
      clear he hne hno
      go_enter Try.func26, Try.ntmps26
      go_wp2
      go_quiet (fail)
      go_wp2_with (go_at_call 25; refine (fail_any g p e 250 A n c _ (rb_drewN h _)).mono ?_; rintro en w1 ⟨rfl, hrb, hu⟩; obtain ⟨gl, k0, k1, k2, f0, f1, f2⟩ := rb_facts hrb; have HR := hide hrb; clear hrb c0 c1 c2 d0 d1 d2)
      go_ret
      exact ⟨rfl, HR.out, (up_drewN (up_refl _ _) _).trans hu⟩
    · have he : errT p e m n = e := by unfold errT; rw [if_neg h1, if_neg h2]
      rw [he] at hne ⊢
      have hb : (e != 0) = true := by simpa using hne
      have HH := hide h
      clear he hne hno h
      go_enter Try.func26, Try.ntmps26
      go_wp2
      go_quiet (fail)
      go_wp2
      go_ret
      exact ⟨rfl, rb_drewN HH.out _, up_drewN (up_refl _ _) _⟩
theorem next_ok (k m : Nat) (h : RB w g k 0 A n c) (hm : k + m ≤ n) (hn : n ≤ 1099511627776) (hc : n ≤ c) (hcm : c ≤ 9223372036854775807) :
    Calls Try.prog 26 #[.pointer (some ⟨g, 0, none⟩), .int .i64 m] w (fun en w' => en = .returned (.slice (if c = k then A else A.map (·.add k)) m (c - k)) ∧ RB w' g ((k : Int) + m) (0) A n c ∧ w.grownBy w' (some g)) := by
  obtain ⟨hl, c0, c1, c2, d0, d1, d2⟩ := rb_facts h
  have HH := hide h
  clear h
  have e1 : (k : Int) + m - m = k := by omega
  have e2 : ((k : Int) + m).toNat = k + m := by omega
  have e3 : k + m - k = m := by omega
  by_cases hck : c = k
  · subst hck
    rw [if_pos rfl, Nat.sub_self]
    go_enter Try.func26, Try.ntmps26
    go_wp2
    go_quiet (fail)
    go_wp2
    go_quiet (fail)
    go_wp2
    go_ret
    exact ⟨rfl, rb_drewN (rb_set0 (rb_drewN HH.out _) _) _, up_drewN (up_set (up_drewN (up_refl _ _) _) _ _) _⟩
  · rw [if_neg hck]
    go_enter Try.func26, Try.ntmps26
    go_wp2
    go_quiet (fail)
    go_wp2
    go_quiet (fail)
    go_wp2
    go_ret
    exact ⟨rfl, rb_drewN (rb_set0 (rb_drewN HH.out _) _) _, up_drewN (up_set (up_drewN (up_refl _ _) _) _ _) _⟩

def FromPost (w : World) (l : List Int) (en : Ending) (w' : World) : Prop :=
  ∃ g A c, en = .returned (.pointer (some ⟨g, 0, none⟩)) ∧ w.heap.size ≤ g ∧ RB w' g 0 0 A l.length c ∧ Bytes w' g A l.length l ∧ Below w.heap.size w w' ∧ l.length ≤ c ∧ c ≤ maxLen
theorem from_any (A : Option Addr) (n c : Nat) (l : List Int) (B : Nat) (w : World) (hb : Bytes w B A n l) (hB : B ≤ w.heap.size) (hn : n ≤ 1099511627776) : Calls Try.prog 22 #[.slice A n c] w (FromPost w l) := by
  have own0 := own_empty w 5
  have hb0 := bytes_alloc hb hB (.cells #[] 5)
  have hl := hb.1
  subst hl
  go_enter Try.func22, Try.ntmps22
  go_wp2_with (at_builtin; refine app_u8_0 rfl _ _ rfl w.heap.size _ _ rfl own0 B A _ c l rfl hb0 (by omega) (by simp) ?_; intro A1 c1 w1 hown hgrow hbel hcap hcm)
  go_ret
  exact ⟨_, A1, c1, rfl, (by have := hbel.size; simp at this; omega), heap_alloc_new w1 _, bytes_alloc (bytes_of_own hown) (Nat.le_refl _) _, (((Below.refl _ _).alloc (Nat.le_refl _) _).trans hbel).alloc (by have := hbel.size; simp at this; omega) _, hcap, hcm⟩
end
end Go.Proofs.Ytmnkgmadogkjbaa.Pack
