/- What U does: the next number. No condition but sizes. -/
import Derived.Test.YtmnkgmadogkjbaaRdrC
import Derived.WalkLawsBesides
import Derived.Handy
namespace Go.Proofs.Ytmnkgmadogkjbaa.Pack
open Go.ChangeShapes Go.WideShapes Go.ChangeAt Go.RowKit Go.Proofs.Ytmnkgmadogkjbaa.Kit Go.Proofs.Ytmnkgmadogkjbaa.Mem
set_option linter.unusedVariables false
/-- Bytes as a number, the highest first. -/
def beN (l : List Int) : Int := l.foldl (fun n x => n * 256 + x) 0
theorem beN_snoc (l : List Int) (x : Int) : beN (l ++ [x]) = beN l * 256 + x := by simp [beN]
theorem beN_from (l : List Int) (h : ∀ x ∈ l, 0 ≤ x ∧ x ≤ 255) : ∀ (k : Nat) (a : Int), 0 ≤ a → a < 256 ^ k → 0 ≤ l.foldl (fun n x => n * 256 + x) a ∧ l.foldl (fun n x => n * 256 + x) a < 256 ^ (k + l.length) := by
  induction l with
  | nil => intro k a h0 h1; exact ⟨h0, by simpa using h1⟩
  | cons x l ih =>
    intro k a h0 h1
    have hx := h x (by simp)
    have hp : (256 : Int) ^ (k + 1) = 256 ^ k * 256 := Int.pow_succ _ _
    have := ih (fun y hy => h y (by simp [hy])) (k + 1) (a * 256 + x) (by omega) (by omega)
    rw [List.foldl_cons, List.length_cons, show k + (l.length + 1) = k + 1 + l.length by omega]
    exact this
theorem beN_bound (l : List Int) (h : ∀ x ∈ l, 0 ≤ x ∧ x ≤ 255) : 0 ≤ beN l ∧ beN l < 256 ^ l.length := by
  have := beN_from l h 0 0 (by omega) (by decide)
  simpa [beN] using this
theorem pow_mono (j : Nat) (h : j ≤ 7) : (256 : Int) ^ j ≤ 72057594037927936 := by
  have : j = 0 ∨ j = 1 ∨ j = 2 ∨ j = 3 ∨ j = 4 ∨ j = 5 ∨ j = 6 ∨ j = 7 := by omega
  rcases this with rfl | rfl | rfl | rfl | rfl | rfl | rfl | rfl <;> decide
theorem or_byte (s x : Int) (h : 0 ≤ s ∧ s < 72057594037927936) (hx : 0 ≤ x ∧ x ≤ 255) : bits .or .u64 (s * 256) x = s * 256 + x := by
  obtain ⟨a, rfl⟩ := Int.eq_ofNat_of_zero_le h.1
  obtain ⟨b, rfl⟩ := Int.eq_ofNat_of_zero_le hx.1
  have e : ((a : Int) * 256) = ((2 ^ 8 * a : Nat) : Int) := by omega
  rw [e, bits_or_u64_nat _ _ (by omega) (by omega), ← Nat.two_pow_add_eq_or_of_lt (by omega)]
  omega
section
variable (g : Nat) (p e m : Int) (A : Option Addr) (n c : Nat) (w : World)
theorem u_notwide (h : RB w g p e A n c) (hw : wideB m = false) : Calls Try.prog 23 #[.pointer (some ⟨g, 0, none⟩), .int .i64 m] w (fun en w' => en = .returned (.int .u64 0) ∧ RB w' g (p) (failE e 1) A n c ∧ w.grownBy w' (some g)) := by
  go_enter Try.func23, Try.ntmps23
  go_wp2_with (first | (go_at_call 21; refine (wide_any _ _).mono ?_; rintro en w1 ⟨rfl, rfl⟩) | (go_at_call 25; refine (fail_any g p e _ A n c _ h).mono ?_; rintro en w1 ⟨rfl, hrb, hu⟩))
  go_ret
  exact ⟨rfl, hrb, hu⟩

theorem number_bad (h : RB w g p e A n c) (hp : 0 ≤ p ∧ p ≤ n) (hn : n ≤ 1099511627776) (hm : -9223372036854775808 ≤ m ∧ m ≤ 9223372036854775807) (hno : ¬ okT p e m n = true) :
    Calls Try.prog 27 #[.func (.func 26) #[.pointer (some ⟨g, 0, none⟩)] #[], .int .i64 m] w (fun en w' => en = .returned (.int .u64 0) ∧ RB w' g (p) (errT p e m n) A n c ∧ w.grownBy w' (some g)) := by
  go_enter Try.func27, Try.ntmps27
  go_wp2_with (go_at_call 26; refine (next_bad g p e m A n c _ h hp hn hm hno).mono ?_; rintro en w1 ⟨rfl, hrb, hu⟩)
  refine wp_loop_rounds 1 ?_
  rw [rounds_succ]
  go_wp2
  go_ret
  exact ⟨rfl, hrb, hu⟩
theorem u_bad (h : RB w g p e A n c) (hw : wideB m = true) (hp : 0 ≤ p ∧ p ≤ n) (hn : n ≤ 1099511627776) (hm : -9223372036854775808 ≤ m ∧ m ≤ 9223372036854775807) (hno : ¬ okT p e m n = true) :
    Calls Try.prog 23 #[.pointer (some ⟨g, 0, none⟩), .int .i64 m] w (fun en w' => en = .returned (.int .u64 0) ∧ RB w' g (p) (errT p e m n) A n c ∧ w.grownBy w' (some g)) := by
  go_enter Try.func23, Try.ntmps23
  go_wp2_with (first | (go_at_call 21; refine (wide_any _ _).mono ?_; rintro en w1 ⟨rfl, rfl⟩) | (go_at_call 27; refine (number_bad g p e m A n c _ h hp hn hm hno).mono ?_; rintro en w1 ⟨rfl, hrb, hu⟩))
  go_ret
  exact ⟨rfl, hrb, hu⟩
end
section
variable (g : Nat) (A : Option Addr) (l : List Int) (c : Nat) (w : World)
theorem number_ok (k q : Nat) (h : RB w g k 0 A l.length c) (hb : Bytes w g A l.length l) (hr : ∀ x ∈ l, 0 ≤ x ∧ x ≤ 255) (hm : k + q ≤ l.length) (hq : q ≤ 8) (hn : l.length ≤ 1099511627776) (hc : l.length ≤ c) (hcm : c ≤ 9223372036854775807) :
    Calls Try.prog 27 #[.func (.func 26) #[.pointer (some ⟨g, 0, none⟩)] #[], .int .i64 q] w (fun en w' => en = .returned (.int .u64 (beN ((l.drop k).take q))) ∧ RB w' g ((k : Int) + q) (0) A l.length c ∧ w.grownBy w' (some g)) := by
  have hgl := (rb_facts h).1
  go_enter Try.func27, Try.ntmps27
  go_wp2_with (go_at_call 26; refine (next_ok g A l.length c _ k q h hm hn hc hcm).mono ?_; rintro en w1 ⟨rfl, hrb, hu⟩; have hb1 := bytes_take (bytes_cut (bytes_up hb hu (Nat.le_refl _) (by omega)) (k := k) (c := c) (by omega) hc) (k := q) (by omega); generalize (if c = k then A else A.map (·.add k)) = A3 at hb1 ⊢)
  have hr2 : ∀ x ∈ (l.drop k).take q, 0 ≤ x ∧ x ≤ 255 := fun x hx => hr x (List.mem_of_mem_drop (List.mem_of_mem_take hx))
  have HU := hide hu
  have HRB := hide hrb
  clear hu hrb h hb hr
  generalize hLL : (l.drop k).take q = L at *
  have hL := hb1.1
  subst hL
  have HLL := hide hLL
  clear hLL
  have HC := hide hb1.2
  have HR := hide hr2
  clear hb1 hr2
  go_loop [5, 7, 12] (fun s _ i => ∃ j : Nat, j ≤ L.length ∧ i = .int .i64 j ∧ s = .int .u64 (beN (L.take j))) (fun _ _ i => L.length - (intOf i).toNat)
  case atStart => exact ⟨0, Nat.zero_le _, rfl, rfl⟩
  case round =>
    obtain ⟨j, hj, rfl, rfl⟩ := hrel
    by_cases hlt : j < L.length
    · obtain ⟨b, off, rfl, hb0, hcell⟩ := HC.out (by omega)
      have hx := HR.out (L[j]) (List.getElem_mem hlt)
      have hcw := hcell j hlt
      simp only [List.getD_eq_getElem?_getD, List.getElem?_eq_getElem hlt, Option.getD_some] at hcw
      clear hcell
      have hbd := beN_bound (L.take j) fun x hx => HR.out x (List.mem_of_mem_take hx)
      have hpw := pow_mono j (by omega)
      rw [List.length_take, Nat.min_eq_left hj] at hbd
      have hbd2 : 0 ≤ beN (L.take j) ∧ beN (L.take j) < 72057594037927936 := ⟨hbd.1, by omega⟩
      clear hbd hpw
      have HS : Hid (beN (L.take (j + 1)) = beN (L.take j) * 256 + L[j]) := by
        rw [← beN_snoc, List.take_succ_eq_append_getElem hlt]; exact rfl
      generalize L[j] = x at *
      generalize beN (L.take j) = s at *
      go_wp2
      go_round
      case rel => exact ⟨j + 1, by omega, by go_num, by rw [HS.out, or_byte s x hbd2 hx]⟩
      case measure => simp [intOf]; omega
    · obtain rfl : j = L.length := by omega
      go_wp2
      go_ret
      exact ⟨by rw [HLL.out]; rfl, HRB.out, HU.out⟩
theorem u_ok (k q : Nat) (h : RB w g k 0 A l.length c) (hb : Bytes w g A l.length l) (hr : ∀ x ∈ l, 0 ≤ x ∧ x ≤ 255) (hm : k + q ≤ l.length) (hw : wideB q = true) (hq : q ≤ 8) (hn : l.length ≤ 1099511627776) (hc : l.length ≤ c) (hcm : c ≤ 9223372036854775807) :
    Calls Try.prog 23 #[.pointer (some ⟨g, 0, none⟩), .int .i64 q] w (fun en w' => en = .returned (.int .u64 (beN ((l.drop k).take q))) ∧ RB w' g ((k : Int) + q) (0) A l.length c ∧ w.grownBy w' (some g)) := by
  go_enter Try.func23, Try.ntmps23
  go_wp2_with (first | (go_at_call 21; refine (wide_any _ _).mono ?_; rintro en w1 ⟨rfl, rfl⟩) | (go_at_call 27; refine (number_ok g A l c _ k q h hb hr hm hq hn hc hcm).mono ?_; rintro en w1 ⟨rfl, hrb, hu⟩))
  go_ret
  exact ⟨rfl, hrb, hu⟩
end
/-- What U answers, where the reader stands then, and its error. -/
def uVal (l : List Int) (p e m : Int) : Int := if wideB m = true then beN (takeT l p e m) else 0
def uAt (p e m : Int) (n : Nat) : Int := if wideB m = true then atT p e m n else p
def uErr (p e m : Int) (n : Nat) : Int := if wideB m = true then errT p e m n else failE e 1
theorem u_any (g : Nat) (p e m : Int) (A : Option Addr) (l : List Int) (c : Nat) (w : World) (h : RB w g p e A l.length c) (hb : Bytes w g A l.length l) (hr : ∀ x ∈ l, 0 ≤ x ∧ x ≤ 255) (hp : 0 ≤ p ∧ p ≤ l.length) (hn : l.length ≤ 1099511627776) (hc : l.length ≤ c) (hcm : c ≤ 9223372036854775807) (hm : -9223372036854775808 ≤ m ∧ m ≤ 9223372036854775807) :
    Calls Try.prog 23 #[.pointer (some ⟨g, 0, none⟩), .int .i64 m] w (fun en w' => en = .returned (.int .u64 (uVal l p e m)) ∧ RB w' g (uAt p e m l.length) (uErr p e m l.length) A l.length c ∧ w.grownBy w' (some g)) := by
  unfold uVal uAt uErr
  by_cases hw : wideB m = true
  · rw [if_pos hw, if_pos hw, if_pos hw]
    by_cases hok : okT p e m l.length = true
    · have h2 : 0 ≤ m ∧ m ≤ l.length - p ∧ e = 0 := by unfold okT at hok; exact of_decide_eq_true hok
      have h3 : 1 ≤ m ∧ m ≤ 8 := by unfold wideB at hw; exact of_decide_eq_true hw
      obtain ⟨k, rfl⟩ := Int.eq_ofNat_of_zero_le hp.1
      obtain ⟨q, rfl⟩ := Int.eq_ofNat_of_zero_le h2.1
      obtain rfl := h2.2.2
      have e1 : takeT l k 0 q = (l.drop k).take q := by unfold takeT; rw [if_pos hok]; simp
      have e2 : atT k 0 q l.length = (k : Int) + q := by unfold atT; rw [if_pos hok]
      have e3 : errT k 0 q l.length = 0 := by unfold errT; rw [if_neg (by omega), if_neg (by omega)]
      rw [e1, e2, e3]
      exact u_ok g A l c w k q h hb hr (by omega) hw (by omega) hn hc hcm
    · have e1 : takeT l p e m = [] := by unfold takeT; rw [if_neg hok]
      have e2 : atT p e m l.length = p := by unfold atT; rw [if_neg hok]
      rw [e1, e2]
      exact u_bad g p e m A l.length c w h hw hp hn hm hok
  · rw [if_neg hw, if_neg hw, if_neg hw]
    exact u_notwide g p e m A l.length c w h (by simpa using hw)
end Go.Proofs.Ytmnkgmadogkjbaa.Pack
