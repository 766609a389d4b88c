/- What I, End and Fail do, and what a nil reader answers. No condition but sizes. -/
import Derived.Test.YtibfjbapicjicabRdrD
namespace Go.Proofs.Ytibfjbapicjicab.Pack
open Go.ChangeShapes Go.WideShapes Go.ChangeAt Go.RowKit Go.Proofs.Ytibfjbapicjicab.Kit Go.Proofs.Ytibfjbapicjicab.Mem
set_option linter.unusedVariables false
section
variable (g : Nat) (p e : Int) (A : Option Addr) (l : List Int) (c : Nat) (w : World)
theorem end_any (h : RB w g p e A l.length c) (hp : 0 ≤ p ∧ p ≤ l.length) (hn : l.length ≤ 1099511627776) : Calls Try.prog 18 #[.pointer (some ⟨g, 0, none⟩)] w (fun en w' => en = .returned (.tuple #[]) ∧ RB w' g (p) (if p < l.length then failE e 251 else e) A l.length c ∧ w.grownBy w' (some g)) := by
  by_cases hlt : p < l.length
  · rw [if_pos hlt]
    go_enter Try.func18, Try.ntmps18
    go_wp2_with (first | (go_at_call 15; refine (left_any g p e A l.length c _ h hp hn).mono ?_; rintro en w1 ⟨rfl, hrb, hu⟩) | (go_at_call 29; refine (fail_any g p e 251 A l.length c _ hrb).mono ?_; rintro en w2 ⟨rfl, hrb2, hu2⟩))
    go_end0
    exact ⟨rfl, hrb2, hu.trans hu2⟩
  · rw [if_neg hlt]
    go_enter Try.func18, Try.ntmps18
    go_wp2_with (first | (go_at_call 15; refine (left_any g p e A l.length c _ h hp hn).mono ?_; rintro en w1 ⟨rfl, hrb, hu⟩))
    go_end0
    exact ⟨rfl, hrb, hu⟩
theorem fail_m (x : Int) (h : RB w g p e A l.length c) : Calls Try.prog 19 #[.pointer (some ⟨g, 0, none⟩), .int .i64 x] w (fun en w' => en = .returned (.tuple #[]) ∧ RB w' g (p) (failE e x) A l.length c ∧ w.grownBy w' (some g)) := by
  go_enter Try.func19, Try.ntmps19
  go_wp2_with (go_at_call 29; refine (fail_any g p e x A l.length c _ h).mono ?_; rintro en w1 ⟨rfl, hrb, hu⟩)
  go_end0
  exact ⟨rfl, hrb, hu⟩
end
theorem nil_end (w : World) : Calls Try.prog 18 #[.pointer none] w fun en w' => en = .returned (.tuple #[]) ∧ w = w' := by
  go_enter Try.func18, Try.ntmps18
  go_wp2
  go_end0
  exact ⟨rfl, rfl⟩
theorem nil_fail (x : Int) (w : World) : Calls Try.prog 19 #[.pointer none, .int .i64 x] w fun en w' => en = .returned (.tuple #[]) ∧ w = w' := by
  go_enter Try.func19, Try.ntmps19
  go_wp2
  go_end0
  exact ⟨rfl, rfl⟩
theorem nil_u (m : Int) (w : World) : Calls Try.prog 13 #[.pointer none, .int .i64 m] w fun en w' => en = .returned (.int .u64 0) ∧ w = w' := by
  go_enter Try.func13, Try.ntmps13
  go_wp2
  go_ret
  exact ⟨rfl, rfl⟩
theorem nil_take (m : Int) (w : World) : Calls Try.prog 12 #[.pointer none, .int .i64 m] w fun en w' => en = .returned (.slice none 0 0) ∧ w = w' := by
  go_enter Try.func12, Try.ntmps12
  go_wp2
  go_ret
  exact ⟨rfl, rfl⟩
theorem nil_at (w : World) : Calls Try.prog 17 #[.pointer none] w fun en w' => en = .returned (.int .i64 0) ∧ w = w' := by
  go_enter Try.func17, Try.ntmps17
  go_wp2
  go_ret
  exact ⟨rfl, rfl⟩
theorem nil_left (w : World) : Calls Try.prog 15 #[.pointer none] w fun en w' => en = .returned (.int .i64 0) ∧ w = w' := by
  go_enter Try.func15, Try.ntmps15
  go_wp2
  go_ret
  exact ⟨rfl, rfl⟩
theorem nil_err (w : World) : Calls Try.prog 14 #[.pointer none] w fun en w' => en = .returned (.int .i64 5) ∧ w = w' := by
  go_enter Try.func14, Try.ntmps14
  go_wp2
  go_ret
  exact ⟨rfl, rfl⟩
theorem nil_i_not (m : Int) (w : World) (hw : wideB m = false) : Calls Try.prog 20 #[.pointer none, .int .i64 m] w fun en w' => en = .returned (.int .i64 0) ∧ w = w' := by
  go_enter Try.func20, Try.ntmps20
  go_wp2_with (first | (go_at_call 13; refine (nil_u m _).mono ?_; rintro en w1 ⟨rfl, rfl⟩) | (go_at_call 27; refine (wide_any _ _).mono ?_; rintro en w1 ⟨rfl, rfl⟩))
  go_ret
  exact ⟨rfl, rfl⟩
/-- A number's lowest bytes, with a sign. -/
def sgn (n : Int) (k : Nat) : Int := wrap64 (IntKind.u64.wrap (n * 2 ^ (8 * (8 - k)))) / 2 ^ (8 * (8 - k))
theorem i_step (n : Int) (k : Nat) (w : World) (hw : wideB k = true) (hk : 1 ≤ k) (hk8 : k ≤ 8) (hn : 0 ≤ n ∧ n ≤ 18446744073709551615) (X : World → World → Prop) (ptr : Value)
    (hu : Calls Try.prog 13 #[ptr, .int .i64 k] w fun en w' => en = .returned (.int .u64 n) ∧ X w w') :
    Calls Try.prog 20 #[ptr, .int .i64 k] w fun en w' => en = .returned (.int .i64 (sgn n k)) ∧ X w w' := by
  have HU := hide hu
  clear hu
  go_enter Try.func20, Try.ntmps20
  go_wp2_with (first | (go_at_call 13; refine (unhide HU).mono ?_; rintro en w1 ⟨rfl, hx⟩; have HX := hide hx; clear hx) | (go_at_call 27; refine (wide_any _ _).mono ?_; rintro en w1 ⟨rfl, rfl⟩))
  go_ret
  exact ⟨rfl, HX.out⟩
theorem nil_i (m : Int) (w : World) : Calls Try.prog 20 #[.pointer none, .int .i64 m] w fun en w' => en = .returned (.int .i64 0) ∧ w = w' := by
  by_cases hw : wideB m = true
  · have h3 : 1 ≤ m ∧ m ≤ 8 := by unfold wideB at hw; exact of_decide_eq_true hw
    obtain ⟨k, rfl⟩ := Int.eq_ofNat_of_zero_le (show 0 ≤ m by omega)
    have := i_step 0 k w hw (by omega) (by omega) (by omega) (fun a b => a = b) (.pointer none) (nil_u k w)
    have e : sgn 0 k = 0 := by unfold sgn; rw [Int.zero_mul, IntWalk.u64_in 0 (by omega), IntWalk.wrap64_in 0 (by omega), Int.zero_ediv]
    rw [e] at this
    exact this
  · exact nil_i_not m w (by simpa using hw)
section
variable (g : Nat) (p e m : Int) (A : Option Addr) (l : List Int) (c : Nat) (w : World)
/-- What I answers. -/
def iVal (l : List Int) (p e m : Int) : Int := if wideB m = true then sgn (uVal l p e m) m.toNat else 0
theorem i_any (h : RB w g p e A l.length c) (hb : Bytes w g A l.length l) (hr : ∀ x ∈ l, 0 ≤ x ∧ x ≤ 255) (hp : 0 ≤ p ∧ p ≤ l.length) (hn : l.length ≤ 1099511627776) (hc : l.length ≤ c) (hcm : c ≤ 9223372036854775807) (hm : -9223372036854775808 ≤ m ∧ m ≤ 9223372036854775807) :
    Calls Try.prog 20 #[.pointer (some ⟨g, 0, none⟩), .int .i64 m] w (fun en w' => en = .returned (.int .i64 (iVal l p e m)) ∧ RB w' g (uAt p e m l.length) (uErr p e m l.length) A l.length c ∧ w.grownBy w' (some g)) := by
  have hu := u_any g p e m A l c w h hb hr hp hn hc hcm hm
  unfold iVal
  by_cases hw : wideB m = true
  · have h3 : 1 ≤ m ∧ m ≤ 8 := by unfold wideB at hw; exact of_decide_eq_true hw
    rw [if_pos hw]
    obtain ⟨k, rfl⟩ := Int.eq_ofNat_of_zero_le (show 0 ≤ m by omega)
    rw [Int.toNat_natCast]
    refine i_step (uVal l p e k) k w hw (by omega) (by omega) ?_ (fun a b => RB b g (uAt p e k l.length) (uErr p e k l.length) A l.length c ∧ a.grownBy b (some g)) (.pointer (some ⟨g, 0, none⟩)) hu
    unfold uVal
    rw [if_pos hw]
    have hb2 := beN_bound (takeT l p e k) (fun x hx => by unfold takeT at hx; split at hx; exact hr x (List.mem_of_mem_drop (List.mem_of_mem_take hx)); cases hx)
    have hl2 : (takeT l p e k).length ≤ 8 := by unfold takeT; split <;> simp <;> omega
    have hp2 : (256 : Int) ^ (takeT l p e k).length ≤ 18446744073709551616 := by
      generalize (takeT l p e k).length = j at hl2
      have : j = 0 ∨ j = 1 ∨ j = 2 ∨ j = 3 ∨ j = 4 ∨ j = 5 ∨ j = 6 ∨ j = 7 ∨ j = 8 := by omega
      rcases this with rfl | rfl | rfl | rfl | rfl | rfl | rfl | rfl | rfl <;> decide
    omega
  · have HU := hide hu
    clear hu
    have hw2 : wideB m = false := by simpa using hw
    rw [if_neg hw]
    go_enter Try.func20, Try.ntmps20
    go_wp2_with (first | (go_at_call 13; refine (unhide HU).mono ?_; rintro en w1 ⟨rfl, hx⟩; have HX := hide hx; clear hx) | (go_at_call 27; refine (wide_any _ _).mono ?_; rintro en w1 ⟨rfl, rfl⟩))
    go_ret
    exact ⟨rfl, HX.out⟩
end
end Go.Proofs.Ytibfjbapicjicab.Pack
