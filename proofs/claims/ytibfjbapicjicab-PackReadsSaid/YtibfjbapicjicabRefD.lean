/- What the reference of the reader does: I, walked. No condition but sizes. -/
import Derived.Test.YtibfjbapicjicabRefC
namespace Go.Proofs.Ytibfjbapicjicab.Pack
open Go.ChangeShapes Go.WideShapes Go.ChangeAt Go.RowKit Go.Proofs.Ytibfjbapicjicab.Kit Go.Proofs.Ytibfjbapicjicab.Mem
set_option linter.unusedVariables false
section
variable (A : Option Addr) (l : List Int) (c : Nat) (p e m : Int) (w : World)
theorem ri_not (hw : ¬ wideB m = true) : Calls Try.prog 32 #[.agg #[.slice A l.length c, .int .i64 (p), .int .i64 (e)], .int .i64 m] w fun en w' => en = .returned (.tuple #[.agg #[.slice A l.length c, .int .i64 (uAt p e m l.length), .int .i64 (uErr p e m l.length)], .int .i64 (iVal l p e m)]) ∧ Below w.heap.size w w' := by
  have h3 : ¬ (1 ≤ m ∧ m ≤ 8) := fun x => hw (by unfold wideB; exact decide_eq_true x)
  unfold uAt uErr iVal
  rw [if_neg hw, if_neg hw, if_neg hw]
  clear hw
  by_cases h1 : m < 1
  all_goals
    go_enter Try.func32, Try.ntmps32
    go_wp2_with (first | (go_at_call 35; refine (rfail_any _ _ _ _ _ _ _).mono ?_; rintro e w1 ⟨rfl, hb⟩; obtain ⟨hS, hE, hz, hc, hf⟩ := bcell hb; (try simp only [go_sem] at hE); subst hE))
    refine bodyPost_ret (v := .tuple #[.agg #[.slice A l.length c, .int .i64 (p), .int .i64 (failE e 1)], .int .i64 0]) ?_ rfl ⟨rfl, (by repeat' (first | (with_reducible exact Below.refl _ _) | (with_reducible refine below_drewN ?_ _) | (with_reducible refine Below.drew ?_) | (with_reducible refine Below.alloc ?_ ?_ _) | (with_reducible refine Below.setCell ?_ ?_ _) | (with_reducible refine below_step ?_ (by assumption) ?_) | go_size))⟩
    simp only [results, Try.results32]
    go_simp
theorem iVal_is (hw : wideB m = true) (hr : ∀ x ∈ l, 0 ≤ x ∧ x ≤ 255) (hp : 0 ≤ p ∧ p ≤ l.length) : iVal l p e m = riL (takeT l p e m) := by
  have h3 : 1 ≤ m ∧ m ≤ 8 := by unfold wideB at hw; exact of_decide_eq_true hw
  unfold iVal uVal
  rw [if_pos hw, if_pos hw]
  by_cases hok : okT p e m l.length = true
  · have h2 : 0 ≤ m ∧ m ≤ l.length - p ∧ e = 0 := by unfold okT at hok; exact of_decide_eq_true hok
    have hl : (takeT l p e m).length = m.toNat := by unfold takeT; rw [if_pos hok]; simp; omega
    rw [riL_sgn _ (by omega) (by omega) (takeT_range hr), hl]
  · have ht : takeT l p e m = [] := by unfold takeT; rw [if_neg hok]
    rw [ht]
    exact sgn_zero _
theorem riL_mid (L : List Int) (j : Nat) (hj : j < L.length) (h0 : 0 < j) (h8 : L.length ≤ 8) (hr : ∀ x ∈ L, 0 ≤ x ∧ x ≤ 255) :
    riL (L.take (j + 1)) = 256 * riL (L.take j) + L[j] ∧ -36028797018963968 ≤ riL (L.take j) ∧ riL (L.take j) < 36028797018963968 := by
  obtain ⟨x, r, hxr⟩ : ∃ x r, L.take j = x :: r := by
    match h : L.take j with
    | [] => exfalso; have := congrArg List.length h; rw [List.length_take, List.length_nil] at this; omega
    | x :: r => exact ⟨x, r, rfl⟩
  have hlen : r.length + 1 = j := by have := congrArg List.length hxr; rw [List.length_take, List.length_cons] at this; omega
  have hr2 : ∀ y ∈ x :: r, 0 ≤ y ∧ y ≤ 255 := fun y hy => hr y (List.mem_of_mem_take (hxr ▸ hy))
  refine ⟨?_, ?_⟩
  · rw [List.take_succ_eq_append_getElem hj, hxr]
    exact riL_snoc x r _
  · rw [hxr]
    have hb := riL_bound x r (hr2 x (by simp)) fun y hy => hr2 y (by simp [hy])
    have hp : (256 : Int) ^ r.length ≤ 281474976710656 := by
      have : r.length = 0 ∨ r.length = 1 ∨ r.length = 2 ∨ r.length = 3 ∨ r.length = 4 ∨ r.length = 5 ∨ r.length = 6 := by omega
      rcases this with h | h | h | h | h | h | h <;> rw [h] <;> decide
    omega
set_option maxHeartbeats 1000000 in
theorem ri_yes (hw : wideB m = true) (hb : Bytes w w.heap.size A l.length l) (hr : ∀ x ∈ l, 0 ≤ x ∧ x ≤ 255) (hp : 0 ≤ p ∧ p ≤ l.length) (hn : l.length ≤ 1099511627776) (hc : l.length ≤ c) (hcm : c ≤ 9223372036854775807) : Calls Try.prog 32 #[.agg #[.slice A l.length c, .int .i64 (p), .int .i64 (e)], .int .i64 m] w fun en w' => en = .returned (.tuple #[.agg #[.slice A l.length c, .int .i64 (uAt p e m l.length), .int .i64 (uErr p e m l.length)], .int .i64 (iVal l p e m)]) ∧ Below w.heap.size w w' := by
  have h3 : 1 ≤ m ∧ m ≤ 8 := by unfold wideB at hw; exact of_decide_eq_true hw
  have hL8 : (takeT l p e m).length ≤ 8 := okT_wide (n := 0) hw
  have hRG := hide (takeT_range (p := p) (e := e) (m := m) hr)
  rw [iVal_is l p e m hw hr hp]
  unfold uAt uErr
  rw [if_pos hw, if_pos hw]
  clear hw hr
  have hbW := fun o1 o2 => bytes_more (bytes_alloc (bytes_alloc hb (Nat.le_refl _) o1) (by simp) o2) (B1 := ((w.alloc o1).alloc o2).heap.size) (by simp; omega)
  have HB := hide hbW
  clear hbW hb
  go_enter Try.func32, Try.ntmps32
  go_wp2_with (go_at_call 33; refine (rtake_any A l c p e m _ (HB.out _ _) hp hn hc hcm).mono ?_; rintro en w1 ⟨A2, c2, rfl, hown, hb⟩; obtain ⟨hS, hE, hz, hC, hF⟩ := bcell hb; (try simp only [go_sem] at hE); subst hE)
  generalize hLL : takeT l p e m = L at *
  have HLL := hide hLL
  clear hLL
  go_loop [7, 8] (fun s i => ∃ j : Nat, j ≤ L.length ∧ i = .int .i64 j ∧ s = .int .i64 (riL (L.take j))) (fun _ i => L.length - (intOf i).toNat)
  case atStart => exact ⟨0, Nat.zero_le _, rfl, rfl⟩
  case round =>
    obtain ⟨j, hj, rfl, rfl⟩ := hrel
    by_cases hlt : j < L.length
    · obtain ⟨b, rfl, hb0, hb1, hcell⟩ := own_cells hown (by omega)
      simp only [go_sem] at hb0
      by_cases hj0 : j = 0
      · subst hj0
        have hx := hRG.out (L[0]) (List.getElem_mem hlt)
        have hcw := hcell 0 hlt
        clear hcell
        have HS : Hid (riL (L.take (0 + 1)) = if (127 : Int) < L[0] then L[0] - 256 else L[0]) := by
          have : L.take (0 + 1) = [L[0]] := by rw [List.take_succ_eq_append_getElem hlt]; rfl
          show riL (L.take (0 + 1)) = _
          rw [this, riL_cons]
          simp [beN]
        have hz0 : riL [] = 0 := rfl
        generalize L[0] = x at *
        by_cases hx7 : 127 < x
        · go_wp2
          go_round
          case rel => exact ⟨1, by omega, by go_num, by rw [show (1 : Nat) = 0 + 1 from rfl, HS.out, if_pos hx7]; congr 1; omega⟩
          case measure => simp [intOf]; omega
        · go_wp2
          go_round
          case rel => exact ⟨1, by omega, by go_num, by rw [show (1 : Nat) = 0 + 1 from rfl, HS.out, if_neg hx7]⟩
          case measure => simp [intOf]; omega
      · have hx := hRG.out (L[j]) (List.getElem_mem hlt)
        have hcw := hcell j hlt
        clear hcell
        have hb9 : ((j : Int) == 0) = false := by simp; omega
        obtain ⟨hs1, hs2, hs3⟩ := riL_mid L j hlt (by omega) hL8 hRG.out
        have HS := hide hs1
        clear hs1
        generalize L[j] = x at *
        generalize riL (L.take j) = s at *
        go_wp2
        go_round
        case rel => exact ⟨j + 1, by omega, by go_num, by rw [HS.out]⟩
        case measure => simp [intOf]; omega
    · obtain rfl : j = L.length := by omega
      go_wp2
      refine bodyPost_ret (v := .tuple #[.agg #[.slice A l.length c, .int .i64 (atT p e m l.length), .int .i64 (errT p e m l.length)], .int .i64 (riL L)]) ?_ rfl ⟨by rw [HLL.out], (by repeat' (first | (with_reducible exact Below.refl _ _) | (with_reducible refine below_drewN ?_ _) | (with_reducible refine Below.drew ?_) | (with_reducible refine Below.alloc ?_ ?_ _) | (with_reducible refine Below.setCell ?_ ?_ _) | (with_reducible refine below_step ?_ (by assumption) ?_) | go_size))⟩
      simp only [results, Try.results32]
      go_simp
theorem ri_any (hb : Bytes w w.heap.size A l.length l) (hr : ∀ x ∈ l, 0 ≤ x ∧ x ≤ 255) (hp : 0 ≤ p ∧ p ≤ l.length) (hn : l.length ≤ 1099511627776) (hc : l.length ≤ c) (hcm : c ≤ 9223372036854775807) : Calls Try.prog 32 #[.agg #[.slice A l.length c, .int .i64 (p), .int .i64 (e)], .int .i64 m] w fun en w' => en = .returned (.tuple #[.agg #[.slice A l.length c, .int .i64 (uAt p e m l.length), .int .i64 (uErr p e m l.length)], .int .i64 (iVal l p e m)]) ∧ Below w.heap.size w w' := by
  by_cases hw : wideB m = true
  · exact ri_yes A l c p e m w hw hb hr hp hn hc hcm
  · exact ri_not A l c p e m w hw
end
end Go.Proofs.Ytibfjbapicjicab.Pack
