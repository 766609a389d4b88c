/- What the reference of the reader does: U. No condition but sizes. -/
import Derived.Test.YtibfjbapicjicabRefA
namespace Go.Proofs.Ytibfjbapicjicab.Pack
open Go.ChangeShapes Go.WideShapes Go.ChangeAt Go.RowKit Go.Proofs.Ytibfjbapicjicab.Kit Go.Proofs.Ytibfjbapicjicab.Mem
set_option linter.unusedVariables false
theorem own_cells {w : World} {base n c : Nat} {t : TypeId} {A : Option Addr} {l : List Int} (h : w.ownsRow base t 1 (.slice A n c) n (BV l)) (h0 : 0 < n) :
    ∃ b, A = some ⟨b, 0, none⟩ ∧ base ≤ b ∧ b < w.heap.size ∧ ∀ j, (hj : j < l.length) → w.cell? ⟨b, j, none⟩ = some (.int .u8 l[j]) := by
  have hl : l.length = n := by have := h.1; simpa [BV] using this
  obtain ⟨g, cap, hv, hb, hlt⟩ := h.form h0
  have hA : A = some ⟨g, 0, none⟩ := by injection hv
  subst hA
  refine ⟨g, rfl, hb, hlt, fun j hj => ?_⟩
  have := h.cellAt j (by omega)
  rw [this]
  simp [BV, hj]
theorem okT_wide {p e m : Int} {n : Nat} {l : List Int} (h : wideB m = true) : (takeT l p e m).length ≤ 8 := by
  unfold wideB at h
  have := of_decide_eq_true h
  unfold takeT; split <;> simp; omega
theorem takeT_range {l : List Int} {p e m : Int} (hr : ∀ x ∈ l, 0 ≤ x ∧ x ≤ 255) : ∀ x ∈ takeT l p e m, 0 ≤ x ∧ x ≤ 255 := by
  intro x hx
  unfold takeT at hx
  split at hx
  · exact hr x (List.mem_of_mem_drop (List.mem_of_mem_take hx))
  · cases hx
section
variable (A : Option Addr) (l : List Int) (c : Nat) (p e m : Int) (w : World)
theorem ru_not (hw : ¬ wideB m = true) : Calls Try.prog 31 #[.agg #[.slice A l.length c, .int .i64 (p), .int .i64 (e)], .int .i64 m] w fun en w' => en = .returned (.tuple #[.agg #[.slice A l.length c, .int .i64 (uAt p e m l.length), .int .i64 (uErr p e m l.length)], .int .u64 (uVal l p e m)]) ∧ Below w.heap.size w w' := by
  have h3 : ¬ (1 ≤ m ∧ m ≤ 8) := fun x => hw (by unfold wideB; exact decide_eq_true x)
  unfold uAt uErr uVal
  rw [if_neg hw, if_neg hw, if_neg hw]
  clear hw
  by_cases h1 : m < 1
  all_goals
    go_enter Try.func31, Try.ntmps31
    go_wp2_with (first | (go_at_call 35; refine (rfail_any _ _ _ _ _ _ _).mono ?_; rintro e w1 ⟨rfl, hb⟩; obtain ⟨hS, hE, hz, hc, hf⟩ := bcell hb; (try simp only [go_sem] at hE); subst hE))
    refine bodyPost_ret (v := .tuple #[.agg #[.slice A l.length c, .int .i64 (p), .int .i64 (failE e 1)], .int .u64 0]) ?_ rfl ⟨rfl, (by repeat' (first | (with_reducible exact Below.refl _ _) | (with_reducible refine below_drewN ?_ _) | (with_reducible refine Below.drew ?_) | (with_reducible refine Below.alloc ?_ ?_ _) | (with_reducible refine Below.setCell ?_ ?_ _) | (with_reducible refine below_step ?_ (by assumption) ?_) | go_size))⟩
    simp only [results, Try.results31]
    go_simp
theorem ru_yes (hw : wideB m = true) (hb : Bytes w w.heap.size A l.length l) (hr : ∀ x ∈ l, 0 ≤ x ∧ x ≤ 255) (hp : 0 ≤ p ∧ p ≤ l.length) (hn : l.length ≤ 1099511627776) (hc : l.length ≤ c) (hcm : c ≤ 9223372036854775807) : Calls Try.prog 31 #[.agg #[.slice A l.length c, .int .i64 (p), .int .i64 (e)], .int .i64 m] w fun en w' => en = .returned (.tuple #[.agg #[.slice A l.length c, .int .i64 (uAt p e m l.length), .int .i64 (uErr p e m l.length)], .int .u64 (uVal l p e m)]) ∧ Below w.heap.size w w' := by
  have h3 : 1 ≤ m ∧ m ≤ 8 := by unfold wideB at hw; exact of_decide_eq_true hw
  have hL8 : (takeT l p e m).length ≤ 8 := okT_wide (n := 0) hw
  have hRG := hide (takeT_range (p := p) (e := e) (m := m) hr)
  unfold uAt uErr uVal
  rw [if_pos hw, if_pos hw, if_pos hw]
  clear hw hr
  have hbW := fun o1 o2 => bytes_more (bytes_alloc (bytes_alloc hb (Nat.le_refl _) o1) (by simp) o2) (B1 := ((w.alloc o1).alloc o2).heap.size) (by simp; omega)
  have HB := hide hbW
  clear hbW hb
  go_enter Try.func31, Try.ntmps31
  go_wp2_with (go_at_call 33; refine (rtake_any A l c p e m _ (HB.out _ _) hp hn hc hcm).mono ?_; rintro en w1 ⟨A2, c2, rfl, hown, hb⟩; obtain ⟨hS, hE, hz, hC, hF⟩ := bcell hb; (try simp only [go_sem] at hE); subst hE)
  generalize hLL : takeT l p e m = L at *
  have HLL := hide hLL
  clear hLL
  go_loop [7, 8] (fun s i => ∃ j : Nat, j ≤ L.length ∧ i = .int .i64 j ∧ s = .int .u64 (beN (L.take j))) (fun _ i => L.length - (intOf i).toNat)
  case atStart => exact ⟨0, Nat.zero_le _, rfl, rfl⟩
  case round =>
    obtain ⟨j, hj, rfl, rfl⟩ := hrel
    by_cases hlt : j < L.length
    · obtain ⟨b, rfl, hb0, hb1, hcell⟩ := own_cells hown (by omega)
      have hx := hRG.out (L[j]) (List.getElem_mem hlt)
      have hcw := hcell j hlt
      simp only [go_sem] at hb0
      clear hcell
      have hbd := beN_bound (L.take j) fun x hx => hRG.out x (List.mem_of_mem_take hx)
      have hpw := pow_mono j (by omega)
      rw [List.length_take, Nat.min_eq_left hj] at hbd
      have hbd2 : 0 ≤ beN (L.take j) ∧ beN (L.take j) < 72057594037927936 := ⟨hbd.1, by omega⟩
      clear hbd hpw
      have HS : Hid (beN (L.take (j + 1)) = beN (L.take j) * 256 + L[j]) := by
        rw [← beN_snoc, List.take_succ_eq_append_getElem hlt]; exact rfl
      generalize L[j] = x at *
      generalize beN (L.take j) = s at *
      go_wp2
      go_round
      case rel => exact ⟨j + 1, by omega, by go_num, by rw [HS.out, Int.mul_comm]⟩
      case measure => simp [intOf]; omega
    · obtain rfl : j = L.length := by omega
      go_wp2
      refine bodyPost_ret (v := .tuple #[.agg #[.slice A l.length c, .int .i64 (atT p e m l.length), .int .i64 (errT p e m l.length)], .int .u64 (beN L)]) ?_ rfl ⟨by rw [HLL.out], (by repeat' (first | (with_reducible exact Below.refl _ _) | (with_reducible refine below_drewN ?_ _) | (with_reducible refine Below.drew ?_) | (with_reducible refine Below.alloc ?_ ?_ _) | (with_reducible refine Below.setCell ?_ ?_ _) | (with_reducible refine below_step ?_ (by assumption) ?_) | go_size))⟩
      simp only [results, Try.results31]
      go_simp
theorem ru_any (hb : Bytes w w.heap.size A l.length l) (hr : ∀ x ∈ l, 0 ≤ x ∧ x ≤ 255) (hp : 0 ≤ p ∧ p ≤ l.length) (hn : l.length ≤ 1099511627776) (hc : l.length ≤ c) (hcm : c ≤ 9223372036854775807) : Calls Try.prog 31 #[.agg #[.slice A l.length c, .int .i64 (p), .int .i64 (e)], .int .i64 m] w fun en w' => en = .returned (.tuple #[.agg #[.slice A l.length c, .int .i64 (uAt p e m l.length), .int .i64 (uErr p e m l.length)], .int .u64 (uVal l p e m)]) ∧ Below w.heap.size w w' := by
  by_cases hw : wideB m = true
  · exact ru_yes A l c p e m w hw hb hr hp hn hc hcm
  · exact ru_not A l c p e m w hw
end
end Go.Proofs.Ytibfjbapicjicab.Pack
