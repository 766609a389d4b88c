/- The name of a place is read as it, and what is read is that place's name: plain, no program in sight. No condition. -/
import Derived.Test.YtfckciblnojniaaDoorWellD
import Derived.Test.YtfckciblnojniaaDoorNumY
namespace Go.Proofs.YtfckciblnojniaaDoor.Well
open Go.ChangeShapes Go.WideShapes Go.ChangeAt Go.RowKit Go.Proofs.YtfckciblnojniaaDoor.Kit Go.Proofs.YtfckciblnojniaaDoor.Num Go.Deep Go.PlainAid
set_option linter.unusedVariables false
theorem drop_list (s : ByteArray) (k : Nat) : (s.extract k s.size).data.toList = s.data.toList.drop k := by
  rw [Lib.extract_data, List.take_of_length_le]
  rw [List.length_drop, ← size_len]
  omega
theorem itoa_succ (c : Nat) : Lib.itoa ((c : Int) + 1) = Lib.decDigits (c + 1) := by
  unfold Lib.itoa
  rw [if_neg (by omega)]
  rfl
theorem stop_of {D : ByteArray} {b : Nat} (hD : D.data.toList = Lib.decDigits (b + 1)) (hb : b ≤ 47) (row : Int) (h : rightP (row - 1) b = true) : stopW row D = (row - 1, (b : Int), 0) := by
  have e : parseS D = ((b : Int) + 1, 0) := by
    rw [parseS_list, hD, ← itoa_succ]
    exact read_of_text _ ⟨by omega, by omega⟩
  unfold stopW
  rw [e]
  simp only
  rw [show (b : Int) + 1 - 1 = b by omega]
  exact if_pos ⟨trivial, by omega, h⟩
theorem stop_inv (row : Int) (D : ByteArray) : stopW row D = (0, 0, 60) ∨ ∃ b : Nat, b ≤ 47 ∧ 0 ≤ row - 1 ∧ row - 1 ≤ 31 ∧ stopW row D = (row - 1, (b : Int), 0) ∧ D.data.toList = Lib.decDigits (b + 1) := by
  by_cases h : (parseS D).2 = 0 ∧ 1 ≤ (parseS D).1 ∧ rightP (row - 1) ((parseS D).1 - 1) = true
  · have e := (show stopW row D = (row - 1, (parseS D).1 - 1, 0) from if_pos h)
    obtain ⟨h1, h2, h3⟩ := h
    have h4 := of_decide_eq_true h3
    refine .inr ⟨((parseS D).1 - 1).toNat, by omega, by omega, by omega, ?_, ?_⟩
    · rw [e]
      congr 2
      omega
    · rw [parseS_list] at h1 h2 h4 ⊢
      rcases text_of_read D.data.toList with h5 | ⟨_, _, h7⟩
      · rw [h5] at h1
        cases h1
      · refine h7.symm.trans ?_
        clear h7
        generalize (parseL D.data.toList).1 = x at *
        obtain ⟨y, rfl⟩ : ∃ y : Nat, x = (y : Int) + 1 := ⟨(x - 1).toNat, by omega⟩
        rw [itoa_succ, show ((y : Int) + 1 - 1).toNat = y by omega]
  · exact .inl (if_neg h)
theorem fb_cons0 (x : UInt8) (l : List UInt8) : fb (x :: l) 0 = x.toNat := rfl
theorem fb_cons (x : UInt8) (l : List UInt8) (j : Nat) : fb (x :: l) (j + 1) = fb l j := rfl
theorem ltr_nat (k : Nat) (h : k < 26) : ((UInt8.ofNat (65 + k)).toNat : Int) = 65 + k := by
  rw [UInt8.toNat_ofNat']
  omega
/-- The name of a place is read as it. -/
theorem parse_name (a b : Nat) (ha : a ≤ 31) (hb : b ≤ 47) : parseW ⟨(nameB a b).toArray⟩ = ((a : Int), (b : Int), 0) := by
  obtain ⟨d1, d2, d3, d4⟩ := dec_ok (b + 1)
  have hd0 := allD_get d2 0 d1
  generalize hs : (⟨(nameB a b).toArray⟩ : ByteArray) = s
  have hl : s.data.toList = nameB a b := by rw [← hs]
  have hsz : s.size = (nameB a b).length := by rw [size_len, hl]
  have hbt : ∀ j, bt s j = fb (nameB a b) j := fun j => by rw [bt_fb, hl]
  unfold parseW
  by_cases h : a ≤ 25
  · have en : nameB a b = UInt8.ofNat (65 + a) :: Lib.decDigits (b + 1) := by
      unfold nameB ltr
      rw [if_neg (by omega), Nat.mod_eq_of_lt (by omega)]
      rfl
    have e0 : bt s 0 = 65 + a := by rw [hbt, en, fb_cons0, ltr_nat a (by omega)]
    have e1 : bt s 1 = fb (Lib.decDigits (b + 1)) 0 := by rw [hbt, en, fb_cons]
    have h1 : loopW s 2 0 0 = loopW s 1 1 (0 * 26 + (bt s 0 - 65) + 1) := if_pos ⟨by rw [hsz, en]; exact Nat.succ_pos _, by omega, by omega⟩
    have h2 : ∀ row, loopW s 1 1 row = stopW row (s.extract 1 s.size) := fun row => (if_neg (by rintro ⟨_, h3, _⟩; omega)).trans (if_neg (by decide))
    rw [h1, h2, stop_of (b := b) (by rw [drop_list, hl, en]; rfl) hb _ (decide_eq_true (by omega)), e0]
    congr 1
    omega
  · obtain ⟨q, hq⟩ : ∃ q, a = q + 26 := ⟨a - 26, by omega⟩
    have en : nameB a b = 65 :: UInt8.ofNat (65 + q) :: Lib.decDigits (b + 1) := by
      unfold nameB ltr
      rw [if_pos (by omega), show a % 26 = q by omega]
      rfl
    have e0 : bt s 0 = 65 := by rw [hbt, en, fb_cons0]; rfl
    have e1 : bt s 1 = 65 + q := by rw [hbt, en, fb_cons, fb_cons0, ltr_nat q (by omega)]
    have h1 : loopW s 2 0 0 = loopW s 1 1 (0 * 26 + (bt s 0 - 65) + 1) := if_pos ⟨by rw [hsz, en]; exact Nat.succ_pos _, by omega, by omega⟩
    have h2 : ∀ row, loopW s 1 1 row = loopW s 0 2 (row * 26 + (bt s 1 - 65) + 1) := fun row => if_pos ⟨by rw [hsz, en]; simp, by omega, by omega⟩
    have h3 : ∀ row, loopW s 0 2 row = stopW row (s.extract 2 s.size) := fun row => rfl
    rw [h1, h2, h3, stop_of (b := b) (by rw [drop_list, hl, en]; rfl) hb _ (decide_eq_true (by omega)), e0, e1]
    congr 1
    omega
theorem byte_eq (x : UInt8) (k : Nat) (h : ((x.toNat : Nat) : Int) = 65 + k) (hk : k < 26) : x = UInt8.ofNat (65 + k) := by
  apply UInt8.toNat_inj.1
  rw [UInt8.toNat_ofNat']
  omega
/-- What is read is the name of that place. -/
theorem parse_inv (s : ByteArray) : parseW s = (0, 0, 60) ∨ ∃ a b : Nat, a ≤ 31 ∧ b ≤ 47 ∧ parseW s = ((a : Int), (b : Int), 0) ∧ s = ⟨(nameB a b).toArray⟩ := by
  have hbt : ∀ j, bt s j = fb s.data.toList j := fun j => bt_fb s j
  have hsz := size_len s
  have hfin : ∀ l : List UInt8, s.data.toList = l → s = ⟨l.toArray⟩ := by
    intro l h
    subst h
    rfl
  generalize hl : s.data.toList = l at *
  by_cases h0 : 0 < s.size ∧ 65 ≤ bt s 0 ∧ bt s 0 ≤ 90
  · have h1 : parseW s = loopW s 1 1 (0 * 26 + (bt s 0 - 65) + 1) := if_pos h0
    obtain ⟨h00, h01, h02⟩ := h0
    obtain ⟨x, r, rfl⟩ : ∃ x r, l = x :: r := by
      match l, hsz with
      | [], h => rw [h] at h00; cases h00
      | x :: r, _ => exact ⟨x, r, rfl⟩
    rw [hbt, fb_cons0] at h01 h02
    rw [h1, hbt 0, fb_cons0]
    by_cases h2 : 1 < s.size ∧ 65 ≤ bt s 1 ∧ bt s 1 ≤ 90
    · have h3 : ∀ row, loopW s 1 1 row = stopW (row * 26 + (bt s 1 - 65) + 1) (s.extract 2 s.size) := fun row => if_pos h2
      obtain ⟨h20, h21, h22⟩ := h2
      obtain ⟨y, t, rfl⟩ : ∃ y t, r = y :: t := by
        match r, hsz with
        | [], h => rw [h] at h20; exact absurd h20 (Nat.lt_irrefl 1)
        | y :: t, _ => exact ⟨y, t, rfl⟩
      rw [hbt, fb_cons, fb_cons0] at h21 h22
      rw [h3, hbt 1, fb_cons, fb_cons0]
      rcases stop_inv ((0 * 26 + (((x.toNat : Nat) : Int) - 65) + 1) * 26 + (((y.toNat : Nat) : Int) - 65) + 1) (s.extract 2 s.size) with h4 | ⟨b, hb, h5, h6, h7, h8⟩
      · exact .inl h4
      · right
        obtain ⟨q, hq⟩ : ∃ q : Nat, ((y.toNat : Nat) : Int) = 65 + q := ⟨y.toNat - 65, by omega⟩
        have hx : ((x.toNat : Nat) : Int) = 65 + (0 : Nat) := by omega
        have hq2 : q < 26 := by omega
        refine ⟨26 + q, b, by omega, hb, ?_, ?_⟩
        · rw [h7]
          congr 1
          omega
        · apply hfin
          rw [drop_list, hl] at h8
          rw [byte_eq x 0 hx (by omega), byte_eq y q hq hq2]
          unfold nameB ltr
          rw [if_pos (by omega), ← h8, show (26 + q) % 26 = q by omega]
          rfl
    · have h3 : ∀ row, loopW s 1 1 row = stopW row (s.extract 1 s.size) := fun row => (if_neg h2).trans (if_neg (by decide))
      rw [h3]
      rcases stop_inv (0 * 26 + (((x.toNat : Nat) : Int) - 65) + 1) (s.extract 1 s.size) with h4 | ⟨b, hb, h5, h6, h7, h8⟩
      · exact .inl h4
      · right
        obtain ⟨q, hq⟩ : ∃ q : Nat, ((x.toNat : Nat) : Int) = 65 + q := ⟨x.toNat - 65, by omega⟩
        have hq2 : q < 26 := by omega
        refine ⟨q, b, by omega, hb, ?_, ?_⟩
        · rw [h7]
          congr 1
          omega
        · apply hfin
          rw [drop_list, hl] at h8
          rw [byte_eq x q hq hq2]
          unfold nameB ltr
          rw [if_neg (by omega), ← h8, show q % 26 = q by omega]
          rfl
  · exact .inl ((if_neg h0).trans (if_pos rfl))
theorem name_len (a b : Nat) (hb : b ≤ 47) : (⟨(nameB a b).toArray⟩ : ByteArray).size ≤ 4 := by
  have := dec_len 1 (b + 1) (by omega)
  rw [size_len]
  unfold nameB ltr
  split <;> simp <;> omega
/-- No place has this name. -/
theorem parse_no {s : ByteArray} (h : ∀ a b : Nat, a ≤ 31 → b ≤ 47 → nameS a b ≠ s) : parseW s = (0, 0, 60) := by
  rcases parse_inv s with h1 | ⟨a, b, ha, hb, _, h2⟩
  · exact h1
  · exact absurd (by rw [nameS_nat ha hb]; exact h2.symm) (h a b ha hb)
theorem parse_long {s : ByteArray} (h : 4 < s.size) : parseW s = (0, 0, 60) := by
  rcases parse_inv s with h1 | ⟨a, b, ha, hb, _, h2⟩
  · exact h1
  · have := name_len a b hb
    rw [← h2] at this
    omega
theorem parse_yes {s : ByteArray} {a b : Nat} (ha : a ≤ 31) (hb : b ≤ 47) (h : nameS a b = s) : parseW s = ((a : Int), (b : Int), 0) := by
  rw [← h, nameS_nat ha hb]
  exact parse_name a b ha hb
end Go.Proofs.YtfckciblnojniaaDoor.Well
