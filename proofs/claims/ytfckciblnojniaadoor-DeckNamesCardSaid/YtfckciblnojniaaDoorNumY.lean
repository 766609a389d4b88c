/- The text of a number is read as it, and a text that is read is that number's text: plain, no program in sight. No condition. -/
import Derived.Test.YtfckciblnojniaaDoorNumT
import Derived.Lib.ItoaNum
namespace Go.Proofs.YtfckciblnojniaaDoor.Num
open Go.ChangeShapes Go.WideShapes Go.ChangeAt Go.RowKit Go.Proofs.YtfckciblnojniaaDoor.Kit Go.Deep Go.PlainAid
set_option linter.unusedVariables false
def fb (l : List UInt8) (j : Nat) : Int := ((l.getD j 0).toNat : Int)
theorem valD_low {f : Nat → Int} (h0 : 49 ≤ f 0) : ∀ {m : Nat}, allD f (m + 1) = true → ((10 ^ m : Nat) : Int) ≤ valD f (m + 1)
  | 0, _ => by simp [valD]; omega
  | m + 1, h => by
    simp only [allD, Bool.and_eq_true, decide_eq_true_eq] at h
    have := valD_low h0 (m := m) (by simp only [allD, Bool.and_eq_true, decide_eq_true_eq]; exact h.1)
    rw [valD, Nat.pow_succ]
    omega
theorem val_pos {f : Nat → Int} {m : Nat} (ha : allD f m = true) (hm : 0 < m) (h : f 0 ≠ 48) : 1 ≤ valD f m := by
  obtain ⟨j, rfl⟩ : ∃ j, m = j + 1 := ⟨m - 1, by omega⟩
  obtain ⟨d1, d2⟩ := allD_get ha 0 (by omega)
  have h2 := valD_low (f := f) (by omega) ha
  have h3 : 0 < 10 ^ j := Nat.pow_pos (by omega)
  omega
theorem valD_congr {f g : Nat → Int} : ∀ {m : Nat}, (∀ j, j < m → f j = g j) → valD f m = valD g m
  | 0, _ => rfl
  | m + 1, h => by
    simp only [valD]
    rw [valD_congr (fun j hj => h j (by omega)), h m (by omega)]
theorem allD_congr {f g : Nat → Int} : ∀ {m : Nat}, (∀ j, j < m → f j = g j) → allD f m = allD g m
  | 0, _ => rfl
  | m + 1, h => by
    simp only [allD]
    rw [allD_congr (fun j hj => h j (by omega)), h m (by omega)]
theorem fb_left (l r : List UInt8) (j : Nat) (h : j < l.length) : fb (l ++ r) j = fb l j := by
  unfold fb
  simp [List.getD, List.getElem?_append_left h]
theorem fb_at (l : List UInt8) (x : UInt8) : fb (l ++ [x]) l.length = x.toNat := by
  unfold fb
  simp [List.getD]
theorem bt_fb (s : ByteArray) (j : Nat) : bt s j = fb s.data.toList j := by
  unfold bt fb
  have e : s.size = s.data.size := rfl
  by_cases h : j < s.size
  · rw [dif_pos h]
    have h2 : j < s.data.size := by omega
    simp only [List.getD, Array.getElem?_toList, Array.getElem?_eq_getElem h2, Option.getD_some]
    rfl
  · rw [dif_neg h]
    have h2 : s.data.size ≤ j := by omega
    simp only [List.getD, Array.getElem?_toList, Array.getElem?_eq_none h2, Option.getD_none]
    rfl
theorem toNat_dig (d : Nat) (h : d < 10) : ((UInt8.ofNat (48 + d)).toNat : Int) = 48 + d := by
  rw [UInt8.toNat_ofNat']
  omega
theorem dec_ok (u : Nat) : 0 < (Lib.decDigits u).length ∧ allD (fb (Lib.decDigits u)) (Lib.decDigits u).length = true ∧ valD (fb (Lib.decDigits u)) (Lib.decDigits u).length = u ∧ (fb (Lib.decDigits u) 0 = 48 → u = 0) := by
  induction u using Nat.strongRecOn with
  | _ u ih =>
    rw [Lib.decDigits.eq_1]
    split
    · rename_i h
      have e := toNat_dig u h
      have e0 : fb [UInt8.ofNat (48 + u)] 0 = 48 + u := e
      refine ⟨by simp, ?_, ?_, ?_⟩
      · simp only [List.length_singleton, allD, e0]
        simp
        omega
      · simp only [List.length_singleton, valD, e0]
        omega
      · rw [e0]
        omega
    · rename_i h
      obtain ⟨i1, i2, i3, i4⟩ := ih (u / 10) (by omega)
      generalize Lib.decDigits (u / 10) = l at *
      have e := toNat_dig (u % 10) (Nat.mod_lt _ (by omega))
      have el := fb_at l (UInt8.ofNat (48 + u % 10))
      rw [e] at el
      have hc : ∀ j, j < l.length → fb (l ++ [UInt8.ofNat (48 + u % 10)]) j = fb l j := fun j hj => fb_left l _ j hj
      rw [List.length_append, List.length_singleton]
      refine ⟨by omega, ?_, ?_, ?_⟩
      · simp only [allD, el, allD_congr hc, i2]
        simp
        omega
      · simp only [valD, el, valD_congr hc, i3]
        omega
      · rw [hc 0 i1]
        intro h4
        have := i4 h4
        omega
theorem dec_back : ∀ (m : Nat) (l : List UInt8), l.length = m + 1 → allD (fb l) (m + 1) = true → (fb l 0 ≠ 48 ∨ m = 0) → Lib.decDigits (valD (fb l) (m + 1)).toNat = l
  | 0, l, hl, ha, _ => by
    obtain ⟨x, rfl⟩ : ∃ x, l = [x] := by
      match l, hl with
      | [x], _ => exact ⟨x, rfl⟩
    have h0 := allD_get ha 0 (by omega)
    have e0 : fb [x] 0 = x.toNat := rfl
    rw [e0] at h0
    rw [Lib.decDigits.eq_1, dif_pos (by simp only [valD, e0]; omega)]
    simp only [valD, e0]
    congr 1
    apply UInt8.toNat_inj.1
    rw [UInt8.toNat_ofNat']
    omega
  | m + 1, l, hl, ha, h0 => by
    have h0 : fb l 0 ≠ 48 := by omega
    obtain ⟨l', x, rfl⟩ : ∃ l' x, l = l' ++ [x] := ⟨l.dropLast, l.getLast (by intro h; rw [h] at hl; simp at hl), (List.dropLast_concat_getLast _).symm⟩
    have hl' : l'.length = m + 1 := by simpa using hl
    have hc : ∀ j, j < m + 1 → fb (l' ++ [x]) j = fb l' j := fun j hj => fb_left l' _ j (by omega)
    have el : fb (l' ++ [x]) (m + 1) = x.toNat := by rw [← hl']; exact fb_at l' x
    simp only [allD, el, Bool.and_eq_true, decide_eq_true_eq] at ha
    have ha' : allD (fb l') (m + 1) = true := by
      rw [← allD_congr hc]
      simpa only [allD, Bool.and_eq_true, decide_eq_true_eq] using ha.1
    have h0' : fb l' 0 ≠ 48 := by rw [← hc 0 (by omega)]; exact h0
    have ih := dec_back m l' hl' ha' (.inl h0')
    have hp := val_pos ha' (by omega) h0'
    have ev : valD (fb (l' ++ [x])) (m + 1 + 1) = valD (fb l') (m + 1) * 10 + (x.toNat - 48) := by
      rw [valD, el, valD_congr hc]
    rw [ev]
    generalize valD (fb l') (m + 1) = v at *
    rw [Lib.decDigits.eq_1, dif_neg (by omega), show (v * 10 + ((x.toNat : Int) - 48)).toNat / 10 = v.toNat by omega, ih]
    congr 2
    apply UInt8.toNat_inj.1
    rw [UInt8.toNat_ofNat']
    omega
theorem bt_fun (s : ByteArray) : bt s = fb s.data.toList := funext fun j => bt_fb s j
theorem size_len (s : ByteArray) : s.size = s.data.toList.length := Array.length_toList.symm
theorem tail_list (s : ByteArray) : (s.extract 1 s.size).data.toList = s.data.toList.drop 1 := by
  rw [Lib.extract_data, List.take_of_length_le]
  rw [List.length_drop, ← size_len]
  omega
/-- Reading by a list of bytes. -/
def parseL (l : List UInt8) : Int × Int :=
  if 0 < l.length ∧ fb l 0 = 45 then parseD true (fb (l.drop 1)) (l.length - 1) l.length else parseD false (fb l) l.length l.length
theorem parseS_list (s : ByteArray) : parseS s = parseL s.data.toList := by
  unfold parseS parseL
  rw [bt_fun, bt_fun, tail_list, ← size_len]
theorem read_of_text (n : Int) (hn : In64 n) : parseL (Lib.itoa n) = (n, 0) := by
  obtain ⟨h1, h2⟩ := hn
  unfold Lib.itoa
  by_cases h : n < 0
  · rw [if_pos h]
    obtain ⟨d1, d2, d3, d4⟩ := dec_ok n.natAbs
    generalize Lib.decDigits n.natAbs = l at *
    unfold parseL
    have e0 : fb (45 :: l) 0 = 45 := rfl
    rw [if_pos ⟨Nat.succ_pos _, e0⟩]
    show parseD true (fb l) (l.length + 1 - 1) (l.length + 1) = _
    rw [Nat.add_sub_cancel, parseD_end (by omega) (fun h4 => by have := d4 h4.1; omega) d2, if_pos rfl, d3, if_pos (by omega)]
    congr 1
    omega
  · rw [if_neg h]
    obtain ⟨d1, d2, d3, d4⟩ := dec_ok n.toNat
    have hd : ¬ (fb (Lib.decDigits n.toNat) 0 = 48 ∧ 1 < (Lib.decDigits n.toNat).length) := by
      rintro ⟨h4, h5⟩
      have := d4 h4
      rw [this, Lib.decDigits.eq_1, dif_pos (by omega)] at h5
      simp at h5
    generalize Lib.decDigits n.toNat = l at *
    have hd0 := allD_get d2 0 d1
    unfold parseL
    rw [if_neg (fun h5 => by have := h5.2; omega), parseD_end (by omega) hd d2, if_neg (by decide), d3, if_pos (by omega)]
    congr 1
    omega
theorem parseD_cases {neg : Bool} {f : Nat → Int} {m size : Nat} : parseD neg f m size = (0, 30) ∨ (m ≠ 0 ∧ ¬ (f 0 = 48 ∧ 1 < size) ∧ allD f m = true ∧
    ((neg = true ∧ valD f m ≤ 9223372036854775808 ∧ parseD neg f m size = (- valD f m, 0)) ∨ (neg = false ∧ valD f m < 9223372036854775808 ∧ parseD neg f m size = (valD f m, 0)))) := by
  by_cases hm : m = 0
  · exact .inl (if_pos (.inl hm))
  by_cases hl : f 0 = 48 ∧ 1 < size
  · exact .inl (if_pos (.inr (.inl hl)))
  by_cases ha : allD f m = true
  · have he := parseD_end (neg := neg) hm hl ha
    cases neg
    · by_cases hv : valD f m < 9223372036854775808
      · exact .inr ⟨hm, hl, ha, .inr ⟨rfl, hv, by rw [he, if_neg (by decide), if_pos hv]⟩⟩
      · exact .inl (by rw [he, if_neg (by decide), if_neg hv])
    · by_cases hv : valD f m ≤ 9223372036854775808
      · exact .inr ⟨hm, hl, ha, .inl ⟨rfl, hv, by rw [he, if_pos rfl, if_pos hv]⟩⟩
      · exact .inl (by rw [he, if_pos rfl, if_neg hv])
  · exact .inl (if_pos (.inr (.inr (by simpa using ha))))
theorem text_of_read (l : List UInt8) : parseL l = (0, 30) ∨ (In64 (parseL l).1 ∧ (parseL l).2 = 0 ∧ Lib.itoa (parseL l).1 = l) := by
  unfold parseL
  by_cases h : 0 < l.length ∧ fb l 0 = 45
  · rw [if_pos h]
    obtain ⟨h0, h45⟩ := h
    obtain ⟨x, r, rfl⟩ : ∃ x r, l = x :: r := by
      match l, h0 with
      | x :: r, _ => exact ⟨x, r, rfl⟩
    have hx : x = 45 := by
      apply UInt8.toNat_inj.1
      have : ((x.toNat : Nat) : Int) = 45 := h45
      show x.toNat = 45
      omega
    subst hx
    rcases parseD_cases (neg := true) (f := fb ((45 :: r).drop 1)) (m := (45 :: r : List UInt8).length - 1) (size := (45 :: r : List UInt8).length) with h1 | ⟨hm, hl, ha, ⟨_, hv, he⟩ | ⟨hc, _⟩⟩
    · exact .inl h1
    · rw [he]
      have em : (45 :: r : List UInt8).length - 1 = r.length := by simp
      rw [em] at hv hm ha ⊢
      simp only [List.drop_succ_cons, List.drop_zero, List.length_cons] at hv ha hl ⊢
      obtain ⟨m, hm2⟩ : ∃ m, r.length = m + 1 := ⟨r.length - 1, by omega⟩
      rw [hm2] at hv ha hl ⊢
      have hl2 : fb r 0 ≠ 48 := fun h => hl ⟨h, by omega⟩
      have hp := val_pos ha (by omega) hl2
      have hb := dec_back m r hm2 ha (.inl hl2)
      generalize valD (fb r) (m + 1) = v at *
      refine .inr ⟨⟨by omega, by omega⟩, trivial, ?_⟩
      unfold Lib.itoa
      rw [if_pos (by omega), show (-v).natAbs = v.toNat by omega, hb]
    · cases hc
  · rw [if_neg h]
    rcases parseD_cases (neg := false) (f := fb l) (m := l.length) (size := l.length) with h1 | ⟨hm, hl, ha, ⟨hc, _⟩ | ⟨_, hv, he⟩⟩
    · exact .inl h1
    · cases hc
    · rw [he]
      obtain ⟨m, hm2⟩ : ∃ m, l.length = m + 1 := ⟨l.length - 1, by omega⟩
      rw [hm2] at hv ha hl ⊢
      have hn := valD_nonneg ha
      have hb := dec_back m l hm2 ha (by
        by_cases hm0 : m = 0
        · exact .inr hm0
        · exact .inl fun h4 => hl ⟨h4, by omega⟩)
      generalize valD (fb l) (m + 1) = v at *
      refine .inr ⟨⟨by dsimp only; omega, by dsimp only; omega⟩, rfl, ?_⟩
      unfold Lib.itoa
      dsimp only
      rw [if_neg (by omega), hb]
end Go.Proofs.YtfckciblnojniaaDoor.Num
