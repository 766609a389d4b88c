/- A text read as a number by this layer. No condition. -/
import Derived.Test.YtfckciblnojniaaDoorNumO
import Derived.PlainAid
import Derived.WalkSpells
namespace Go.Proofs.YtfckciblnojniaaDoor.Num
open Go.ChangeShapes Go.WideShapes Go.ChangeAt Go.RowKit Go.Proofs.YtfckciblnojniaaDoor.Kit Go.Deep Go.PlainAid
set_option linter.unusedVariables false
def valD (f : Nat → Int) : Nat → Int
  | 0 => 0
  | j + 1 => valD f j * 10 + (f j - 48)
def allD (f : Nat → Int) : Nat → Bool
  | 0 => true
  | j + 1 => allD f j && decide (48 ≤ f j ∧ f j ≤ 57)
theorem allD_get {f : Nat → Int} : ∀ {m : Nat}, allD f m = true → ∀ j, j < m → 48 ≤ f j ∧ f j ≤ 57
  | 0, _, _, h => by omega
  | m + 1, h, j, hj => by
    simp only [allD, Bool.and_eq_true, decide_eq_true_eq] at h
    rcases Nat.lt_succ_iff_lt_or_eq.1 hj with h1 | rfl
    · exact allD_get h.1 j h1
    · exact h.2
theorem allD_le {f : Nat → Int} {j m : Nat} (h : allD f m = true) (hj : j ≤ m) : allD f j = true := by
  induction m with
  | zero => obtain rfl : j = 0 := by omega
            exact h
  | succ m ih =>
    rcases Nat.lt_or_eq_of_le hj with h1 | rfl
    · simp only [allD, Bool.and_eq_true] at h
      exact ih h.1 (by omega)
    · exact h
theorem allD_bad {f : Nat → Int} {k m : Nat} (hk : k < m) (h : ¬ (48 ≤ f k ∧ f k ≤ 57)) : allD f m = false := by
  rw [Bool.eq_false_iff]
  exact fun ha => h (allD_get ha k hk)
theorem valD_nonneg {f : Nat → Int} : ∀ {m : Nat}, allD f m = true → 0 ≤ valD f m
  | 0, _ => by simp [valD]
  | m + 1, h => by
    simp only [allD, Bool.and_eq_true, decide_eq_true_eq] at h
    have := valD_nonneg h.1
    simp only [valD]
    omega
theorem valD_mono {f : Nat → Int} {k m : Nat} (hk : k < m) (h : allD f m = true) : valD f k * 10 ≤ valD f m := by
  induction m with
  | zero => omega
  | succ m ih =>
    have h0 := h
    simp only [allD, Bool.and_eq_true, decide_eq_true_eq] at h
    have h2 := valD_nonneg h.1
    simp only [valD]
    rcases Nat.lt_succ_iff_lt_or_eq.1 hk with h1 | rfl
    · have := ih h1 h.1
      omega
    · omega
/-- What a text is read as: its digits 'f', how many, with or without a minus; the text's size. -/
def parseD (neg : Bool) (f : Nat → Int) (m size : Nat) : Int × Int :=
  if m = 0 ∨ (f 0 = 48 ∧ 1 < size) ∨ allD f m = false then (0, 30)
  else if neg then (if valD f m ≤ 9223372036854775808 then (- valD f m, 0) else (0, 30))
  else if valD f m < 9223372036854775808 then (valD f m, 0) else (0, 30)
theorem parseD_big {neg : Bool} {f : Nat → Int} {k m size : Nat} (hk : k < m) (h : 922337203685477580 < valD f k) : parseD neg f m size = (0, 30) := by
  unfold parseD
  by_cases ha : allD f m = true
  · have := valD_mono hk ha
    cases neg <;> simp <;> omega
  · rw [if_pos (by simp [ha])]
theorem parseD_bad {neg : Bool} {f : Nat → Int} {k m size : Nat} (hk : k < m) (h : ¬ (48 ≤ f k ∧ f k ≤ 57)) : parseD neg f m size = (0, 30) := by
  unfold parseD
  rw [if_pos (by simp [allD_bad hk h])]
theorem bt_tail (s : ByteArray) (k : Nat) : bt (s.extract 1 s.size) k = bt s (k + 1) := by
  unfold bt
  have e : (s.extract 1 s.size).size = s.size - 1 := by simp
  by_cases h : k + 1 < s.size
  · rw [dif_pos (by omega), dif_pos h]
    congr 2
    simp [ByteArray.getElem_extract, Nat.add_comm]
  · rw [dif_neg (by omega), dif_neg h]
def parseS (s : ByteArray) : Int × Int :=
  if 0 < s.size ∧ bt s 0 = 45 then parseD true (bt (s.extract 1 s.size)) (s.size - 1) s.size else parseD false (bt s) s.size s.size
theorem not_empty {s : ByteArray} (h : 0 < s.size) : s.toList.isEmpty = false := by
  rw [ByteArray.toList_eq]
  cases hl : s.data.toList with
  | nil =>
    have : s.data.size = 0 := by rw [← Array.length_toList, hl]; rfl
    have h2 : s.size = s.data.size := rfl
    omega
  | cons _ _ => rfl
theorem is_empty {s : ByteArray} (h : s.size = 0) : s.toList.isEmpty = true := by
  rw [ByteArray.toList_eq]
  cases hl : s.data.toList with
  | nil => rfl
  | cons a l =>
    have : s.data.size = l.length + 1 := by rw [← Array.length_toList, hl]; rfl
    have h2 : s.size = s.data.size := rfl
    omega
theorem parseD_end {neg : Bool} {f : Nat → Int} {m size : Nat} (hm : m ≠ 0) (hl : ¬ (f 0 = 48 ∧ 1 < size)) (ha : allD f m = true) :
    parseD neg f m size = if neg then (if valD f m ≤ 9223372036854775808 then (- valD f m, 0) else (0, 30)) else if valD f m < 9223372036854775808 then (valD f m, 0) else (0, 30) := by
  unfold parseD
  rw [if_neg (by simp only [not_or]; exact ⟨hm, hl, by simp [ha]⟩)]
set_option maxHeartbeats 1000000 in
theorem parse_plus (s : ByteArray) (w : World) (h0 : 0 < s.size) (hsz : s.size ≤ 9223372036854775807) (h45 : bt s 0 ≠ 45) :
    Calls Tryd.prog 43 #[.string s] w fun e w' => e = .returned (.tuple #[.int .i64 (parseD false (bt s) s.size s.size).1, .int .i64 (parseD false (bt s) s.size s.size).2]) ∧ w = w' := by
  have hbt := get_bt s
  have hne := not_empty h0
  by_cases hl : bt s 0 = 48 ∧ 1 < s.size
  · have HR := hide (show parseD false (bt s) s.size s.size = (0, 30) from if_pos (.inr (.inl hl)))
    obtain ⟨hl1, hl2⟩ := hl
    go_enter Tryd.func43, Tryd.ntmps43
    go_wp2
    go_step3
    go_wp2
    ((try rw [Exit.noGoto_ret]); go_ret2; exact ⟨by rw [HR.out]; rfl, rfl⟩)
  have HE := hide (fun ha => parseD_end (neg := false) (f := bt s) (m := s.size) (size := s.size) (by omega) hl ha)
  have HBAD := hide (fun k hk h => parseD_bad (neg := false) (f := bt s) (k := k) (m := s.size) (size := s.size) hk h)
  have HBIG := hide (fun k hk h => parseD_big (neg := false) (f := bt s) (k := k) (m := s.size) (size := s.size) hk h)
  have hl3 : (bt s 0 = 48 ∧ ¬ ((1 : Int) < s.size)) ∨ bt s 0 ≠ 48 := by
    rcases Decidable.em (bt s 0 = 48) with h | h
    · exact .inl ⟨h, fun h2 => hl ⟨h, by omega⟩⟩
    · exact .inr h
  clear hl
  rcases hl3 with ⟨hl4, hl5⟩ | hl3
  all_goals
    go_enter Tryd.func43, Tryd.ntmps43
    go_wp2
    go_step3
    go_wp2
    go_step3
    go_wp2
    go_loopw [6, 7] (fun n i wr => ∃ k : Nat, k ≤ s.size ∧ i = .int .i64 k ∧ n = .int .u64 (valD (bt s) k) ∧ allD (bt s) k = true ∧ wr = w) (fun _ i _ => s.size - (intOf i).toNat)
    case atStart => exact ⟨0, Nat.zero_le _, rfl, rfl, rfl, rfl⟩
    case round =>
      obtain ⟨k, hk, rfl, rfl, hall, rfl⟩ := hrel
      have hv0 := valD_nonneg hall
      have HV := hide (show valD (bt s) (k + 1) = valD (bt s) k * 10 + (bt s k - 48) from rfl)
      have HA := hide (show allD (bt s) (k + 1) = (allD (bt s) k && decide (48 ≤ bt s k ∧ bt s k ≤ 57)) from rfl)
      have HALL := hide hall
      clear hall
      rcases Nat.lt_or_eq_of_le hk with hlt | rfl
      · have hkne : k ≠ s.size := by omega
        have HB1 := hide (HBAD.out k hlt)
        have HB2 := hide (HBIG.out k hlt)
        have hb1 := bt_nonneg s k
        have hb2 := bt_le s k
        clear HBAD HBIG HE
        generalize hvv : valD (bt s) k = v at *
        by_cases h1 : bt s k < 48
        · have HR := hide (HB1.out (by omega))
          go_wp2
          ((try rw [Exit.noGoto_ret]); go_ret2; exact ⟨by rw [HR.out]; rfl, rfl⟩)
        · by_cases h2 : 57 < bt s k
          · have HR := hide (HB1.out (by omega))
            go_wp2
            ((try rw [Exit.noGoto_ret]); go_ret2; exact ⟨by rw [HR.out]; rfl, rfl⟩)
          · by_cases h3 : 922337203685477580 < v
            · have HR := hide (HB2.out h3)
              go_wp2
              ((try rw [Exit.noGoto_ret]); go_ret2; exact ⟨by rw [HR.out]; rfl, rfl⟩)
            · have w1' : IntKind.u8.wrap (bt s k - 48) = bt s k - 48 := by rw [IntKind.wrap_u8]; omega
              have w2' : IntKind.u64.wrap (bt s k - 48) = bt s k - 48 := by rw [IntKind.wrap_u64]; omega
              have w3' : IntKind.u64.wrap (v * 10) = v * 10 := by rw [IntKind.wrap_u64]; omega
              have w4' : IntKind.u64.wrap (v * 10 + (bt s k - 48)) = v * 10 + (bt s k - 48) := by rw [IntKind.wrap_u64]; omega
              go_wp2
              refine ⟨⟨k + 1, by omega, by go_num, by rw [HV.out], ?_, trivial⟩, by simp [intOf]; omega⟩
              rw [HA.out, HALL.out]
              simp
              omega
      · have HR := hide (HE.out HALL.out)
        clear HE HBAD HBIG HV HA
        generalize valD (bt s) s.size = v at *
        by_cases hv : v < 9223372036854775808
        · have HR := hide (HR.out.trans (if_pos hv))
          go_wp2
          ((try rw [Exit.noGoto_ret]); go_ret2; exact ⟨by rw [HR.out]; rfl, rfl⟩)
        · have HR := hide (HR.out.trans (if_neg hv))
          go_wp2
          ((try rw [Exit.noGoto_ret]); go_ret2; exact ⟨by rw [HR.out]; rfl, rfl⟩)
set_option maxHeartbeats 1000000 in
theorem parse_minus (s D : ByteArray) (m : Nat) (w : World) (hs : s.size = m + 1) (hsz : m < 9223372036854775807) (h45 : bt s 0 = 45) (hD : s.extract 1 s.size = D) (hDs : D.size = m) (hm0 : 0 < m) :
    Calls Tryd.prog 43 #[.string s] w fun e w' => e = .returned (.tuple #[.int .i64 (parseD true (bt D) m (m + 1)).1, .int .i64 (parseD true (bt D) m (m + 1)).2]) ∧ w = w' := by
  have hbt := get_bt s
  have hbd := get_bt D
  have hne : D.toList.isEmpty = false := not_empty (by omega)
  have hD2 : s.extract 1 (m + 1) = D := by rw [← hs]; exact hD
  by_cases hl : bt D 0 = 48
  · have HR := hide (show parseD true (bt D) m (m + 1) = (0, 30) from if_pos (.inr (.inl ⟨hl, by omega⟩)))
    go_enter Tryd.func43, Tryd.ntmps43
    go_wp2
    go_step3
    go_wp2
    ((try rw [Exit.noGoto_ret]); go_ret2; exact ⟨by rw [HR.out]; rfl, rfl⟩)
  have HE := hide (fun ha => parseD_end (neg := true) (f := bt D) (m := m) (size := m + 1) (by omega) (fun h => hl h.1) ha)
  have HBAD := hide (fun k hk h => parseD_bad (neg := true) (f := bt D) (k := k) (m := m) (size := m + 1) hk h)
  have HBIG := hide (fun k hk h => parseD_big (neg := true) (f := bt D) (k := k) (m := m) (size := m + 1) hk h)
  all_goals
    go_enter Tryd.func43, Tryd.ntmps43
    go_wp2
    go_step3
    go_wp2
    go_step3
    go_wp2
    go_loopw [6, 7] (fun n i wr => ∃ k : Nat, k ≤ m ∧ i = .int .i64 k ∧ n = .int .u64 (valD (bt D) k) ∧ allD (bt D) k = true ∧ wr = w) (fun _ i _ => m - (intOf i).toNat)
    case atStart => exact ⟨0, Nat.zero_le _, rfl, rfl, rfl, rfl⟩
    case round =>
      obtain ⟨k, hk, rfl, rfl, hall, rfl⟩ := hrel
      have hv0 := valD_nonneg hall
      have HV := hide (show valD (bt D) (k + 1) = valD (bt D) k * 10 + (bt D k - 48) from rfl)
      have HA := hide (show allD (bt D) (k + 1) = (allD (bt D) k && decide (48 ≤ bt D k ∧ bt D k ≤ 57)) from rfl)
      have HALL := hide hall
      clear hall
      rcases Nat.lt_or_eq_of_le hk with hlt | rfl
      · have hkne : k ≠ m := by omega
        have HB1 := hide (HBAD.out k hlt)
        have HB2 := hide (HBIG.out k hlt)
        have hb1 := bt_nonneg s k
        have hb2 := bt_le s k
        clear HBAD HBIG HE
        generalize hvv : valD (bt D) k = v at *
        by_cases h1 : bt D k < 48
        · have HR := hide (HB1.out (by omega))
          go_wp2
          ((try rw [Exit.noGoto_ret]); go_ret2; exact ⟨by rw [HR.out]; rfl, rfl⟩)
        · by_cases h2 : 57 < bt D k
          · have HR := hide (HB1.out (by omega))
            go_wp2
            ((try rw [Exit.noGoto_ret]); go_ret2; exact ⟨by rw [HR.out]; rfl, rfl⟩)
          · by_cases h3 : 922337203685477580 < v
            · have HR := hide (HB2.out h3)
              go_wp2
              ((try rw [Exit.noGoto_ret]); go_ret2; exact ⟨by rw [HR.out]; rfl, rfl⟩)
            · have w1' : IntKind.u8.wrap (bt D k - 48) = bt D k - 48 := by rw [IntKind.wrap_u8]; omega
              have w2' : IntKind.u64.wrap (bt D k - 48) = bt D k - 48 := by rw [IntKind.wrap_u64]; omega
              have w3' : IntKind.u64.wrap (v * 10) = v * 10 := by rw [IntKind.wrap_u64]; omega
              have w4' : IntKind.u64.wrap (v * 10 + (bt D k - 48)) = v * 10 + (bt D k - 48) := by rw [IntKind.wrap_u64]; omega
              go_wp2
              refine ⟨⟨k + 1, by omega, by go_num, by rw [HV.out], ?_, trivial⟩, by simp [intOf]; omega⟩
              rw [HA.out, HALL.out]
              simp
              omega
      · have HR := hide (HE.out HALL.out)
        clear HE HBAD HBIG HV HA
        generalize valD (bt D) k = v at *
        by_cases hv : v ≤ 9223372036854775808
        · have HR := hide (HR.out.trans ((if_pos trivial).trans (if_pos hv)))
          have wn : IntKind.i64.wrap (IntKind.u64.wrap (-v)) = -v := by rw [IntKind.wrap_i64, IntKind.wrap_u64]; omega
          go_wp2
          ((try rw [Exit.noGoto_ret]); go_ret2; exact ⟨by rw [HR.out]; rfl, rfl⟩)
        · have HR := hide (HR.out.trans ((if_pos trivial).trans (if_neg hv)))
          go_wp2
          ((try rw [Exit.noGoto_ret]); go_ret2; exact ⟨by rw [HR.out]; rfl, rfl⟩)
theorem parse_none (s : ByteArray) (w : World) (h0 : s.size = 0) :
    Calls Tryd.prog 43 #[.string s] w fun e w' => e = .returned (.tuple #[.int .i64 0, .int .i64 30]) ∧ w = w' := by
  have hne := is_empty h0
  go_enter Tryd.func43, Tryd.ntmps43
  go_wp2
  go_step3
  go_wp2
  (try rw [Exit.noGoto_ret])
  go_ret2
  exact ⟨rfl, rfl⟩
theorem parse_dash (s : ByteArray) (w : World) (h0 : s.size = 1) (h45 : bt s 0 = 45) :
    Calls Tryd.prog 43 #[.string s] w fun e w' => e = .returned (.tuple #[.int .i64 0, .int .i64 30]) ∧ w = w' := by
  have hbt := get_bt s
  have hne : (s.extract 1 1).toList.isEmpty = true := is_empty (by simp)
  go_enter Tryd.func43, Tryd.ntmps43
  go_wp2
  go_step3
  go_wp2
  (try rw [Exit.noGoto_ret])
  go_ret2
  exact ⟨rfl, rfl⟩
theorem parse_any (s : ByteArray) (w : World) (hsz : s.size ≤ 9223372036854775807) :
    Calls Tryd.prog 43 #[.string s] w fun e w' => e = .returned (.tuple #[.int .i64 (parseS s).1, .int .i64 (parseS s).2]) ∧ w = w' := by
  unfold parseS
  by_cases h0 : s.size = 0
  · rw [if_neg (by omega), show parseD false (bt s) s.size s.size = (0, 30) from if_pos (.inl h0)]
    exact parse_none s w h0
  · by_cases h45 : bt s 0 = 45
    · rw [if_pos ⟨by omega, h45⟩]
      by_cases h1 : s.size = 1
      · rw [show parseD true (bt (s.extract 1 s.size)) (s.size - 1) s.size = (0, 30) from if_pos (.inl (by omega))]
        exact parse_dash s w h1 h45
      · have h := parse_minus s _ (s.size - 1) w (by omega) (by omega) h45 rfl (by simp) (by omega)
        rw [show s.size - 1 + 1 = s.size by omega] at h
        exact h
    · rw [if_neg (fun h => h45 h.2)]
      exact parse_plus s w (by omega) hsz h45
end Go.Proofs.YtfckciblnojniaaDoor.Num
