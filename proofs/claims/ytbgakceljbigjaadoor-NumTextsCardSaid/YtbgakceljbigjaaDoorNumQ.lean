/- A text read as a number by the reference. No condition. -/
import Derived.Test.YtbgakceljbigjaaDoorNumP
namespace Go.Proofs.YtbgakceljbigjaaDoor.Num
open Go.ChangeShapes Go.WideShapes Go.ChangeAt Go.RowKit Go.Proofs.YtbgakceljbigjaaDoor.Kit Go.Proofs.YtbgakceljbigjaaDoor.Wide Go.Deep Go.PlainAid
set_option linter.unusedVariables false
theorem valD_low {f : Nat → Int} (h0 : 49 ≤ f 0) : ∀ {m : Nat}, allD f (m + 1) = true → ((10 ^ m : Nat) : Int) ≤ valD f (m + 1)
  | 0, _ => by simp [valD]; omega
  | m + 1, h => by
    simp only [allD, Bool.and_eq_true, decide_eq_true_eq] at h
    have := valD_low h0 (m := m) (by simp only [allD, Bool.and_eq_true, decide_eq_true_eq]; exact h.1)
    rw [valD, Nat.pow_succ]
    omega
theorem valD_up {f : Nat → Int} : ∀ {m : Nat}, allD f m = true → valD f m < ((10 ^ m : Nat) : Int)
  | 0, _ => by simp [valD]
  | m + 1, h => by
    simp only [allD, Bool.and_eq_true, decide_eq_true_eq] at h
    have := valD_up h.1
    rw [valD, Nat.pow_succ]
    omega
theorem parseD_lead {neg : Bool} {f : Nat → Int} {m size : Nat} (h : f 0 = 48) (h1 : 1 < size) : parseD neg f m size = (0, 30) := if_pos (.inr (.inl ⟨h, h1⟩))
theorem parseD_long {neg : Bool} {f : Nat → Int} {m size : Nat} (h : 19 < m) (h1 : 1 < size) : parseD neg f m size = (0, 30) := by
  by_cases ha : allD f m = true
  · by_cases h0 : f 0 = 48
    · exact parseD_lead h0 h1
    · obtain ⟨d1, d2⟩ := allD_get ha 0 (by omega)
      obtain ⟨j, rfl⟩ : ∃ j, m = j + 1 := ⟨m - 1, by omega⟩
      have h2 := valD_low (f := f) (by omega) ha
      have h3 : 10 ^ 19 ≤ 10 ^ j := Nat.pow_le_pow_right (by omega) (by omega)
      have h4 : (10 : Nat) ^ 19 = 10000000000000000000 := by decide
      unfold parseD
      cases neg <;> simp <;> omega
  · exact if_pos (.inr (.inr (by simpa using ha)))
theorem up19 {f : Nat → Int} {m : Nat} (ha : allD f m = true) (hm : m ≤ 18) : valD f m ≤ 999999999999999999 := by
  have h1 := valD_up ha
  have h2 : 10 ^ m ≤ 10 ^ 18 := Nat.pow_le_pow_right (by omega) hm
  have h4 : (10 : Nat) ^ 18 = 1000000000000000000 := by decide
  omega
theorem val_pos {f : Nat → Int} {m : Nat} (ha : allD f m = true) (hm : 0 < m) (h : f 0 ≠ 48) : 1 ≤ valD f m := by
  obtain ⟨j, rfl⟩ : ∃ j, m = j + 1 := ⟨m - 1, by omega⟩
  obtain ⟨d1, d2⟩ := allD_get ha 0 (by omega)
  have h2 := valD_low (f := f) (by omega) ha
  have h3 : 0 < 10 ^ j := Nat.pow_pos (by omega)
  omega
set_option maxHeartbeats 1000000 in
theorem rparse_0 (s : ByteArray) (f : Nat → Int) (m : Nat) (w : World) (hs : s.size = m) (hsz : m ≤ 9223372036854775807) (h45 : bt s 0 ≠ 45) (hf : ∀ j, bt s j = f j) (hm0 : 0 < m) :
    Calls Tryd.prog 13 #[.string s] w fun e w' => e = .returned (.tuple #[.int .i64 (parseD false f m m).1, .int .i64 (parseD false f m m).2]) ∧ w = w' := by
  have hbt := get_bt s
  have f0 : bt s 0 = f 0 := hf 0
  by_cases h19 : 19 < m
  · have HR := hide (parseD_long (neg := false) (f := f) (m := m) (size := m) h19 (by omega))
    go_enter Tryd.func13, Tryd.ntmps13
    go_wp2
    ((try rw [Exit.noGoto_ret]); go_ret2; exact ⟨by rw [HR.out]; rfl, rfl⟩)
  have HE := hide (fun hl ha => parseD_end (neg := false) (f := f) (m := m) (size := m) (by omega) hl ha)
  have HBAD := hide (fun k hk h => parseD_bad (neg := false) (f := f) (k := k) (m := m) (size := m) hk h)
  have HLEAD := hide (fun h h1 => parseD_lead (neg := false) (f := f) (m := m) (size := m) h h1)
  have HF := hide hf
  clear hf
  have g0 : ((m : Int) == 0) = false := by rw [beq_eq_false_iff_ne]; omega
  have g1 : ((m : Int) + 1 == 1) = false := by rw [beq_eq_false_iff_ne]; omega
  go_enter Tryd.func13, Tryd.ntmps13
  go_wp2
  go_loopw [5, 6] (fun n i wr => ∃ k : Nat, k ≤ m ∧ i = .int .i64 k ∧ n = .int .u64 (valD f k) ∧ allD f k = true ∧ wr = w) (fun _ i _ => m - (intOf i).toNat)
  case atStart => exact ⟨0, Nat.zero_le _, rfl, rfl, rfl, rfl⟩
  case round =>
    obtain ⟨k, hk, rfl, rfl, hall, rfl⟩ := hrel
    have hv0 := valD_nonneg hall
    have HALL := hide hall
    rcases Nat.lt_or_eq_of_le hk with hlt | rfl
    · have HV := hide (show valD f (k + 1) = valD f k * 10 + (f k - 48) from rfl)
      have HA := hide (show allD f (k + 1) = (allD f k && decide (48 ≤ f k ∧ f k ≤ 57)) from rfl)
      have hvu := up19 hall (by omega)
      have HB1 := hide (HBAD.out k hlt)
      have fk : bt s k = f k := HF.out k
      have hb1 := bt_nonneg s k
      have hb2 := bt_le s k
      rw [fk] at hb1 hb2
      clear HBAD HE HLEAD hall
      generalize hvv : valD f k = v at *
      by_cases h1 : f k < 48
      · have HR := hide (HB1.out (by omega))
        go_wp2
        ((try rw [Exit.noGoto_ret]); go_ret2; exact ⟨by rw [HR.out]; rfl, rfl⟩)
      · by_cases h2 : 57 < f k
        · have HR := hide (HB1.out (by omega))
          go_wp2
          ((try rw [Exit.noGoto_ret]); go_ret2; exact ⟨by rw [HR.out]; rfl, rfl⟩)
        · have w1' : IntKind.u8.wrap (f k - 48) = f k - 48 := by rw [IntKind.wrap_u8]; omega
          have w2' : IntKind.u64.wrap (f k - 48) = f k - 48 := by rw [IntKind.wrap_u64]; omega
          have w3' : IntKind.u64.wrap (10 * v) = 10 * v := by rw [IntKind.wrap_u64]; omega
          have w4' : IntKind.u64.wrap (10 * v + (f k - 48)) = 10 * v + (f k - 48) := by rw [IntKind.wrap_u64]; omega
          go_wp2
          refine ⟨⟨k + 1, by omega, by go_num, by rw [HV.out, Int.mul_comm], ?_, trivial⟩, by simp [intOf]; omega⟩
          rw [HA.out, HALL.out]
          simp
          omega
    · have HVP := hide (fun h => val_pos (m := k) hall hm0 h)
      have HE2 := hide (fun hl => HE.out hl HALL.out)
      clear HE HBAD hall
      generalize hvv : valD f k = v at *
      by_cases hl : f 0 = 48 ∧ 1 < k
      · obtain ⟨hl1, hl2⟩ := hl
        have HR := hide (HLEAD.out hl1 (by omega))
        go_wp2
        ((try rw [Exit.noGoto_ret]); go_ret2; exact ⟨by rw [HR.out]; rfl, rfl⟩)
      have HR := hide (HE2.out hl)
      have hl3 : (f 0 = 48 ∧ ¬ ((1 : Int) < k)) ∨ f 0 ≠ 48 := by
        rcases Decidable.em (f 0 = 48) with h | h
        · exact .inl ⟨h, fun h2 => hl ⟨h, by omega⟩⟩
        · exact .inr h
      clear hl HLEAD HE2 HVP
      rcases hl3 with ⟨hl4, hl5⟩ | hl3
      all_goals
        by_cases hv : v < 9223372036854775808
        · have HR := hide (HR.out.trans (if_pos hv))
          go_wp2
          ((try rw [Exit.noGoto_ret]); go_ret2; exact ⟨by rw [HR.out]; rfl, rfl⟩)
        · have HR := hide (HR.out.trans (if_neg hv))
          go_wp2
          ((try rw [Exit.noGoto_ret]); go_ret2; exact ⟨by rw [HR.out]; rfl, rfl⟩)
set_option maxHeartbeats 1000000 in
theorem rparse_1 (s : ByteArray) (f : Nat → Int) (m : Nat) (w : World) (hs : s.size = m + 1) (hsz : m < 9223372036854775807) (h45 : bt s 0 = 45) (hf : ∀ j, bt s (j + 1) = f j) (hm0 : 0 < m) :
    Calls Tryd.prog 13 #[.string s] w fun e w' => e = .returned (.tuple #[.int .i64 (parseD true f m (m + 1)).1, .int .i64 (parseD true f m (m + 1)).2]) ∧ w = w' := by
  have hbt := get_bt s
  have f0 : bt s 1 = f 0 := hf 0
  by_cases h19 : 19 < m
  · have HR := hide (parseD_long (neg := true) (f := f) (m := m) (size := m + 1) h19 (by omega))
    go_enter Tryd.func13, Tryd.ntmps13
    go_wp2
    ((try rw [Exit.noGoto_ret]); go_ret2; exact ⟨by rw [HR.out]; rfl, rfl⟩)
  have HE := hide (fun hl ha => parseD_end (neg := true) (f := f) (m := m) (size := m + 1) (by omega) hl ha)
  have HBAD := hide (fun k hk h => parseD_bad (neg := true) (f := f) (k := k) (m := m) (size := m + 1) hk h)
  have HLEAD := hide (fun h h1 => parseD_lead (neg := true) (f := f) (m := m) (size := m + 1) h h1)
  have HF := hide hf
  clear hf
  have g0 : ((m : Int) == 0) = false := by rw [beq_eq_false_iff_ne]; omega
  have g1 : ((m : Int) + 1 == 1) = false := by rw [beq_eq_false_iff_ne]; omega
  go_enter Tryd.func13, Tryd.ntmps13
  go_wp2
  go_loopw [5, 6] (fun n i wr => ∃ k : Nat, k ≤ m ∧ i = .int .i64 ((k : Int) + 1) ∧ n = .int .u64 (valD f k) ∧ allD f k = true ∧ wr = w) (fun _ i _ => m + 1 - (intOf i).toNat)
  case atStart => exact ⟨0, Nat.zero_le _, rfl, rfl, rfl, rfl⟩
  case round =>
    obtain ⟨k, hk, rfl, rfl, hall, rfl⟩ := hrel
    have hv0 := valD_nonneg hall
    have HALL := hide hall
    rcases Nat.lt_or_eq_of_le hk with hlt | rfl
    · have HV := hide (show valD f (k + 1) = valD f k * 10 + (f k - 48) from rfl)
      have HA := hide (show allD f (k + 1) = (allD f k && decide (48 ≤ f k ∧ f k ≤ 57)) from rfl)
      have hvu := up19 hall (by omega)
      have HB1 := hide (HBAD.out k hlt)
      have fk : bt s (k + 1) = f k := HF.out k
      have hb1 := bt_nonneg s (k + 1)
      have hb2 := bt_le s (k + 1)
      rw [fk] at hb1 hb2
      clear HBAD HE HLEAD hall
      generalize hvv : valD f k = v at *
      by_cases h1 : f k < 48
      · have HR := hide (HB1.out (by omega))
        go_wp2
        ((try rw [Exit.noGoto_ret]); go_ret2; exact ⟨by rw [HR.out]; rfl, rfl⟩)
      · by_cases h2 : 57 < f k
        · have HR := hide (HB1.out (by omega))
          go_wp2
          ((try rw [Exit.noGoto_ret]); go_ret2; exact ⟨by rw [HR.out]; rfl, rfl⟩)
        · have w1' : IntKind.u8.wrap (f k - 48) = f k - 48 := by rw [IntKind.wrap_u8]; omega
          have w2' : IntKind.u64.wrap (f k - 48) = f k - 48 := by rw [IntKind.wrap_u64]; omega
          have w3' : IntKind.u64.wrap (10 * v) = 10 * v := by rw [IntKind.wrap_u64]; omega
          have w4' : IntKind.u64.wrap (10 * v + (f k - 48)) = 10 * v + (f k - 48) := by rw [IntKind.wrap_u64]; omega
          go_wp2
          refine ⟨⟨k + 1, by omega, by go_num, by rw [HV.out, Int.mul_comm], ?_, trivial⟩, by simp [intOf]; omega⟩
          rw [HA.out, HALL.out]
          simp
          omega
    · have HVP := hide (fun h => val_pos (m := k) hall hm0 h)
      have HE2 := hide (fun hl => HE.out hl HALL.out)
      clear HE HBAD hall
      generalize hvv : valD f k = v at *
      by_cases hl : f 0 = 48
      · have HR := hide (HLEAD.out hl (by omega))
        go_wp2
        ((try rw [Exit.noGoto_ret]); go_ret2; exact ⟨by rw [HR.out]; rfl, rfl⟩)
      have HR := hide (HE2.out (fun h => hl h.1))
      have hv1 := HVP.out hl
      clear HLEAD HE2 HVP
      by_cases hv : v ≤ 9223372036854775808
      · have HR := hide (HR.out.trans ((if_pos trivial).trans (if_pos hv)))
        have w1' : IntKind.u64.wrap (v - 1) = v - 1 := by rw [IntKind.wrap_u64]; omega
        have w2' : IntKind.i64.wrap (v - 1) = v - 1 := IntWalk.i64_in _ (by omega)
        have w3' : IntKind.i64.wrap (-(v - 1)) = -(v - 1) := IntWalk.i64_in _ (by omega)
        have w4' : IntKind.i64.wrap (-(v - 1) - 1) = -v := by rw [show -(v - 1) - 1 = -v by omega]; exact IntWalk.i64_in _ (by omega)
        go_wp2
        ((try rw [Exit.noGoto_ret]); go_ret2; exact ⟨by rw [HR.out]; rfl, rfl⟩)
      · have HR := hide (HR.out.trans ((if_pos trivial).trans (if_neg hv)))
        go_wp2
        ((try rw [Exit.noGoto_ret]); go_ret2; exact ⟨by rw [HR.out]; rfl, rfl⟩)
theorem rparse_none (s : ByteArray) (w : World) (h0 : s.size = 0) :
    Calls Tryd.prog 13 #[.string s] w fun e w' => e = .returned (.tuple #[.int .i64 0, .int .i64 30]) ∧ w = w' := by
  go_enter Tryd.func13, Tryd.ntmps13
  go_wp2
  go_ret2
  exact ⟨rfl, rfl⟩
theorem rparse_dash (s : ByteArray) (w : World) (h0 : s.size = 1) (h45 : bt s 0 = 45) :
    Calls Tryd.prog 13 #[.string s] w fun e w' => e = .returned (.tuple #[.int .i64 0, .int .i64 30]) ∧ w = w' := by
  have hbt := get_bt s
  go_enter Tryd.func13, Tryd.ntmps13
  go_wp2
  go_ret2
  exact ⟨rfl, rfl⟩
theorem rparse_any (s : ByteArray) (w : World) (hsz : s.size ≤ 9223372036854775807) :
    Calls Tryd.prog 13 #[.string s] w fun e w' => e = .returned (.tuple #[.int .i64 (parseS s).1, .int .i64 (parseS s).2]) ∧ w = w' := by
  unfold parseS
  by_cases h0 : s.size = 0
  · rw [if_neg (by omega), show parseD false (bt s) s.size s.size = (0, 30) from if_pos (.inl h0)]
    exact rparse_none s w h0
  · by_cases h45 : bt s 0 = 45
    · rw [if_pos ⟨by omega, h45⟩]
      by_cases h1 : s.size = 1
      · rw [show parseD true (bt (s.extract 1 s.size)) (s.size - 1) s.size = (0, 30) from if_pos (.inl (by omega))]
        exact rparse_dash s w h1 h45
      · have h := rparse_1 s (bt (s.extract 1 s.size)) (s.size - 1) w (by omega) (by omega) h45 (fun j => (bt_tail s j).symm) (by omega)
        rw [show s.size - 1 + 1 = s.size by omega] at h
        exact h
    · rw [if_neg (fun h => h45 h.2)]
      exact rparse_0 s (bt s) s.size w rfl hsz h45 (fun _ => rfl) (by omega)
end Go.Proofs.YtbgakceljbigjaaDoor.Num
