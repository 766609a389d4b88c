/- The names of places in one text, by this layer and by the reference; whether two lists are the same. Condition: the environment of this chapter. -/
import Derived.Test.YthdfmanocemfmaaDoorWellN
import Derived.Test.YthdfmanocemfmaaDoorBld
namespace Go.Proofs.YthdfmanocemfmaaDoor.Well
open Go.ChangeShapes Go.WideShapes Go.ChangeAt Go.RowKit Go.Proofs.YthdfmanocemfmaaDoor.Kit Go.Proofs.YthdfmanocemfmaaDoor.Num Go.Proofs.YthdfmanocemfmaaDoor.Mem Go.Proofs.YthdfmanocemfmaaDoor.Bld Go.Deep Go.PlainAid
set_option linter.unusedVariables false
set_option linter.unusedSimpArgs false
def nmL (p : Pl) : List UInt8 := nameB p.1.toNat p.2.toNat
/-- The first k names with a comma between them. -/
def accL (ps : List Pl) : Nat → List UInt8
  | 0 => []
  | k + 1 => accL ps k ++ (if 0 < k then [44] else []) ++ nmL (ps.getD k (0, 0))
def okL (ps : List Pl) : Nat → Bool
  | 0 => true
  | k + 1 => okL ps k && rightP (ps.getD k (0, 0)).1 (ps.getD k (0, 0)).2
def textS (ps : List Pl) : ByteArray := if okL ps ps.length = true then ⟨(accL ps ps.length).toArray⟩ else ⟨#[]⟩
theorem okL_no {ps : List Pl} {k n : Nat} (hk : k < n) (h : rightP (ps.getD k (0, 0)).1 (ps.getD k (0, 0)).2 = false) : okL ps n = false := by
  induction n with
  | zero => omega
  | succ n ih =>
    unfold okL
    rcases Nat.lt_succ_iff_lt_or_eq.1 hk with h1 | rfl
    · rw [ih h1]
      rfl
    · rw [h, Bool.and_false]
theorem nm_size {p : Pl} (h : rightP p.1 p.2 = true) : (nmL p).length ≤ 4 := by
  have h1 := of_decide_eq_true h
  have := name_len p.1.toNat p.2.toNat (by omega)
  rw [size_len] at this
  exact this
theorem nameS_nm {x y : Int} (h : rightP x y = true) : nameS x y = ⟨(nmL (x, y)).toArray⟩ := if_pos h
theorem acc_len (ps : List Pl) : ∀ k, okL ps k = true → (accL ps k).length ≤ 5 * k
  | 0, _ => Nat.le_refl _
  | k + 1, h => by
    unfold okL at h
    rw [Bool.and_eq_true] at h
    have h1 := acc_len ps k h.1
    have h2 := nm_size (p := ps.getD k (0, 0)) h.2
    unfold accL
    generalize nmL (ps.getD k (0, 0)) = m at *
    rw [List.length_append, List.length_append]
    split <;> simp <;> omega
set_option maxHeartbeats 4000000 in
theorem text_walk {w : World} {B n c : Nat} {A : Option Addr} {ps : List Pl} (h : PRow w B A n ps) (hB : B ≤ w.heap.size) (hn : n ≤ 100000) (he : Env w) :
    Calls Tryd.prog 16 #[.slice A n c] w fun e w' => e = .returned (.string (textS ps)) ∧ Below w.heap.size w w' := by
  have e1 := h.1
  subst e1
  have HR := hide h
  have HE := hide he
  have hw := env_size he
  have HT := hide (show textS ps = if okL ps ps.length = true then ⟨(accL ps ps.length).toArray⟩ else ⟨#[]⟩ from rfl)
  have HB0 : Hid (IsB w.heap.size w.heap.size (Lib.byteCells (accL ps 0)) (w.alloc (.cells #[.pointer none, .slice none 0 0] 50))) := hide (Lib.fresh_isBuilder _ _ w)
  clear h he
  go_enter Tryd.func16, Tryd.ntmps16
  go_wp2
  go_loopw [8] (fun i wr => ∃ k : Nat, k ≤ ps.length ∧ i = .int .i64 k ∧ Hid (okL ps k = true) ∧ Hid (IsB w.heap.size w.heap.size (Lib.byteCells (accL ps k)) wr) ∧ Below w.heap.size w wr) (fun i _ => ps.length - (intOf i).toNat)
  case atStart => exact ⟨0, Nat.zero_le _, rfl, hide rfl, HB0, (by repeat' (first | (with_reducible exact Below.refl _ _) | (with_reducible refine below_drewN ?_ _) | (with_reducible refine Below.drew ?_) | (with_reducible refine Below.alloc ?_ ?_ _) | (with_reducible refine Below.setCell ?_ ?_ _) | (with_reducible refine below_step ?_ (by assumption) ?_) | (with_reducible refine below_step ?_ (below_regrown _ _ _) ?_) | go_size))⟩
  case round =>
    obtain ⟨k, hk, rfl, hok, HI, hbw⟩ := hrel
    have hz0 := hbw.size
    have hSlt := bld_lt HI.out
    by_cases hlt : k < ps.length
    · obtain ⟨b, off, rfl, hbB, hcell⟩ := prow_cells HR.out (by omega)
      obtain ⟨e0, e1⟩ := hcell k hlt
      have d0 := (hbw.cell (p := ⟨b, off + k * 2, none⟩) (by dsimp only; omega)).trans e0
      have d1 := (hbw.cell (p := ⟨b, off + k * 2 + 1, none⟩) (by dsimp only; omega)).trans e1
      have hbr : b < wr.heap.size := by omega
      have HOK := hide (show okL ps (k + 1) = (okL ps k && rightP (ps.getD k (0, 0)).1 (ps.getD k (0, 0)).2) from rfl)
      have HAC := hide (show accL ps (k + 1) = accL ps k ++ (if 0 < k then [44] else []) ++ nmL (ps.getD k (0, 0)) from rfl)
      have HNO := hide (okL_no (ps := ps) hlt)
      have HNM := hide (nm_size (p := ps.getD k (0, 0)))
      have hal := acc_len ps k hok.out
      clear hcell e0 e1
      generalize ps.getD k (0, 0) = p at *
      obtain ⟨x, y⟩ := p
      dsimp only at *
      have R1 := fun w => right_any x y w
      by_cases hr : rightP x y = true
      · have hnm := HNM.out hr
        have HN := hide (nameS_nm hr)
        have N1 := fun w h => name_any x y w h
        rw [HN.out] at N1
        have HS := hide (HOK.out.trans (by rw [hok.out, hr, Bool.and_self]))
        rw [hr] at R1
        generalize nmL (x, y) = nm at *
        have hns : (⟨nm.toArray⟩ : ByteArray).size = nm.length := size_len _
        have hbl : (Lib.byteCells (accL ps k)).length = (accL ps k).length := Lib.byteCells_length _
        clear hr HNM HNO HOK HT
        by_cases hk0 : 0 < k
        · rw [if_pos hk0] at HAC
          have eac : Lib.byteCells (accL ps k) ++ [.int .u8 44] ++ Lib.strCells ⟨nm.toArray⟩ = Lib.byteCells (accL ps (k + 1)) := by
            rw [HAC.out, Lib.byteCells_append, Lib.byteCells_append]
            rfl
          have HEA := hide eac
          clear eac
          go_wp2_with (first | (go_at_call 11; refine (R1 _).mono ?_; rintro e w1 ⟨rfl, hb⟩; obtain ⟨hS, hE, hz, hc, hf⟩ := bcell hb; (try simp only [go_sem] at hE); subst hE) | (go_at_call 25; refine (byte_any 44 (bld_below (bld_alloc HI.out _) hb) (by omega) (by omega)).mono ?_; rintro e w2b ⟨rfl, hIb, hBb, hOb⟩; have hzb := hBb.size; have q9 : w2b.heap[wr.heap.size]? = some (.cells #[.int .i64 x, .int .i64 y] 23) := (hOb wr.heap.size _ ((hb.block wr.heap.size (by simp)).trans (heap_alloc_new wr _)) (by simp; omega) (by intro c fz h; cases h)); have q0 : w2b.cell? ⟨wr.heap.size, 0, none⟩ = some (.int .i64 x) := by { rw [Lib.cell_of_heap q9]; rfl }; have q1 : w2b.cell? ⟨wr.heap.size, 1, none⟩ = some (.int .i64 y) := by { rw [Lib.cell_of_heap q9]; rfl }; have HB2 : Below w.heap.size w w2b := (show Below w.heap.size w w1 from (by repeat' (first | (with_reducible exact Below.refl _ _) | (with_reducible refine below_drewN ?_ _) | (with_reducible refine Below.drew ?_) | (with_reducible refine Below.alloc ?_ ?_ _) | (with_reducible refine Below.setCell ?_ ?_ _) | (with_reducible refine below_step ?_ (by assumption) ?_) | (with_reducible refine below_step ?_ (below_regrown _ _ _) ?_) | go_size))).trans hBb) | (go_at_call 6; refine (N1 _ (HE.out.below HB2 (Nat.le_refl _)).1).mono ?_; rintro e w3 ⟨rfl, hb3⟩; have hz3 := hb3.size) | (go_at_call 26; refine (str_any _ (bld_below hIb hb3) (by simp; omega) (by omega)).mono ?_; rintro e w4 ⟨rfl, hI4, hB4, hO4⟩))
          refine ⟨⟨k + 1, by omega, by go_num, HS, hide (HEA.out ▸ hI4), (HB2.trans (hb3.mono (by omega))).trans hB4⟩, by simp [intOf]; omega⟩
        · obtain rfl : k = 0 := by omega
          simp only [Nat.zero_mul, Nat.add_zero] at d0 d1
          have HEA := hide (show Lib.byteCells (accL ps 0) ++ Lib.strCells ⟨nm.toArray⟩ = Lib.byteCells (accL ps (0 + 1)) by
            rw [HAC.out, if_neg (by omega)]
            rfl)
          go_wp2_with (first | (go_at_call 11; refine (R1 _).mono ?_; rintro e w1 ⟨rfl, hb⟩; obtain ⟨hS, hE, hz, hc, hf⟩ := bcell hb; (try simp only [go_sem] at hE); subst hE) | (go_at_call 6; refine (N1 _ (HE.out.below (B := w.heap.size) (by repeat' (first | (with_reducible exact Below.refl _ _) | (with_reducible refine below_drewN ?_ _) | (with_reducible refine Below.drew ?_) | (with_reducible refine Below.alloc ?_ ?_ _) | (with_reducible refine Below.setCell ?_ ?_ _) | (with_reducible refine below_step ?_ (by assumption) ?_) | (with_reducible refine below_step ?_ (below_regrown _ _ _) ?_) | go_size)) (by omega)).1).mono ?_; rintro e w3 ⟨rfl, hb3⟩; have hz3 := hb3.size) | (go_at_call 26; refine (str_any _ (bld_below (bld_below (bld_alloc HI.out _) hb) hb3) (by omega) (by omega)).mono ?_; rintro e w4 ⟨rfl, hI4, hB4, hO4⟩))
          refine ⟨⟨0 + 1, by omega, by go_num, HS, hide (HEA.out ▸ hI4), (show Below w.heap.size w w3 from (by repeat' (first | (with_reducible exact Below.refl _ _) | (with_reducible refine below_drewN ?_ _) | (with_reducible refine Below.drew ?_) | (with_reducible refine Below.alloc ?_ ?_ _) | (with_reducible refine Below.setCell ?_ ?_ _) | (with_reducible refine below_step ?_ (by assumption) ?_) | (with_reducible refine below_step ?_ (below_regrown _ _ _) ?_) | go_size))).trans hB4⟩, by simp [intOf]; omega⟩
      · rw [Bool.not_eq_true] at hr
        rw [hr] at R1
        have HX := hide (HT.out.trans (if_neg (by rw [HNO.out hr]; decide)))
        clear hr HNM HNO HOK HT HAC
        go_wp2_with (first | (go_at_call 11; refine (R1 _).mono ?_; rintro e w1 ⟨rfl, hb⟩; obtain ⟨hS, hE, hz, hc, hf⟩ := bcell hb; (try simp only [go_sem] at hE); subst hE) | ((with_reducible change Code.wp _ (Code.region _ _ _) _ _ _); refine wp_region_quiet_below (by kernel_rfl) (by kernel_rfl) ?_; (repeat (first | go_big_quiet_step ((first | (go_at_call 11; exact Calls.regrown_of (R1 _)))) | quiet_step ((first | (go_at_call 11; exact Calls.regrown_of (R1 _)))))); refine wpQuiet_nil ?_; intro w1 hw1; have hb := below_of_regrown hw1; clear hw1; obtain ⟨hS, hE, hz, hc, hf⟩ := bcell hb; (try simp only [go_sem] at hE); subst hE))
        go_ret
        exact ⟨by rw [HX.out]; rfl, (by repeat' (first | (with_reducible exact Below.refl _ _) | (with_reducible refine below_drewN ?_ _) | (with_reducible refine Below.drew ?_) | (with_reducible refine Below.alloc ?_ ?_ _) | (with_reducible refine Below.setCell ?_ ?_ _) | (with_reducible refine below_step ?_ (by assumption) ?_) | (with_reducible refine below_step ?_ (below_regrown _ _ _) ?_) | go_size))⟩
    · obtain rfl : k = ps.length := by omega
      have HX := hide (HT.out.trans (if_pos hok.out))
      go_wp2_with (go_at_call 27; refine (fin_any _ HI.out hz0).mono ?_; rintro e w1f ⟨rfl, hbf⟩)
      go_ret
      exact ⟨by rw [HX.out]; rfl, hbw.trans hbf⟩
set_option maxHeartbeats 4000000 in
theorem rtext_walk {w : World} {B n c : Nat} {A : Option Addr} {ps : List Pl} (h : PRow w B A n ps) (hB : B ≤ w.heap.size) (hn : n ≤ 100000) :
    Calls Tryd.prog 17 #[.slice A n c] w fun e w' => e = .returned (.string (textS ps)) ∧ Below w.heap.size w w' := by
  have e1 := h.1
  subst e1
  have HR := hide h
  have HT := hide (show textS ps = if okL ps ps.length = true then ⟨(accL ps ps.length).toArray⟩ else ⟨#[]⟩ from rfl)
  clear h
  go_enter Tryd.func17, Tryd.ntmps17
  go_wp2
  go_loopw [3, 4] (fun s i wr => ∃ (k : Nat) (T : ByteArray), k ≤ ps.length ∧ i = .int .i64 k ∧ s = .string T ∧ Hid (T = ⟨(accL ps k).toArray⟩) ∧ Hid (okL ps k = true) ∧ Below w.heap.size w wr) (fun _ i _ => ps.length - (intOf i).toNat)
  case atStart => exact ⟨0, ⟨#[]⟩, Nat.zero_le _, rfl, rfl, hide rfl, hide rfl, Below.refl _ _⟩
  case round =>
    obtain ⟨k, T, hk, rfl, rfl, HTK, hok, hbw⟩ := hrel
    have hz0 := hbw.size
    by_cases hlt : k < ps.length
    · obtain ⟨b, off, rfl, hbB, hcell⟩ := prow_cells HR.out (by omega)
      obtain ⟨e0, e1⟩ := hcell k hlt
      have hbr : b < wr.heap.size := by omega
      have d0 := (hbw.cell (p := ⟨b, off + k * 2, none⟩) (by dsimp only; omega)).trans e0
      have d1 := (hbw.cell (p := ⟨b, off + k * 2 + 1, none⟩) (by dsimp only; omega)).trans e1
      have HOK := hide (show okL ps (k + 1) = (okL ps k && rightP (ps.getD k (0, 0)).1 (ps.getD k (0, 0)).2) from rfl)
      have HAC := hide (show accL ps (k + 1) = accL ps k ++ (if 0 < k then [44] else []) ++ nmL (ps.getD k (0, 0)) from rfl)
      have HNO := hide (okL_no (ps := ps) hlt)
      have HNM := hide (nm_size (p := ps.getD k (0, 0)))
      have hal := acc_len ps k hok.out
      have hTs : T.size ≤ 500000 := by
        rw [HTK.out, size_len]
        show (accL ps k).length ≤ _
        omega
      clear hcell e0 e1
      generalize ps.getD k (0, 0) = p at *
      obtain ⟨x, y⟩ := p
      dsimp only at *
      have R1 := fun w => rright_any x y w
      by_cases hr : rightP x y = true
      · have hnm := HNM.out hr
        have HN := hide (nameS_nm hr)
        have N1 := fun w => rname_any x y w
        rw [HN.out] at N1
        have HS := hide (HOK.out.trans (by rw [hok.out, hr, Bool.and_self]))
        rw [hr] at R1
        have hns : (⟨(nmL (x, y)).toArray⟩ : ByteArray).size ≤ 4 := by
          rw [size_len]
          exact hnm
        have HC := hide (mk_append (accL ps k) [44])
        have HC2 := hide (mk_append (accL ps k ++ [44]) (nmL (x, y)))
        have HC3 := hide (mk_append (accL ps k) (nmL (x, y)))
        clear hr HNM HNO HOK HT hal
        by_cases hk0 : 0 < k
        · rw [if_pos hk0] at HAC
          obtain ⟨T2, hT2⟩ : ∃ T2 : ByteArray, T ++ (⟨#[44]⟩ : ByteArray) = T2 := ⟨_, rfl⟩
          have hs2 : T2.size ≤ 500001 := by
            rw [← hT2, ByteArray.size_append]
            show _ + 1 ≤ _
            omega
          have HT3 : Hid (T2 ++ (⟨(nmL (x, y)).toArray⟩ : ByteArray) = ⟨(accL ps (k + 1)).toArray⟩) := hide (by
            rw [← hT2, HTK.out]
            refine (congrArg (· ++ _) HC.out).trans ?_
            rw [HAC.out]
            exact HC2.out)
          generalize (⟨(nmL (x, y)).toArray⟩ : ByteArray) = N at *
          go_wp2_with (first | (go_at_call 12; refine (R1 _).mono ?_; rintro e w1 ⟨rfl, hb⟩; obtain ⟨hS, hE, hz, hc, hf⟩ := bcell hb; (try simp only [go_sem] at hE); subst hE) | (go_at_call 10; refine (N1 _).mono ?_; rintro e w1 ⟨rfl, hb⟩; obtain ⟨hS, hE, hz, hc, hf⟩ := bcell hb; (try simp only [go_sem] at hE); subst hE) | ((with_reducible change Code.wp _ (Code.region _ _ _) _ _ _); refine wp_region_quiet_below (by kernel_rfl) (by kernel_rfl) ?_; (repeat (first | go_big_quiet_step ((first | (go_at_call 12; exact Calls.regrown_of (R1 _)) | (go_at_call 10; exact Calls.regrown_of (N1 _)))) | quiet_step ((first | (go_at_call 12; exact Calls.regrown_of (R1 _)) | (go_at_call 10; exact Calls.regrown_of (N1 _)))))); refine wpQuiet_nil ?_; intro w1 hw1; have hb := below_of_regrown hw1; clear hw1; obtain ⟨hS, hE, hz, hc, hf⟩ := bcell hb; (try simp only [go_sem] at hE); subst hE))
          exact ⟨⟨k + 1, _, by omega, by go_num, rfl, HT3, HS, hbw.trans ((show Below wr.heap.size wr w1 from (by repeat' (first | (with_reducible exact Below.refl _ _) | (with_reducible refine below_drewN ?_ _) | (with_reducible refine Below.drew ?_) | (with_reducible refine Below.alloc ?_ ?_ _) | (with_reducible refine Below.setCell ?_ ?_ _) | (with_reducible refine below_step ?_ (by assumption) ?_) | (with_reducible refine below_step ?_ (below_regrown _ _ _) ?_) | go_size))).mono (by omega))⟩, by simp [intOf]; omega⟩
        · obtain rfl : k = 0 := by omega
          simp only [Nat.zero_mul, Nat.add_zero] at d0 d1
          have HT3 : Hid (T ++ (⟨(nmL (x, y)).toArray⟩ : ByteArray) = ⟨(accL ps (0 + 1)).toArray⟩) := hide (by
            rw [HTK.out, HAC.out, if_neg (by omega)]
            exact HC3.out)
          generalize (⟨(nmL (x, y)).toArray⟩ : ByteArray) = N at *
          go_wp2_with (first | (go_at_call 12; refine (R1 _).mono ?_; rintro e w1 ⟨rfl, hb⟩; obtain ⟨hS, hE, hz, hc, hf⟩ := bcell hb; (try simp only [go_sem] at hE); subst hE) | (go_at_call 10; refine (N1 _).mono ?_; rintro e w1 ⟨rfl, hb⟩; obtain ⟨hS, hE, hz, hc, hf⟩ := bcell hb; (try simp only [go_sem] at hE); subst hE) | ((with_reducible change Code.wp _ (Code.region _ _ _) _ _ _); refine wp_region_quiet_below (by kernel_rfl) (by kernel_rfl) ?_; (repeat (first | go_big_quiet_step ((first | (go_at_call 12; exact Calls.regrown_of (R1 _)) | (go_at_call 10; exact Calls.regrown_of (N1 _)))) | quiet_step ((first | (go_at_call 12; exact Calls.regrown_of (R1 _)) | (go_at_call 10; exact Calls.regrown_of (N1 _)))))); refine wpQuiet_nil ?_; intro w1 hw1; have hb := below_of_regrown hw1; clear hw1; obtain ⟨hS, hE, hz, hc, hf⟩ := bcell hb; (try simp only [go_sem] at hE); subst hE))
          exact ⟨⟨0 + 1, _, by omega, by go_num, rfl, HT3, HS, hbw.trans ((show Below wr.heap.size wr w1 from (by repeat' (first | (with_reducible exact Below.refl _ _) | (with_reducible refine below_drewN ?_ _) | (with_reducible refine Below.drew ?_) | (with_reducible refine Below.alloc ?_ ?_ _) | (with_reducible refine Below.setCell ?_ ?_ _) | (with_reducible refine below_step ?_ (by assumption) ?_) | (with_reducible refine below_step ?_ (below_regrown _ _ _) ?_) | go_size))).mono (by omega))⟩, by simp [intOf]; omega⟩
      · rw [Bool.not_eq_true] at hr
        rw [hr] at R1
        have HX := hide (HT.out.trans (if_neg (by rw [HNO.out hr]; decide)))
        clear hr HNM HNO HOK HT HAC
        go_wp2_with (first | (go_at_call 12; refine (R1 _).mono ?_; rintro e w1 ⟨rfl, hb⟩; obtain ⟨hS, hE, hz, hc, hf⟩ := bcell hb; (try simp only [go_sem] at hE); subst hE) | ((with_reducible change Code.wp _ (Code.region _ _ _) _ _ _); refine wp_region_quiet_below (by kernel_rfl) (by kernel_rfl) ?_; (repeat (first | go_big_quiet_step ((first | (go_at_call 12; exact Calls.regrown_of (R1 _)))) | quiet_step ((first | (go_at_call 12; exact Calls.regrown_of (R1 _)))))); refine wpQuiet_nil ?_; intro w1 hw1; have hb := below_of_regrown hw1; clear hw1; obtain ⟨hS, hE, hz, hc, hf⟩ := bcell hb; (try simp only [go_sem] at hE); subst hE))
        go_ret
        exact ⟨by rw [HX.out]; rfl, (by repeat' (first | (with_reducible exact Below.refl _ _) | (with_reducible refine below_drewN ?_ _) | (with_reducible refine Below.drew ?_) | (with_reducible refine Below.alloc ?_ ?_ _) | (with_reducible refine Below.setCell ?_ ?_ _) | (with_reducible refine below_step ?_ (by assumption) ?_) | (with_reducible refine below_step ?_ (below_regrown _ _ _) ?_) | go_size))⟩
    · obtain rfl : k = ps.length := by omega
      have HX := hide (HT.out.trans (if_pos hok.out))
      go_wp2
      go_ret
      exact ⟨by rw [HX.out, ← HTK.out]; rfl, hbw⟩
set_option maxHeartbeats 2000000 in
theorem same_yes {w : World} {A A2 : Option Addr} {B B2 n n2 c c2 : Nat} {ps : List Pl} (h : PRow w B A n ps) (h2 : PRow w B2 A2 n2 ps) (hn : n ≤ 140737488351232) :
    Calls Tryd.prog 15 #[.slice A n c, .slice A2 n2 c2] w fun e w' => e = .returned (.bool true) ∧ Below w.heap.size w w' := by
  have e1 := h.1
  have e2 := h2.1
  subst e1
  subst e2
  have HR := hide h
  have HR2 := hide h2
  clear h h2
  go_enter Tryd.func15, Tryd.ntmps15
  go_wp2
  go_loopw [5] (fun i wr => ∃ k : Nat, k ≤ ps.length ∧ i = .int .i64 k ∧ Below w.heap.size w wr) (fun i _ => ps.length - (intOf i).toNat)
  case atStart => exact ⟨0, Nat.zero_le _, rfl, Below.refl _ _⟩
  case round =>
    obtain ⟨k, hk, rfl, hbw⟩ := hrel
    by_cases hlt : k < ps.length
    · obtain ⟨b, off, rfl, hbB, hcell⟩ := prow_cells HR.out (by omega)
      obtain ⟨b2, off2, rfl, hbB2, hcell2⟩ := prow_cells HR2.out (by omega)
      obtain ⟨e0, e1⟩ := hcell k hlt
      obtain ⟨e3, e4⟩ := hcell2 k hlt
      have d0 := (hbw.cell (p := ⟨b, off + k * 2, none⟩) (block_lt_of_cell e0)).trans e0
      have d1 := (hbw.cell (p := ⟨b, off + k * 2 + 1, none⟩) (block_lt_of_cell e1)).trans e1
      have d3 := (hbw.cell (p := ⟨b2, off2 + k * 2, none⟩) (block_lt_of_cell e3)).trans e3
      have d4 := (hbw.cell (p := ⟨b2, off2 + k * 2 + 1, none⟩) (block_lt_of_cell e4)).trans e4
      have hl1 : b < wr.heap.size := block_lt_of_cell d0
      have hl2 : b2 < wr.heap.size := block_lt_of_cell d3
      clear hcell hcell2 e0 e1 e3 e4
      generalize ps.getD k (0, 0) = p at *
      obtain ⟨x, y⟩ := p
      dsimp only at *
      go_wp2
      ((with_reducible change Code.wp _ (Code.region _ _ _) _ _ _); refine wp_region_quiet_below (by kernel_rfl) (by kernel_rfl) ?_; (repeat (first | go_big_quiet_step (fail) | quiet_step (fail))); refine wpQuiet_nil ?_; intro w1 hw1; have hb := below_of_regrown hw1; clear hw1; obtain ⟨hS, hE, hz, hc, hf⟩ := bcell hb; (try simp only [go_sem] at hE); subst hE)
      go_wp2
      refine ⟨⟨k + 1, by omega, by go_num, hbw.trans (hb.mono hbw.size)⟩, by simp [intOf]; omega⟩
    · obtain rfl : k = ps.length := by omega
      go_wp2
      go_ret
      exact ⟨rfl, hbw⟩
end Go.Proofs.YthdfmanocemfmaaDoor.Well
