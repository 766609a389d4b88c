/- What must come of every program of this chapter; the library's table out of the row's list. Condition: the environment of this chapter. -/
import Derived.Test.YthdfmanocemfmaaDoorWellO
namespace Go.Proofs.YthdfmanocemfmaaDoor.Well
open Go.ChangeShapes Go.WideShapes Go.ChangeAt Go.RowKit Go.Proofs.YthdfmanocemfmaaDoor.Kit Go.Proofs.YthdfmanocemfmaaDoor.Num Go.Proofs.YthdfmanocemfmaaDoor.Mem Go.Deep Go.PlainAid
set_option linter.unusedVariables false
set_option linter.unusedSimpArgs false
theorem tab_type : (Tryd.prog.globals[1]?).map (·.type) = some 79 := by kernel_rfl
theorem pow_laid {W : World} (h : laidMetH Tryd.prog [("math/bits.deBruijn32tab", Rows.laid_math_bits_deBruijn32tab), ("math/bits.deBruijn64tab", Rows.laid_math_bits_deBruijn64tab), ("internal/strconv.uint64pow10", Rows.laid_internal_strconv_uint64pow10)] W) : Pow W := by
  rw [MakeChecks.laidMetH_plain _ _ _ (by kernel_rfl)] at h
  obtain ⟨ps, ⟨g0, t0, cs0, f0, p0, q0, hg0, ht0, hv0, hd0, ⟨g1, t1, cs1, f1, p1, q1, hg1, ht1, hv1, hd1, ⟨g2, t2, cs2, f2, p2, q2, hg2, ht2, hv2, hd2, _, _⟩, _⟩, _⟩, _, _⟩ := h
  obtain rfl := Option.some.inj (gPow.symm.trans hg2)
  obtain rfl := Option.some.inj (tab_type.symm.trans ht2)
  have e := Lib.cells_of_tab (zs := Lib.pow10Tab) (k := .u64) Tryd.underlying79 Tryd.underlying57 (by kernel_rfl) (by kernel_rfl) (hd2.trans (by rfl))
  have hT : Lib.TabIs Tryd.prog W "internal/strconv.uint64pow10" .u64 Lib.pow10Tab := by
    unfold Lib.TabIs
    rw [hv2, ← e]
  refine ⟨hT, ?_⟩
  exact block_lt_of_cell (Lib.TabIs.cell hT gPow 0 (by rw [Lib.pow10Tab_length]; omega))
theorem env_laid {W : World} (h : laidMetH Tryd.prog [("math/bits.deBruijn32tab", Rows.laid_math_bits_deBruijn32tab), ("math/bits.deBruijn64tab", Rows.laid_math_bits_deBruijn64tab), ("internal/strconv.uint64pow10", Rows.laid_internal_strconv_uint64pow10)] W) (hs : W.ShapedOpen Tryd.prog) : Env W :=
  ⟨pow_laid h, Tryd.laysM145.s1_3 W hs⟩
theorem srow_take {α : Type} {enc : α → List Value} {k n m B : Nat} {w : World} {A : Option Addr} {xs : List α} (h : SRow enc k w B A n xs) (hk : ∀ x, (enc x).length = k) (hm : m ≤ n) : SRow enc k w B A m (xs.take m) := by
  obtain ⟨h1, h2⟩ := h
  refine ⟨by rw [List.length_take]; omega, fun h0 => ?_⟩
  have hmn := Nat.mul_le_mul_right k hm
  obtain ⟨b, off, hA, hb, hc⟩ := h2 (by omega)
  refine ⟨b, off, hA, hb, fun j hj => ?_⟩
  rw [hc j (by omega)]
  have e : SV enc xs = SV enc (xs.take m) ++ SV enc (xs.drop m) := by rw [sv_append, List.take_append_drop]
  have hl : (SV enc (xs.take m)).length = m * k := by rw [sv_len hk, List.length_take]; congr 1; omega
  simp only [List.getD_eq_getElem?_getD]
  rw [e, List.getElem?_append_left (by omega)]
theorem dec_of {l : List UInt8} {n : Nat} (h : parseL l = ((n : Int), 0)) : Lib.decDigits n = l := by
  rcases text_of_read l with h1 | ⟨_, _, h3⟩
  · rw [h] at h1
    cases h1
  · rw [h] at h3
    unfold Lib.itoa at h3
    rw [if_neg (by dsimp only; omega)] at h3
    exact h3
theorem d1 : Lib.decDigits 1 = [49] := dec_of (by decide)
theorem d2 : Lib.decDigits 2 = [50] := dec_of (by decide)
theorem d10 : Lib.decDigits 10 = [49, 48] := dec_of (by decide)
theorem n_aa10 : nameS 26 9 = { data := #[65, 65, 49, 48] } := by
  refine (nameS_nat (a := 26) (b := 9) (by decide) (by decide)).trans ?_
  unfold nameB
  rw [show (9 : Nat) + 1 = 10 from rfl, d10]
  rfl
theorem t_a1a2 : textS [(0, 0), (0, 1)] = { data := #[65, 49, 44, 65, 50] } := by
  have h1 : nmL (0, 0) = [65, 49] := by
    show nameB 0 0 = _
    unfold nameB
    rw [show (0 : Nat) + 1 = 1 from rfl, d1]
    rfl
  have h2 : nmL (0, 1) = [65, 50] := by
    show nameB 0 1 = _
    unfold nameB
    rw [show (1 : Nat) + 1 = 2 from rfl, d2]
    rfl
  unfold textS
  rw [if_pos (by decide)]
  show (⟨(([] ++ [] ++ nmL (0, 0)) ++ [44] ++ nmL (0, 1)).toArray⟩ : ByteArray) = _
  rw [h1, h2]
  rfl
theorem l_good : listS [65, 49, 58, 66, 50, 44, 65, 65, 49, 48] = ([(0, 0), (0, 1), (1, 0), (1, 1), (26, 9)], 0, 0) := by decide +kernel
theorem l_bad : listS [65, 49, 44, 66, 48] = ([], 60, 1) := by decide +kernel
theorem p_af48 : parseW { data := #[65, 70, 52, 56] } = (31, 47, 0) := by decide +kernel
set_option maxHeartbeats 4000000 in
theorem lives_any (w : World) (h : Env w) : Calls Tryd.prog 9 #[] w fun e w' => e = .returned (.bool true) ∧ Below w.heap.size w w' := by
  have L1 := fun w h => list_any { data := #[65, 49, 58, 66, 50, 44, 65, 65, 49, 48] } w (by decide) h
  have L2 := fun w h => list_any { data := #[65, 49, 44, 66, 48] } w (by decide) h
  have P1 := fun w => wparse_any { data := #[65, 70, 52, 56] } w (by decide)
  have N1 := fun w h => name_any 26 9 w h
  have R1 := fun w => right_any 31 47 w
  have T1 := fun (w : World) (B c : Nat) (A : Option Addr) h hB he => text_walk (w := w) (B := B) (n := 2) (c := c) (A := A) (ps := [(0, 0), (0, 1)]) h hB (by decide) he
  rw [show ({ data := #[65, 49, 58, 66, 50, 44, 65, 65, 49, 48] } : ByteArray).data.toList = [65, 49, 58, 66, 50, 44, 65, 65, 49, 48] from rfl, l_good] at L1
  rw [show ({ data := #[65, 49, 44, 66, 48] } : ByteArray).data.toList = [65, 49, 44, 66, 48] from rfl, l_bad] at L2
  rw [p_af48] at P1
  rw [n_aa10] at N1
  rw [t_a1a2] at T1
  rw [show rightP 31 47 = true from rfl] at R1
  unfold retW at P1
  dsimp only at P1
  have HE := hide h
  clear h
  go_enter Tryd.func9, Tryd.ntmps9
  go_wp2_with (first | (go_at_call 13; (with_reducible refine (L1 _ (HE.out.below (B := w.heap.size) (by repeat' (first | (with_reducible exact Below.refl _ _) | (with_reducible refine below_drewN ?_ _) | (with_reducible refine Below.drew ?_) | (with_reducible refine Below.alloc ?_ ?_ _) | (with_reducible refine Below.setCell ?_ ?_ _) | (with_reducible refine below_step ?_ (by assumption) ?_) | (with_reducible refine below_step ?_ (below_regrown _ _ _) ?_) | go_size)) (by omega))).mono ?_); rintro e wl ⟨A1, c1, rfl, k1, k2, k3, hbl⟩; obtain ⟨hSl, hEl, hzl, hcl, hfl⟩ := bcell hbl; (try simp only [go_sem] at hEl); subst hEl; obtain ⟨bb, off, rfl, hbb, hcc⟩ := prow_cells k3 (by decide); obtain ⟨q4, q5⟩ := hcc 2 (by decide); obtain ⟨q8, q9⟩ := hcc 4 (by decide); have k9 : 5 ≤ c1 := k1; have KT := hide (srow_take (m := 2) k3 encP_len (by decide)); clear k3 hcc) | (go_at_call 13; (with_reducible refine (L2 _ (HE.out.below (B := w.heap.size) (by repeat' (first | (with_reducible exact Below.refl _ _) | (with_reducible refine below_drewN ?_ _) | (with_reducible refine Below.drew ?_) | (with_reducible refine Below.alloc ?_ ?_ _) | (with_reducible refine Below.setCell ?_ ?_ _) | (with_reducible refine below_step ?_ (by assumption) ?_) | (with_reducible refine below_step ?_ (below_regrown _ _ _) ?_) | go_size)) (by omega))).mono ?_); rintro e wm ⟨A2, c2, rfl, j1, j2, j3, hbm⟩; obtain ⟨hSm, hEm, hzm, hcm, hfm⟩ := bcell hbm; (try simp only [go_sem] at hEm); subst hEm) | (go_at_call 7; refine (P1 _).mono ?_; rintro e w1 ⟨rfl, hb⟩; obtain ⟨hS, hE, hz, hc, hf⟩ := bcell hb; (try simp only [go_sem] at hE); subst hE) | (go_at_call 6; refine (N1 _ (HE.out.below (B := w.heap.size) (by repeat' (first | (with_reducible exact Below.refl _ _) | (with_reducible refine below_drewN ?_ _) | (with_reducible refine Below.drew ?_) | (with_reducible refine Below.alloc ?_ ?_ _) | (with_reducible refine Below.setCell ?_ ?_ _) | (with_reducible refine below_step ?_ (by assumption) ?_) | (with_reducible refine below_step ?_ (below_regrown _ _ _) ?_) | go_size)) (by omega)).1).mono ?_; rintro e w1 ⟨rfl, hb⟩; obtain ⟨hS, hE, hz, hc, hf⟩ := bcell hb; (try simp only [go_sem] at hE); subst hE) | (go_at_call 11; refine (R1 _).mono ?_; rintro e w1 ⟨rfl, hb⟩; obtain ⟨hS, hE, hz, hc, hf⟩ := bcell hb; (try simp only [go_sem] at hE); subst hE) | (go_at_call 16; refine (T1 _ _ _ _ (srow_below KT.out (B1 := wl.heap.size) (by repeat' (first | (with_reducible exact Below.refl _ _) | (with_reducible refine below_drewN ?_ _) | (with_reducible refine Below.drew ?_) | (with_reducible refine Below.alloc ?_ ?_ _) | (with_reducible refine Below.setCell ?_ ?_ _) | (with_reducible refine below_step ?_ (by assumption) ?_) | (with_reducible refine below_step ?_ (below_regrown _ _ _) ?_) | go_size)) (Nat.le_refl _)) (by omega) (HE.out.below (B := w.heap.size) (by repeat' (first | (with_reducible exact Below.refl _ _) | (with_reducible refine below_drewN ?_ _) | (with_reducible refine Below.drew ?_) | (with_reducible refine Below.alloc ?_ ?_ _) | (with_reducible refine Below.setCell ?_ ?_ _) | (with_reducible refine below_step ?_ (by assumption) ?_) | (with_reducible refine below_step ?_ (below_regrown _ _ _) ?_) | go_size)) (by omega))).mono ?_; rintro e w1 ⟨rfl, hb⟩; obtain ⟨hS, hE, hz, hc, hf⟩ := bcell hb; (try simp only [go_sem] at hE); subst hE))
  go_ret
  exact ⟨rfl, (by repeat' (first | (with_reducible exact Below.refl _ _) | (with_reducible refine below_drewN ?_ _) | (with_reducible refine Below.drew ?_) | (with_reducible refine Below.alloc ?_ ?_ _) | (with_reducible refine Below.setCell ?_ ?_ _) | (with_reducible refine below_step ?_ (by assumption) ?_) | (with_reducible refine below_step ?_ (below_regrown _ _ _) ?_) | go_size))⟩
end Go.Proofs.YthdfmanocemfmaaDoor.Well
