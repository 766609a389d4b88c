/- What must come of every program (frames); lists of payloads handed in. No condition. -/
import Derived.Test.YtmnkgmadogkjbaaFrmD
import Derived.Test.YtmnkgmadogkjbaaSized
import Derived.Outline
namespace Go.Proofs.Ytmnkgmadogkjbaa.Frame
open Go.ChangeShapes Go.WideShapes Go.ChangeAt Go.RowKit Go.Proofs.Ytmnkgmadogkjbaa.Kit Go.Proofs.Ytmnkgmadogkjbaa.Mem Go.Proofs.Ytmnkgmadogkjbaa.Pack Go.Proofs.Ytmnkgmadogkjbaa.Mix Go.Deep
set_option linter.unusedVariables false
section
variable {H : Type} {enc : TypeId × Value → H} {w : World}
theorem rdS_brows {cs : List Value} (h : RdS enc Try.prog w 22 cs) :
    ∃ (A : Option Addr) (len cap : Nat) (ls : List (List Int)), cs = [.slice A len cap] ∧ len ≤ cap ∧ cap ≤ maxLen ∧ len ≤ 140737488351232 ∧ BRows w w.heap.size A len ls ∧ ∀ l ∈ ls, (∀ x ∈ l, 0 ≤ x ∧ x ≤ 255) ∧ l.length ≤ 140737488351232 := by
  obtain ⟨A, len, cap, f, rfl, h1, h2, h3, h4, h5⟩ := rdS_row (Q := fun v => ∃ A n c l, v = .slice A n c ∧ n ≤ c ∧ c ≤ maxLen ∧ n ≤ 140737488351232 ∧ Bytes w w.heap.size A n l ∧ ∀ x ∈ l, 0 ≤ x ∧ x ≤ 255) Try.underlying22 (by kernel_rfl) (bytes := 24) (by kernel_rfl)
    (fun cs hcs => by
      obtain ⟨A, n, c, l, e, g1, g2, g3, g4, g5⟩ := rdS_bytes Try.underlying25 Try.underlying5 (by kernel_rfl) (by kernel_rfl) hcs
      exact ⟨_, e, A, n, c, l, rfl, g1, g2, g3, g4, g5⟩) h
  refine ⟨A, len, cap, (List.range len).pmap (fun j hj => (h5 j hj).choose_spec.choose_spec.choose_spec.choose) (fun j hj => List.mem_range.1 hj), rfl, h1, h2, by omega, ⟨by simp, fun j => sl3 (f j), row_of h4 fun j hj => ?_, fun j hj => ?_⟩, fun l hl => ?_⟩
  · obtain ⟨A', n', c', l', e, _⟩ := h5 j hj
    dsimp only
    rw [e]
    rfl
  · have e : ((List.range len).pmap (fun j hj => (h5 j hj).choose_spec.choose_spec.choose_spec.choose) (fun j hj => List.mem_range.1 hj)).getD j [] = (h5 j hj).choose_spec.choose_spec.choose_spec.choose := by
      simp [List.getD_eq_getElem?_getD, hj]
    rw [e]
    obtain ⟨k1, k2, k3, k4, k5, k6⟩ := (h5 j hj).choose_spec.choose_spec.choose_spec.choose_spec
    dsimp only
    have e2 : sl3 (f j) = ((h5 j hj).choose, (h5 j hj).choose_spec.choose, (h5 j hj).choose_spec.choose_spec.choose) := (congrArg sl3 k1).trans rfl
    rw [e2]
    exact ⟨k2, k3, k5⟩
  · obtain ⟨j, hj, rfl⟩ := List.mem_pmap.1 hl
    obtain ⟨k1, k2, k3, k4, k5, k6⟩ := (h5 j (List.mem_range.1 hj)).choose_spec.choose_spec.choose_spec.choose_spec
    exact ⟨k6, by rw [k5.1]; exact k4⟩
end
section
variable {w : World}
theorem right_no {A : Option Addr} {n c : Nat} {l : List Int} {B : Nat} (hb : Bytes w B A n l) (hr : ∀ x ∈ l, 0 ≤ x ∧ x ≤ 255) (hB : B ≤ w.heap.size) (hc : n ≤ c) (hm : n ≤ 1099511627776) (h1 : 2 ≤ n) (h2 : saysF l ≤ 512) (h3 : saysF l ≤ (n : Int) - 2) :
    Calls Try.prog 15 #[.agg #[.slice A n c, .bool false]] w fun e w' => e = .returned (.bool false) ∧ Below w.heap.size w w' := by
  have hl := hb.1
  subst hl
  have hs := saysF_bd l hr
  have S1 := says_any (bytes_alloc hb hB (.cells #[.slice A l.length c, .bool false] 31)) hr (by simp; omega) (by omega) hc hm
  generalize saysF l = v at *
  go_enter Try.func15, Try.ntmps15
  go_wp2_with (first | (go_at_call 20; refine (S1).mono ?_; rintro e w1 ⟨rfl, hb⟩; obtain ⟨hS, hE, hz, hc, hf⟩ := bcell hb; (try simp only [go_sem] at hE); subst hE) | (refine wp_region_quiet_below (by kernel_rfl) (by kernel_rfl) ?_; (repeat (first | go_big_quiet_step ((first | (go_at_call 20; exact Calls.regrown_of (S1)))) | quiet_step ((first | (go_at_call 20; exact Calls.regrown_of (S1)))))); refine wpQuiet_nil ?_; intro w1 hw1; have hb := below_of_regrown hw1; clear hw1; obtain ⟨hS, hE, hz, hc, hf⟩ := bcell hb; (try simp only [go_sem] at hE); subst hE))
  go_ret
  exact ⟨ret_bool (decide_eq_false (by omega)), (by repeat' (first | (with_reducible exact Below.refl _ _) | (with_reducible refine below_drewN ?_ _) | (with_reducible refine Below.drew ?_) | (with_reducible refine Below.alloc ?_ ?_ _) | (with_reducible refine Below.setCell ?_ ?_ _) | (with_reducible refine below_step ?_ (by assumption) ?_) | go_size))⟩
theorem cut7 : cutF [0, 1, 7, 0] = ([[7]], [0], false) := by
  rw [cutF_one [0, 1, 7, 0] (by decide) (by decide) (by decide), show ([0, 1, 7, 0] : List Int).drop (2 + (saysF [0, 1, 7, 0]).toNat) = [0] from rfl, cutF_few [0] (by decide)]
  rfl
theorem cut2 : cutF [2, 1] = ([], [], true) := cutF_shut _ (by decide) (by decide)
theorem put7 (w : World) : Calls Try.prog 8 #[.slice (some ⟨w.heap.size, 0, none⟩) 1 1] (w.alloc (.cells #[.int .u8 7] 5)) fun e w' =>
    ∃ A c, e = .returned (.tuple #[.slice A 3 c, .int .i64 0]) ∧ OB w' (w.heap.size + 1) A 3 [0, 1, 7] ∧ Below (w.heap.size + 1) (w.alloc (.cells #[.int .u8 7] 5)) w' ∧ 3 ≤ c ∧ c ≤ maxLen := by
  refine (fput_any (c := 1) (bytes_one w 7 5) (by simp) (by omega)).mono ?_
  rintro e w' ⟨A, c, rfl, h2, h3, h4, h5⟩
  refine ⟨A, c, rfl, ?_, ?_, h4, h5⟩
  · have := ob_base h2 (base' := w.heap.size + 1) (by simp)
    exact this
  · exact h3.mono (by simp)
theorem all7 {w : World} {A : Option Addr} {c B : Nat} (hb : Bytes w B A 4 [0, 1, 7, 0]) (hB : B ≤ w.heap.size) : Calls Try.prog 11 #[.slice A 4 c] w fun e w' =>
    ∃ A c At ct, e = .returned (.tuple #[.slice At 1 ct, .agg #[.slice A 1 c, .bool false]]) ∧ OB w' w.heap.size A 1 [0] ∧ 1 ≤ c ∧ c ≤ maxLen ∧ (∃ b f n c1, At = some ⟨b, 0, none⟩ ∧ w'.cell? ⟨b, 0, none⟩ = some (.slice f n c1) ∧ b < w'.heap.size ∧ Bytes w' w'.heap.size f n [7]) ∧ Below w.heap.size w w' := by
  have := all_any (c2 := c) hb (by decide) hB (by omega)
  rw [cut7] at this
  refine this.mono ?_
  rintro e w' ⟨A, c, At, ct, rfl, h1, h2, h3, ⟨h4, vs, h5, h6⟩, h7⟩
  refine ⟨A, c, At, ct, rfl, h1, h2, h3, ?_, h7⟩
  obtain ⟨A', n', c', k1, k2, k3, k4⟩ := h6 0 (by decide)
  rcases h5.2 with ⟨_, hn⟩ | ⟨g, cap, cur, e1, e2, e3, e4⟩
  · cases hn
  · simp only [Value.slice.injEq, true_and] at e1
    obtain ⟨rfl, rfl⟩ := e1
    refine ⟨g, A', n', c', rfl, ?_, lt_of_blk e3, ob_bytes k4⟩
    have := h5.cellAt 0 (by decide)
    rw [this]
    rw [List.getD_eq_getElem?_getD] at k1
    rcases hv : vs[0]? with _ | v
    · rw [hv] at k1; cases k1
    · rw [hv] at k1; exact congrArg some k1
theorem all2 {w : World} {A : Option Addr} {c B : Nat} (hb : Bytes w B A 2 [2, 1]) (hB : B ≤ w.heap.size) : Calls Try.prog 11 #[.slice A 2 c] w fun e w' =>
    ∃ A c At ct, e = .returned (.tuple #[.slice At 0 ct, .agg #[.slice A 0 c, .bool true]]) ∧ Below w.heap.size w w' := by
  have := all_any (c2 := c) hb (by decide) hB (by omega)
  rw [cut2] at this
  refine this.mono ?_
  rintro e w' ⟨A, c, At, ct, rfl, h1, h2, h3, _, h7⟩
  exact ⟨A, c, At, ct, rfl, h7⟩
theorem bytes_lit (w : World) (l : List Int) (t : TypeId) : Bytes (w.alloc (.cells (BV l).toArray t)) (w.heap.size + 1) (some ⟨w.heap.size, 0, none⟩) l.length l := by
  refine ⟨rfl, ?_⟩
  have := row_new w (BV l) t
  rw [show (BV l).length = l.length by simp [BV]] at this
  exact row_of this fun j hj => bv_get l j hj
theorem bytes_two (w : World) (x y : Int) (t : TypeId) : Bytes (w.alloc (.cells #[.int .u8 x, .int .u8 y] t)) (w.heap.size + 1) (some ⟨w.heap.size, 0, none⟩) 2 [x, y] := bytes_lit w [x, y] t
theorem bytes_three (w : World) (x y z : Int) (t : TypeId) : Bytes (w.alloc (.cells #[.int .u8 x, .int .u8 y, .int .u8 z] t)) (w.heap.size + 1) (some ⟨w.heap.size, 0, none⟩) 3 [x, y, z] := bytes_lit w [x, y, z] t
theorem rsame_yes {w : World} {A A2 : Option Addr} {n c n2 c2 B B2 : Nat} {l : List Int} (h : Bytes w B A n l) (h2 : Bytes w B2 A2 n2 l) : Calls Try.prog 10 #[.slice A n c, .slice A2 n2 c2] w fun e w' => e = .returned (.bool true) ∧ w = w' := by
  have := same_any (c := c) (c' := c2) h h2
  rwa [sameB_self] at this
set_option maxHeartbeats 1000000 in
theorem lives_any (w : World) : Calls Try.prog 7 #[] w fun e w' => e = .returned (.bool true) ∧ Below w.heap.size w w' := by
  go_enter Try.func7, Try.ntmps7
  go_wp2_with (first | (go_at_call 8; refine (put7 _).mono ?_; rintro e w1 ⟨A1, c1, rfl, ob1, hb1, hc1, hm1⟩; have hz1 : w.heap.size + 1 ≤ w1.heap.size := (by have := hb1.size; simp at this; exact this); have hB1 : Below w.heap.size w w1 := ((Below.refl _ _).alloc (Nat.le_refl _) _).trans (hb1.mono (by omega))) | (at_builtin; refine app_u8_0 rfl (.tmp 13) (.tmp 14) rfl w1.heap.size _ 0 rfl (own_empty w1 5) w1.heap.size A1 3 c1 [0, 1, 7] rfl (bytes_alloc (ob_bytes ob1) (Nat.le_refl _) _) (by omega) (by simp) ?_; intro A2 c2 w2 hown2 hgrow2 hbel2 hcap2 hcm2; have hz2 : w1.heap.size + 1 ≤ w2.heap.size := (by have := hbel2.size; simp at this; exact this)) | (at_builtin; refine app_u8 rfl (.tmp 15) (.tmp 16) rfl w1.heap.size A2 3 c2 [0, 1, 7] rfl (hown2.alloc _) _ _ 1 1 [0] rfl (bytes_one w2 0 5) (by omega) (by simp only [World.size_alloc]; omega) ?_; intro A3 c3 w3 hown3 hgrow3 hbel3 hcap3 hcm3; have hz3 : w2.heap.size + 1 ≤ w3.heap.size := (by have := hbel3.size; simp at this; exact this)))
  have hB3 : Below w1.heap.size w1 w3 := ((((Below.refl _ _).alloc (Nat.le_refl _) _).trans hbel2).alloc (by omega) _).trans hbel3
  have h7b := bytes_of_own hown3
  have k13 : ∀ t, KeepT w1 w3 t := fun t => keepT_below hB3 (Nat.le_refl _) t
  have ob3 := ob_keep ob1 (k13 _)
  clear hown2 hgrow2 hbel2 hown3 hgrow3 hbel3 hb1 ob1 k13
  go_wp2_with ((go_at_call 11; (with_reducible refine (all7 h7b (Nat.le_refl _)).mono ?_); rintro e w4 ⟨A4, c4, At, ct, rfl, ob4, hc4, hm4, ⟨bt, f7, n7, c7, rfl, hcell7, hlt7, hb7⟩, hb4⟩))
  have hz4 := hb4.size
  have two := bytes_two (w4.alloc (.cells #[.slice A4 1 c4, .bool false] 31)) 2 1 5
  have two2 : w4.heap.size + 1 + 1 ≤ ((w4.alloc (.cells #[.slice A4 1 c4, .bool false] 31)).alloc (.cells #[.int .u8 2, .int .u8 1] 5)).heap.size := by simp
  simp only [World.size_alloc] at two
  have ob5 := ob_keep ob3 (keepT_below hb4 (Nat.le_refl _) _)
  go_wp2_with ((go_at_call 11; (with_reducible refine (all2 two two2).mono ?_); rintro e w5 ⟨A5, c5, At5, ct5, rfl, hb5⟩; obtain ⟨hS5, hE5, hz5, hc5', hf5⟩ := bcell hb5; (try simp only [go_sem] at hE5); subst hE5; have k1 := ob_bytes (ob_keep ob5 (((keepT_alloc w4 _ _).trans (keepT_alloc _ _ _)).trans (keepT_below hb5 (Nat.le_refl _) _))); have k4 := ob_bytes (ob_keep ob4 (((keepT_alloc w4 _ _).trans (keepT_alloc _ _ _)).trans (keepT_below hb5 (Nat.le_refl _) _))); have k7 := bytes_below (bytes_alloc (bytes_alloc hb7 (Nat.le_refl _) _) (by simp) _) hb5 (by simp; omega)))
  have hz5' := hb5.size
  have m1 := bytes_three (w5.alloc (.cells #[.slice A5 0 c5, .bool true] 31)) 0 1 7 5
  have m2 := bytes_one ((w5.alloc (.cells #[.slice A5 0 c5, .bool true] 31)).alloc (.cells #[.int .u8 0, .int .u8 1, .int .u8 7] 5)) 7 5
  have m3 := bytes_one (((w5.alloc (.cells #[.slice A5 0 c5, .bool true] 31)).alloc (.cells #[.int .u8 0, .int .u8 1, .int .u8 7] 5)).alloc (.cells #[.int .u8 7] 5)) 0 5
  simp only [World.size_alloc] at m1 m2 m3
  have s1 := rsame_yes (c := c1) (c2 := 3) (bytes_alloc (bytes_alloc k1 (Nat.le_refl _) (.cells #[.slice A5 0 c5, .bool true] 31)) (by simp <;> omega) _) m1
  have s2 := rsame_yes (c := c7) (c2 := 1) (bytes_alloc (bytes_alloc (bytes_alloc k7 (by simp at hz5' ⊢; omega) (.cells #[.slice A5 0 c5, .bool true] 31)) (by simp at hz5' ⊢; omega) (.cells #[.int .u8 0, .int .u8 1, .int .u8 7] 5)) (by simp at hz5' ⊢; omega) _) m2
  have s3 := rsame_yes (c := c4) (c2 := 1) (bytes_alloc (bytes_alloc (bytes_alloc (bytes_alloc k4 (by simp <;> omega) (.cells #[.slice A5 0 c5, .bool true] 31)) (by simp <;> omega) (.cells #[.int .u8 0, .int .u8 1, .int .u8 7] 5)) (by simp <;> omega) (.cells #[.int .u8 7] 5)) (by simp <;> omega) _) m3
  have K1 : Bytes ((((w5.alloc (.cells #[.slice A5 0 c5, .bool true] 31)).alloc (.cells #[.int .u8 0, .int .u8 1, .int .u8 7] 5)).alloc (.cells #[.int .u8 7] 5)).alloc (.cells #[.int .u8 0] 5)) w5.heap.size A1 3 [0, 1, 7] := bytes_alloc (bytes_alloc (bytes_alloc (bytes_alloc k1 (by simp <;> omega) _) (by simp <;> omega) _) (by simp <;> omega) _) (by simp <;> omega) _
  have K4 : Bytes ((((w5.alloc (.cells #[.slice A5 0 c5, .bool true] 31)).alloc (.cells #[.int .u8 0, .int .u8 1, .int .u8 7] 5)).alloc (.cells #[.int .u8 7] 5)).alloc (.cells #[.int .u8 0] 5)) w5.heap.size A4 1 [0] := bytes_alloc (bytes_alloc (bytes_alloc (bytes_alloc k4 (by simp <;> omega) _) (by simp <;> omega) _) (by simp <;> omega) _) (by simp <;> omega) _
  have r4 := right_any (c := c4) K4 (by decide) (by simp <;> omega) hc4 (by omega) (.inl (by decide))
  have BV : Hid (Below w.heap.size w ((((w5.alloc (.cells #[.slice A5 0 c5, .bool true] 31)).alloc (.cells #[.int .u8 0, .int .u8 1, .int .u8 7] 5)).alloc (.cells #[.int .u8 7] 5)).alloc (.cells #[.int .u8 0] 5))) := hide (by
    have b1 : Below w.heap.size w w3 := hB1.trans (hB3.mono (by omega))
    have b2 : Below w.heap.size w w4 := b1.trans (hb4.mono (by omega))
    have b3 : Below w.heap.size w w5 := ((b2.alloc (by omega) _).alloc (by simp; omega) _).trans (hb5.mono (by simp; omega))
    exact (((b3.alloc (by omega) _).alloc (by simp; omega) _).alloc (by simp; omega) _).alloc (by simp; omega) _)
  have HK1 := hide K1
  have HS2 := hide s2
  have HS3 := hide s3
  have HR4 := hide r4
  clear s2 s3 r4 K1 K4 m1 m2 m3 k1 k4 k7 ob4 ob5 ob3 hb7
  go_wp2_with ((go_at_call 10; (with_reducible refine s1.mono ?_); rintro e w7 ⟨rfl, rfl⟩))
  have s2 := HS2.out
  go_wp2_with ((go_at_call 10; (with_reducible refine s2.mono ?_); rintro e w8 ⟨rfl, rfl⟩))
  have s3 := HS3.out
  clear s1 s2
  go_wp2_with ((go_at_call 10; (with_reducible refine s3.mono ?_); rintro e w9 ⟨rfl, rfl⟩))
  have r4 := HR4.out
  clear s3
  go_wp2_with ((go_at_call 15; (with_reducible refine r4.mono ?_); rintro e w10 ⟨rfl, hb10⟩))
  have r5 := right_no (c := c1) (bytes_below HK1.out hb10 (by simp <;> omega)) (by decide) (by have := hb10.size; simp at this; omega) hc1 (by omega) (by omega) (by decide) (by decide)
  clear r4
  go_wp2_with ((go_at_call 15; (with_reducible refine r5.mono ?_); rintro e w11 ⟨rfl, hb11⟩))
  go_ret
  exact ⟨rfl, (BV.out.trans (hb10.mono (by simp <;> omega))).trans (hb11.mono (by have := hb10.size; simp at this; omega))⟩
end
end Go.Proofs.Ytmnkgmadogkjbaa.Frame
