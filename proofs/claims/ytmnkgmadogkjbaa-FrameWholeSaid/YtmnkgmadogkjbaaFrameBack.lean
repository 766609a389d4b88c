/- For all lists of payloads the law 'FrameBack' returns true. No condition. -/
import Derived.Test.YtmnkgmadogkjbaaFrmE
import Derived.Deep.RegionWith
namespace Go.Proofs.Ytmnkgmadogkjbaa.FrameBack
open Go.ChangeShapes Go.WideShapes Go.ChangeAt Go.RowKit Go.Proofs.Ytmnkgmadogkjbaa.Kit Go.Proofs.Ytmnkgmadogkjbaa.Mem Go.Proofs.Ytmnkgmadogkjbaa.Pack Go.Proofs.Ytmnkgmadogkjbaa.Frame Go.Joins
set_option linter.unusedVariables false
theorem frameF_len (p : List Int) : (frameF p).length = 2 + p.length := by unfold frameF; rw [beL_two]; simp; omega
theorem flat_len (ls : List (List Int)) : ((ls.map frameF).flatten).length ≤ 2 * sizeF ls := by
  induction ls with
  | nil => simp [sizeF]
  | cons p ls ih =>
    unfold sizeF at ih ⊢
    simp only [List.map_cons, List.flatten_cons, List.length_append, frameF_len, List.sum_cons]
    omega
theorem sizeF_ge (ls : List (List Int)) : ls.length ≤ sizeF ls := by
  induction ls with
  | nil => simp
  | cons p ls ih => unfold sizeF at ih ⊢; simp only [List.map_cons, List.sum_cons, List.length_cons]; omega
theorem flat_take (ls : List (List Int)) (k : Nat) (hk : k < ls.length) : ((ls.take (k + 1)).map frameF).flatten = ((ls.take k).map frameF).flatten ++ frameF (ls.getD k []) := by
  rw [List.take_succ_eq_append_getElem hk, List.map_append, List.flatten_append]
  simp [List.getD_eq_getElem?_getD, List.getElem?_eq_getElem hk]
theorem frameF_u8 (p : List Int) (h : ∀ x ∈ p, 0 ≤ x ∧ x ≤ 255) : ∀ x ∈ frameF p, 0 ≤ x ∧ x ≤ 255 := by
  intro x hx
  unfold frameF at hx
  rcases List.mem_append.1 hx with h1 | h1
  · rw [beL_two] at h1
    unfold byteAt at h1
    simp at h1
    omega
  · exact h x h1
section
variable {w : World}
theorem fput_ok {A : Option Addr} {n c : Nat} {l : List Int} {B : Nat} (hb : Bytes w B A n l) (hB : B ≤ w.heap.size) (hn : n ≤ 512) : Calls Try.prog 8 #[.slice A n c] w fun e w' =>
    ∃ A c, e = .returned (.tuple #[.slice A (frameF l).length c, .int .i64 0]) ∧ OB w' w.heap.size A (frameF l).length (frameF l) ∧ Below w.heap.size w w' ∧ c ≤ maxLen := by
  have h := fput_any (c := c) hb hB (by omega)
  unfold FPutPost at h
  rw [if_neg (by rw [hb.1]; omega), if_neg (by rw [hb.1]; omega)] at h
  exact h.mono fun e w' ⟨A, c, h1, h2, h3, h4, h5⟩ => ⟨A, c, h1, h2, h3, h5⟩
theorem rfput_ok {A : Option Addr} {n c : Nat} {l : List Int} {B : Nat} (hb : Bytes w B A n l) (hB : B ≤ w.heap.size) (hn : n ≤ 512) : Calls Try.prog 9 #[.slice A n c] w fun e w' =>
    ∃ A c, e = .returned (.tuple #[.slice A (frameF l).length c, .int .i64 0]) ∧ OB w' w.heap.size A (frameF l).length (frameF l) ∧ Below w.heap.size w w' ∧ c ≤ maxLen := by
  have h := rfput_any (c := c) hb hB (by omega)
  unfold FPutPost at h
  rw [if_neg (by rw [hb.1]; omega), if_neg (by rw [hb.1]; omega)] at h
  exact h.mono fun e w' ⟨A, c, h1, h2, h3, h4, h5⟩ => ⟨A, c, h1, h2, h3, h5⟩
theorem fput_no {A : Option Addr} {n c : Nat} {l : List Int} {B : Nat} (hb : Bytes w B A n l) (hB : B ≤ w.heap.size) (hn : 512 < n) (hm : n ≤ 1099511627776) : Calls Try.prog 8 #[.slice A n c] w fun e w' =>
    ∃ A c, e = .returned (.tuple #[.slice A 0 c, .int .i64 2]) ∧ Below w.heap.size w w' := by
  have h := fput_any (c := c) hb hB hm
  unfold FPutPost at h
  rw [if_pos (by rw [hb.1]; omega), if_pos (by rw [hb.1]; omega)] at h
  exact h.mono fun e w' ⟨A, c, h1, h2, h3, h4, h5⟩ => ⟨A, c, h1, h3⟩
theorem rfput_no {A : Option Addr} {n c : Nat} {l : List Int} {B : Nat} (hb : Bytes w B A n l) (hB : B ≤ w.heap.size) (hn : 512 < n) (hm : n ≤ 1099511627776) : Calls Try.prog 9 #[.slice A n c] w fun e w' =>
    ∃ A c, e = .returned (.tuple #[.slice A 0 c, .int .i64 2]) ∧ Below w.heap.size w w' := by
  have h := rfput_any (c := c) hb hB hm
  unfold FPutPost at h
  rw [if_pos (by rw [hb.1]; omega), if_pos (by rw [hb.1]; omega)] at h
  exact h.mono fun e w' ⟨A, c, h1, h2, h3, h4, h5⟩ => ⟨A, c, h1, h3⟩
end
set_option maxRecDepth 100000 in
set_option maxHeartbeats 2000000 in
theorem walk {w : World} {A : Option Addr} {n c B : Nat} {ls : List (List Int)} (h : BRows w B A n ls) (hB : B ≤ w.heap.size) (hn : n ≤ 140737488351232) (hr : ∀ l ∈ ls, (∀ x ∈ l, 0 ≤ x ∧ x ≤ 255) ∧ l.length ≤ 140737488351232) :
    Calls Try.prog 3 #[.slice A n c] w fun e w' => e = .returned (.bool true) ∧ Below w.heap.size w w' := by
  have e1 := h.1
  subst e1
  have hget : ∀ j, j < ls.length → ls.getD j [] ∈ ls := fun j hj => by rw [List.getD_eq_getElem?_getD, List.getElem?_eq_getElem hj]; exact List.getElem_mem hj
  have hsz := size_any (c := c) h (by omega) (fun j hj => (hr _ (hget j hj)).2)
  have HR := hide hr
  have HG := hide hget
  clear hr hget
  go_enter Try.func3, Try.ntmps3
  go_wp2_with (go_at_call 6; refine hsz.mono ?_; rintro e w1 ⟨⟨v, rfl, hv⟩, rfl⟩)
  · clear hsz hv
    go_wp2_with ((go_at_call 7; refine (lives_any _).mono ?_; rintro e w1 ⟨rfl, hb⟩; obtain ⟨hS, hE, hz, hc, hf⟩ := bcell hb; (try simp only [go_sem] at hE); subst hE))
    go_ret
    exact ⟨rfl, (by repeat' (first | (with_reducible exact Below.refl _ _) | (with_reducible refine below_drewN ?_ _) | (with_reducible refine Below.drew ?_) | (with_reducible refine Below.alloc ?_ ?_ _) | (with_reducible refine Below.setCell ?_ ?_ _) | (with_reducible refine below_step ?_ (by assumption) ?_) | go_size))⟩
  · obtain rfl : v = sizeF ls := by omega
    have HL := hide (show sizeF ls ≤ 5000 by omega)
    clear hsz hv
    go_wp2
    have own0 : w.ownsRow w.heap.size 5 1 (.slice none 0 0) 0 (BV []) := World.ownsRow_nil _ _ _ _
    go_loopw [3, 4] (fun a i wr => ∃ (k : Nat) (A2 : Option Addr) (n2 c2 : Nat), k ≤ ls.length ∧ a = .slice A2 n2 c2 ∧ i = .int .i64 k ∧ wr.ownsRow w.heap.size 5 1 (.slice A2 n2 c2) n2 (BV ((ls.take k).map frameF).flatten) ∧ n2 ≤ c2 ∧ c2 ≤ maxLen ∧ (∀ l ∈ ls.take k, l.length ≤ 512) ∧ Below w.heap.size w wr) (fun _ i _ => ls.length - (intOf i).toNat)
    case atStart => exact ⟨0, none, 0, 0, Nat.zero_le _, rfl, rfl, own0, Nat.le_refl _, Nat.zero_le _, by simp, Below.refl _ _⟩
    case round =>
      obtain ⟨k, A2, n2, c2, hk, rfl, rfl, hown, hcap, hcm, hle, hbw⟩ := hrel
      have hz := hbw.size
      have HO := hide hown
      have HLE := hide hle
      have HC := hide hcap
      have HCM := hide hcm
      have hlen : n2 = (((ls.take k).map frameF).flatten).length := by have := hown.1; rw [BV, List.length_map] at this; omega
      have hn2 : n2 ≤ 10000 := by have := flat_len (ls.take k); have := sizeF_le ls k; have := HL.out; omega
      have HLN := hide hlen
      clear hown hle hcap hcm hlen
      by_cases hlt : k < ls.length
      · obtain ⟨_, f, hr, hf⟩ := brows_below h hbw hB
        obtain ⟨b, off, rfl, hblk, hcell⟩ := hr (by omega)
        have e1 : wr.cell? ⟨b, off + k, none⟩ = some (.slice (f k).1 (f k).2.1 (f k).2.2) := hcell k hlt
        obtain ⟨q1, q2, q3⟩ := hf k hlt
        obtain ⟨u1, u2⟩ := HR.out _ (HG.out k hlt)
        have hle2 : (ls.getD k []).length ≤ 5000 := by have := sizeF_take ls k hlt; have := sizeF_le ls (k + 1); have := HL.out; omega
        have ft := flat_take ls k hlt
        have tk : ls.take (k + 1) = ls.take k ++ [ls.getD k []] := by rw [List.take_succ_eq_append_getElem hlt]; simp [List.getD_eq_getElem?_getD, List.getElem?_eq_getElem hlt]
        have hfl : (f k).2.1 = (ls.getD k []).length := q3.1.symm
        have HFT := hide ft
        have HTK := hide tk
        have HU := hide u1
        have HQ := hide q3
        clear hcell hf hr q1 q2 u1 u2 q3 ft tk
        generalize ls.getD k [] = l at *
        generalize f k = v at *
        obtain ⟨v1, vn, vc⟩ := v
        dsimp only at *
        subst hfl
        by_cases h512 : l.length ≤ 512
        · have P1 := fput_ok (c := vc) HQ.out (by omega) (by omega)
          go_wp2_with (go_at_call 8; (with_reducible refine P1.mono ?_); rintro e w2 ⟨A3, c3, rfl, ob3, hb3, hc3⟩; obtain ⟨hS2, hE2, hz2, hc2, hf2⟩ := bcell hb3; (try simp only [go_sem] at hE2); subst hE2)
          clear P1
          have P2 := rfput_ok (c := vc) (bytes_below HQ.out hb3 (by omega)) (by omega) (by omega)
          go_wp2_with (go_at_call 9; (with_reducible refine P2.mono ?_); rintro e w3 ⟨A4, c4, rfl, ob4, hb4, hc4⟩; obtain ⟨hS3, hE3, hz3, hc3', hf3⟩ := bcell hb4; (try simp only [go_sem] at hE3); subst hE3)
          clear P2
          have ob3' := ob_keep ob3 (keepT_below hb4 (Nat.le_refl _) _)
          have s1 := rsame_yes (c := c3) (c2 := c4) (ob_bytes ob3') (ob_bytes ob4)
          have H34 : Below wr.heap.size wr w3 := hb3.trans (hb4.mono (by omega))
          have Ho := own_keepT HO.out (keepT_below H34 (Nat.le_refl _) _)
          have Hf : ∀ x ∈ frameF l, 0 ≤ x ∧ x ≤ 255 := frameF_u8 l HU.out
          have ob5 := ob_bytes ob3'
          have HB := hide ob5
          have HLF := hide (frameF_len l)
          clear ob3 ob4 ob3' ob5
          go_wp2_with (first | (go_at_call 10; (with_reducible refine s1.mono ?_); rintro e w7 ⟨rfl, rfl⟩) | (at_builtin; refine app_u8 rfl (.tmp 49) (.tmp 50) rfl w.heap.size A2 n2 c2 _ rfl Ho w3.heap.size A3 _ c3 _ rfl HB.out (by have := HLF.out; omega) (by omega) ?_; intro A5 c5 w5 hown5 hgrow5 hbel5 hcap5 hcm5; have hz5 : w3.heap.size ≤ w5.heap.size := (by have := hgrow5.size; omega)))
          refine ⟨⟨k + 1, A5, n2 + (frameF l).length, c5, by omega, rfl, by go_num, by rw [HFT.out]; exact hown5, hcap5, hcm5, fun l' hl' => ?_, (hbw.trans (H34.mono hz)).trans hbel5⟩, by simp [intOf]; omega⟩
          rw [HTK.out] at hl'
          rcases List.mem_append.1 hl' with h1 | h1
          · exact HLE.out _ h1
          · simp only [List.mem_singleton] at h1; rw [h1]; exact h512
        · have P1 := fput_no (c := vc) HQ.out (by omega) (by omega) (by omega)
          go_wp2_with (go_at_call 8; (with_reducible refine P1.mono ?_); rintro e w2 ⟨A3, c3, rfl, hb3⟩; obtain ⟨hS2, hE2, hz2, hc2, hf2⟩ := bcell hb3; (try simp only [go_sem] at hE2); subst hE2)
          clear P1
          have P2 := rfput_no (c := vc) (bytes_below HQ.out hb3 (by omega)) (by omega) (by omega) (by omega)
          go_wp2_with (go_at_call 9; (with_reducible refine P2.mono ?_); rintro e w3 ⟨A4, c4, rfl, hb4⟩; obtain ⟨hS3, hE3, hz3, hc3', hf3⟩ := bcell hb4; (try simp only [go_sem] at hE3); subst hE3)
          clear P2
          have s1 := rsame_yes (c := c3) (c2 := c4) (bytes_nil w3 0 A3) (bytes_nil w3 0 A4)
          go_wp2_with ((go_at_call 10; (with_reducible refine s1.mono ?_); rintro e w7 ⟨rfl, rfl⟩))
          go_wp2_with ((go_at_call 7; refine (lives_any _).mono ?_; rintro e w1 ⟨rfl, hb⟩; obtain ⟨hS, hE, hz, hc, hf⟩ := bcell hb; (try simp only [go_sem] at hE); subst hE))
          try rw [Exit.noGoto_ret]
          go_ret
          exact ⟨rfl, (by repeat' (first | (with_reducible exact Below.refl _ _) | (with_reducible refine below_drewN ?_ _) | (with_reducible refine Below.drew ?_) | (with_reducible refine Below.alloc ?_ ?_ _) | (with_reducible refine Below.setCell ?_ ?_ _) | (with_reducible refine below_step ?_ (by assumption) ?_) | go_size))⟩
      · obtain rfl : k = ls.length := by omega
        have hcut : cutF (((ls.take ls.length).map frameF).flatten) = (ls, [], false) := by
          rw [List.take_length]
          have := cutF_back ls (fun p hp => HLE.out p (by rw [List.take_length]; exact hp)) []
          rw [List.append_nil, cutF_few [] (by decide)] at this
          simpa using this
        have hb2 := bytes_of_own HO.out
        have hu8 : ∀ x ∈ (((ls.take ls.length).map frameF).flatten), 0 ≤ x ∧ x ≤ 255 := by
          intro x hx
          rw [List.take_length] at hx
          obtain ⟨l, hl, hx⟩ := List.mem_flatten.1 hx
          obtain ⟨p, hp, rfl⟩ := List.mem_map.1 hl
          exact frameF_u8 p (HR.out p hp).1 x hx
        have F : ∀ w1, Below wr.heap.size wr w1 → Calls Try.prog 11 #[.slice A2 n2 c2] w1 fun e w' => ∃ A c At ct, e = .returned (.tuple #[.slice At ls.length ct, .agg #[.slice A 0 c, .bool false]]) ∧ Pieces w' w1.heap.size At ls.length ct ls ∧ Below w1.heap.size w1 w' := fun w1 hb1 => by
          have := all_any (c2 := c2) (bytes_below hb2 hb1 (Nat.le_refl _)) hu8 hb1.size (by omega)
          rw [hcut] at this
          refine this.mono ?_
          rintro e w' ⟨A, c, At, ct, rfl, h1, h2, h3, h4, h5⟩
          exact ⟨A, c, At, ct, rfl, h4, h5⟩
        have HF := hide F
        clear F hb2 hu8 hcut
        have P1 := HF.out wr (Below.refl _ _)
        go_wp2_with (go_at_call 11; (with_reducible refine P1.mono ?_); rintro e w1 ⟨A7, c7, At, ct, rfl, hp, hb1⟩; obtain ⟨hS, hE, hz, hc, hf⟩ := bcell hb1; (try simp only [go_sem] at hE); subst hE)
        have hR := pieces_rows (pieces_keep hp (keepT_alloc w1 (.cells #[.slice A7 0 c7, .bool false] 31) _) (keepT_alloc w1 (.cells #[.slice A7 0 c7, .bool false] 31) _))
        have hR0 := brows_below h ((hbw.trans (hb1.mono hbw.size)).alloc (by omega) (.cells #[.slice A7 0 c7, .bool false] 31)) hB
        have HR1 := hide hR
        have HR2 := hide hR0
        have hz1 := hb1.size
        clear hR hR0 hp P1 h
        have P2 := lives_any (w1.alloc (.cells #[.slice A7 0 c7, .bool false] 31))
        go_wp2_with (go_at_call 7; (with_reducible refine P2.mono ?_); rintro e w2 ⟨rfl, hb2⟩; obtain ⟨hS2, hE2, hz2, hc2', hf2⟩ := bcell hb2; (try simp only [go_sem] at hE2); subst hE2)
        clear P2
        have P3 := same_yes (c := c) (c2 := ct) (brows_below HR2.out hb2 (by simp; omega)) (brows_below HR1.out hb2 (Nat.le_refl _)) (by omega) hb2.size (by have := HL.out; have : ls.length ≤ sizeF ls := sizeF_ge ls; omega)
        go_wp2_with (go_at_call 12; (with_reducible refine P3.mono ?_); rintro e w3 ⟨rfl, hb3⟩; obtain ⟨hS3, hE3, hz3, hc3', hf3⟩ := bcell hb3; (try simp only [go_sem] at hE3); subst hE3)
        go_ret
        exact ⟨rfl, (by repeat' (first | (with_reducible exact Below.refl _ _) | (with_reducible refine below_drewN ?_ _) | (with_reducible refine Below.drew ?_) | (with_reducible refine Below.alloc ?_ ?_ _) | (with_reducible refine Below.setCell ?_ ?_ _) | (with_reducible refine below_step ?_ (by assumption) ?_) | go_size))⟩
theorem law : Law Try.checked 3 Try.f3 := by
  intro H enc W base args ds ps hval hA hsz
  have hA1 : DataW.TrodAll enc Try.prog W 0 (fun _ => true) true Try.f3.params.toList args.toList ds ps := hA
  have hw := weightsEach_at (sized_args hsz)
  have hw : ∀ (j : Nat) (t : TypeId) (d : DataW H), Try.f3.params.toList[j]? = some t → ds[j]? = some d → ∀ n ∈ d.weights Try.prog t, n ≤ 140737488351232 := hw
  rw [Try.params3] at hA1 hval hw
  obtain ⟨v0, vs0, d0, ds0, p0, q0, hargs, rfl, rfl, h0, r0⟩ := trodAll_cons hA1
  obtain ⟨rfl, rfl, rfl⟩ := trodAll_nil r0
  obtain rfl : args = #[v0] := by cases args; simp_all
  obtain ⟨A, len, cap, rfl⟩ := okWide_slice Try.underlying22 (hval 0 _ v0 rfl rfl)
  obtain ⟨A', len', cap', ls, e, h1, h2, h3, h4, h5⟩ := rdS_brows (rdS_of h0 (hw 0 _ _ rfl rfl))
  simp only [Value.cells, List.cons.injEq, Value.slice.injEq, and_true] at e
  obtain ⟨rfl, rfl, rfl⟩ := e
  exact walk h4 (Nat.le_refl _) h3 h5

set_option maxRecDepth 100000 in
theorem step (os : Os) (started : os.Started) (H : Type) (enc : TypeId × Value → H) :
    ReturnsInHanded {} Try.checked os 3 .any (Rows.frameBackSpec.pre6 enc Try.prog Try.f3 Rows.frameBackRow.domain false) (Rows.frameBackSpec.post enc Try.prog Try.f3 false true false false) :=
  lifted (C := Try.checked) (s := Rows.frameBackSpec) own started (by kernel_rfl) Try.func3
    (ChangeSpec.witness6 (enc := enc) (C := Try.checked) false ⟨#[], #[.slice none 0 0], []⟩ 8 (by kernel_rfl) (by kernel_rfl) (by kernel_rfl) (by kernel_rfl))
    laidOut (by kernel_rfl) (by kernel_rfl) Try.underlying4 rfl (fun ds h => by match ds, h with | [d0], _ => rfl) law
set_option maxRecDepth 100000 in
theorem over : Rows.frameBackRow.holds Try.pinned (OpenSpec.ofChange Rows.frameBackSpec) :=
  OpenClaim.holds_of_wide 3 Try.f3 rfl rfl rfl rfl rfl rfl rfl ⟨rfl, rfl, rfl, rfl, rfl⟩ rfl rfl rfl rfl rfl (by kernel_rfl) Try.func3 (by kernel_rfl)
    (of_decide_eq_true (by kernel_rfl)) (by unfold Func.isWrapper; first | (rw [if_pos (by decide +kernel)]; kernel_rfl) | (rw [if_neg (by decide +kernel)]; exact ⟨rfl, rfl⟩))
    (fun os started H enc _ => step os started H enc)
theorem proved : Rows.FrameBackSaid := over
#print axioms proved

end Go.Proofs.Ytmnkgmadogkjbaa.FrameBack
