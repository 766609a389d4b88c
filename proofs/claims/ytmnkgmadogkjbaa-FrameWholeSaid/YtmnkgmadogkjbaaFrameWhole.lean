/- For all bytes the law 'FrameWhole' returns true. No condition. -/
import Derived.Test.YtmnkgmadogkjbaaFrameBack
import Derived.Test.YtmnkgmadogkjbaaApart
namespace Go.Proofs.Ytmnkgmadogkjbaa.FrameWhole
open Go.ChangeShapes Go.WideShapes Go.ChangeAt Go.RowKit Go.Proofs.Ytmnkgmadogkjbaa.Kit Go.Proofs.Ytmnkgmadogkjbaa.Mem Go.Proofs.Ytmnkgmadogkjbaa.Pack Go.Proofs.Ytmnkgmadogkjbaa.Frame Go.Proofs.Ytmnkgmadogkjbaa.FrameBack Go.Joins
set_option linter.unusedVariables false
set_option maxRecDepth 100000 in
set_option maxHeartbeats 2000000 in
theorem walk {w : World} {A : Option Addr} {n c B : Nat} {l : List Int} (hb : Bytes w B A n l) (hr : ∀ x ∈ l, 0 ≤ x ∧ x ≤ 255) (hB : B ≤ w.heap.size) (hc : n ≤ c) (hm : c ≤ maxLen) :
    Calls Try.prog 5 #[.slice A n c] w fun e w' => e = .returned (.bool true) ∧ Below w.heap.size w w' := by
  have e1 := hb.1
  subst e1
  have HX := hide hr
  have HQ := hide hb
  clear hr hb
  go_enter Try.func5, Try.ntmps5
  by_cases h5 : l.length ≤ 5000
  · have g1 : decide ((5000 : Int) < (l.length : Int)) = false := decide_eq_false (by omega)
    have HW := hide (cutF_whole l HX.out)
    have P1 := all_any (c2 := c) HQ.out HX.out hB (by omega)
    have htl := (cutF_len l).2
    have hsl := cutF_shut_left l
    unfold AllPost at P1
    generalize cutF l = r at *
    obtain ⟨td, bf, sh⟩ := r
    dsimp only at P1 htl hsl
    have HSL := hide hsl
    clear hsl
    have htl5 : td.length ≤ 5000 := by omega
    clear htl
    go_wp2_with (go_at_call 11; (with_reducible refine P1.mono ?_); rintro e w1 ⟨A7, c7, At7, ct7, rfl, ob7, hc7, hm7, hp7, hb1⟩; obtain ⟨hS1, hE1, hz1, hc1, hf1⟩ := bcell hb1; (try simp only [go_sem] at hE1); subst hE1)
    clear P1
    have hlen : (td.map frameF).flatten.length ≤ 5000 := by
      have := HW.out.2
      rcases this with ⟨_, e⟩ | ⟨_, r, e, _⟩
      all_goals
        have := congrArg List.length e
        rw [List.length_append] at this
        omega
    have hflat : ∀ k, ((td.take k).map frameF).flatten.length ≤ 5000 := fun k => by
      have e : td = td.take k ++ td.drop k := (List.take_append_drop k td).symm
      have h2 := hlen
      rw [e, List.map_append, List.flatten_append, List.length_append] at h2
      omega
    have hp512 : ∀ k, k < td.length → (td.getD k []).length ≤ 512 := fun k hk => by
      have := HW.out.1 (td.getD k []) (by rw [List.getD_eq_getElem?_getD, List.getElem?_eq_getElem hk]; exact List.getElem_mem hk)
      exact this
    have HB7 := hide (ob_bytes ob7)
    clear ob7
    have R1 := hide (pieces_rows (pieces_keep hp7 (keepT_alloc w1 (.cells #[.slice A7 bf.length c7, .bool sh] 31) _) (keepT_alloc w1 (.cells #[.slice A7 bf.length c7, .bool sh] 31) _)))
    have HF := hide hflat
    have HP5 := hide hp512
    clear hflat hp512 hp7
    have own0 : (w1.alloc (.cells #[.slice A7 bf.length c7, .bool sh] 31)).ownsRow (w1.heap.size + 1) 5 1 (.slice none 0 0) 0 (BV []) := World.ownsRow_nil _ _ _ _
    go_loopw [5, 6] (fun a i wr => ∃ (k : Nat) (A2 : Option Addr) (n2 c2 : Nat), k ≤ td.length ∧ a = .slice A2 n2 c2 ∧ i = .int .i64 k ∧ wr.ownsRow (w1.heap.size + 1) 5 1 (.slice A2 n2 c2) n2 (BV ((td.take k).map frameF).flatten) ∧ n2 ≤ c2 ∧ c2 ≤ maxLen ∧ Below (w1.heap.size + 1) (w1.alloc (.cells #[.slice A7 bf.length c7, .bool sh] 31)) wr) (fun _ i _ => td.length - (intOf i).toNat)
    case atStart => exact ⟨0, none, 0, 0, Nat.zero_le _, rfl, rfl, own0, Nat.le_refl _, Nat.zero_le _, Below.refl _ _⟩
    case round =>
      obtain ⟨k, A2, n2, c2, hk, rfl, rfl, hown, hcap, hcm, hbw⟩ := hrel
      have hz : w1.heap.size + 1 ≤ wr.heap.size := by have := hbw.size; simpa using this
      have hn2 : n2 ≤ 5000 := by have := hown.1; rw [BV, List.length_map] at this; have := HF.out k; omega
      have HO := hide hown
      by_cases hlt : k < td.length
      · obtain ⟨_, f, hr, hf⟩ := brows_below R1.out hbw (by simp)
        obtain ⟨b, off, e7, hblk, hcell⟩ := hr (by omega)
        subst e7
        have e1 : wr.cell? ⟨b, off + k, none⟩ = some (.slice (f k).1 (f k).2.1 (f k).2.2) := hcell k hlt
        obtain ⟨q1, q2, q3⟩ := hf k hlt
        have hle2 := HP5.out k hlt
        have HFT := hide (flat_take td k hlt)
        have hfl : (f k).2.1 = (td.getD k []).length := q3.1.symm
        have hft := HF.out (k + 1)
        rw [HFT.out, List.length_append] at hft
        have HQ3 := hide q3
        clear hcell hf hr q1 q2 q3 hown
        generalize td.getD k [] = p at *
        generalize f k = v at *
        obtain ⟨v1, vn, vc⟩ := v
        dsimp only at *
        subst hfl
        have P1 := fput_ok (c := vc) HQ3.out (by simp; omega) (by omega)
        have HFt := hide hft
        clear hft
        go_wp2_with (first | (go_at_call 8; (with_reducible refine P1.mono ?_); rintro e w2 ⟨A3, c3, rfl, ob3, hb3, hc3⟩; obtain ⟨hS2, hE2, hz2, hc2, hf2⟩ := bcell hb3; (try simp only [go_sem] at hE2); subst hE2; have Ho := own_keepT HO.out (keepT_below hb3 (Nat.le_refl _) _); have HB3 := hide (ob_bytes ob3); have hs1 : n2 + (frameF p).length ≤ 140737488355328 := (by have := frameF_len p; omega); have hs2 : w1.heap.size + 1 ≤ w2.heap.size := (by omega); have HS1 := hide hs1; clear hs1 ob3) | (at_builtin; go_loud (refine app_u8 rfl (.tmp 35) (.tmp 36) rfl (w1.heap.size + 1) A2 n2 c2 _ rfl Ho w2.heap.size A3 _ c3 _ rfl HB3.out HS1.out hs2 ?_); intro A5 c5 w5 hown5 hgrow5 hbel5 hcap5 hcm5; have hz5 : w2.heap.size ≤ w5.heap.size := (by have := hgrow5.size; omega)))
        refine ⟨⟨k + 1, A5, n2 + (frameF p).length, c5, by omega, rfl, by go_num, by rw [HFT.out]; exact hown5, hcap5, hcm5, (hbw.trans (hb3.mono hz)).trans hbel5⟩, by simp [intOf]; omega⟩
      · obtain rfl : k = td.length := by omega
        have HLT := hide (show ¬ td.length < td.length by omega)
        rw [List.take_length] at hown
        have hlen2 : ((td.map frameF).flatten).length = n2 := by have := hown.1; rw [BV, List.length_map] at this; omega
        have hbwr : Below w.heap.size w wr := (hb1.alloc (by omega) _).trans (hbw.mono (by omega))
        have hb1r : Below w1.heap.size w1 wr := ((Below.refl _ _).alloc (Nat.le_refl _) _).trans (hbw.mono (by omega))
        have hql := bytes_below HQ.out hbwr hB
        have h7r := hide (bytes_below HB7.out hb1r (Nat.le_refl _))
        have hblk : wr.heap[w1.heap.size]? = some (.cells #[.slice A7 bf.length c7, .bool sh] 31) := (hbw.block w1.heap.size (by omega)).trans (heap_alloc_new w1 _)
        obtain ⟨d1, d2, d3, d4⟩ := box_cells hblk
        have hz1' : w.heap.size ≤ w1.heap.size := hb1.size
        have HBR := hide hbwr
        have HO' := hide hown
        clear hblk hbw hb1r hb1 R1
        cases sh with
        | true =>
          rcases HW.out.2 with ⟨h, _⟩ | ⟨_, r, er, hr2, hr5⟩
          · cases h
          · have hbf : bf = [] := HSL.out rfl
            subst hbf
            have hll : l.length = n2 + r.length := by rw [er, List.length_append]; omega
            obtain ⟨b, off, rfl, hbB, hcell⟩ := hql.2 (by omega)
            have v0 : l.getD n2 0 = r.getD 0 0 := by rw [er, List.getD_eq_getElem?_getD, List.getElem?_append_right (by omega), hlen2, Nat.sub_self, ← List.getD_eq_getElem?_getD]
            have v1 : l.getD (n2 + 1) 0 = r.getD 1 0 := by rw [er, List.getD_eq_getElem?_getD, List.getElem?_append_right (by omega), hlen2, show n2 + 1 - n2 = 1 by omega, ← List.getD_eq_getElem?_getD]
            have c0 : wr.cell? ⟨b, off + n2, none⟩ = some (.int .u8 (l.getD n2 0)) := hcell n2 (by omega)
            have c1 : wr.cell? ⟨b, off + (n2 + 1), none⟩ = some (.int .u8 (l.getD (n2 + 1) 0)) := hcell (n2 + 1) (by omega)
            have m0 := HX.out (l.getD n2 0) (by rw [List.getD_eq_getElem?_getD, List.getElem?_eq_getElem (by omega)]; exact List.getElem_mem _)
            have m1 := HX.out (l.getD (n2 + 1) 0) (by rw [List.getD_eq_getElem?_getD, List.getElem?_eq_getElem (by omega)]; exact List.getElem_mem _)
            unfold saysF at hr5
            rw [v0] at c0 m0
            rw [v1] at c1 m1
            generalize r.getD 0 0 = x at *
            generalize r.getD 1 0 = y at *
            have etk : l.take n2 = (td.map frameF).flatten := by rw [er, ← hlen2]; exact List.take_left
            have S1 := fun (w' : World) (hb : Below wr.heap.size wr w') => rsame_yes (w := w') (c := c) (c2 := c2) (bytes_below (bytes_take hql (show n2 ≤ l.length by omega)) hb (by have := HBR.out.size; omega)) (bytes_below (bytes_of_own (show wr.ownsRow (w1.heap.size + 1) 5 1 (.slice A2 n2 c2) n2 (BV (l.take n2)) by rw [etk]; exact hown)) hb (Nat.le_refl _))
            have HS1 := hide S1
            have g2 : decide ((n2 : Int) + 2 ≤ (l.length : Int)) = true := decide_eq_true (by omega)
            have g3 : decide ((512 : Int) < 256 * x + y) = true := decide_eq_true (by omega)
            have g4 : decide (n2 < l.length) = true := decide_eq_true (by omega)
            have g5 : decide (n2 + 1 < l.length) = true := decide_eq_true (by omega)
            have q1 : n2 < l.length := by omega
            have q2 : n2 + 1 < l.length := by omega
            have q3 : n2 ≤ c := by omega
            have q4 : n2 ≤ 5000 := by omega
            have HLL := hide hll
            have HE2 := hide hlen2
            clear S1 etk v0 v1 hcell hql hown hr2 hr5 hll hlen2 er HO HO'
            go_wp2_with ((refine wp_region_quiet_below (by kernel_rfl) (by kernel_rfl) ?_; (repeat (first | go_big_quiet_step ((first | (go_at_call 7; exact Calls.regrown_of (lives_any _)) | (go_at_call 10; exact Calls.regrown_of (below_of_same (HS1.out _ (below_regrown _ _ _)))))) | quiet_step ((first | (go_at_call 7; exact Calls.regrown_of (lives_any _)) | (go_at_call 10; exact Calls.regrown_of (below_of_same (HS1.out _ (below_regrown _ _ _)))))))); refine wpQuiet_nil ?_; intro w1 hw1; have hb := below_of_regrown hw1; clear hw1; obtain ⟨hS, hE, hz, hc, hf⟩ := bcell hb; (try simp only [go_sem] at hE); subst hE))
            go_ret
            exact ⟨rfl, HBR.out.trans (hb.mono (by have := HBR.out.size; omega))⟩
        | false =>
          rcases HW.out.2 with ⟨_, er⟩ | ⟨h, _⟩
          · have hle : n2 + bf.length ≤ 140737488355328 := by have := congrArg List.length er; rw [List.length_append] at this; omega
            have HLE := hide hle
            have HER := hide er
            have HQL := hide hql
            clear hle er hql hown
            go_wp2_with (first | (at_builtin; go_loud (refine app_u8 rfl (.tmp 79) (.tmp 81) rfl (w1.heap.size + 1) A2 n2 c2 _ rfl HO'.out _ A7 bf.length c7 bf rfl h7r.out HLE.out hz ?_); go_loud (intro A5 c5 w5 hown5 hgrow5 hbel5 hcap5 hcm5; have hz5 : wr.heap.size ≤ w5.heap.size := (by have := hgrow5.size; omega); have L5 := lives_any w5; rw [HER.out] at hown5; have HO5 := hide hown5; have HQ5 := hide (bytes_below HQL.out hbel5 (by omega)); clear hown5)) | (go_at_call 7; go_loud ((with_reducible refine L5.mono ?_); rintro e w6 ⟨rfl, hb6⟩; have S6 := rsame_yes (w := w6) (c := c5) (c2 := c) (bytes_below (bytes_of_own HO5.out) hb6 (Nat.le_refl _)) (bytes_below HQ5.out hb6 (by omega)))) | (go_at_call 10; go_loud (with_reducible refine S6.mono ?_); rintro e w7 ⟨rfl, rfl⟩))
            go_ret
            exact ⟨rfl, ((HBR.out.trans (hbel5.mono (by omega))).trans (hb6.mono (by omega)))⟩
          · cases h
  · have g1 : decide ((5000 : Int) < (l.length : Int)) = true := decide_eq_true (by omega)
    go_wp2_with ((go_at_call 7; refine (lives_any _).mono ?_; rintro e w1 ⟨rfl, hb⟩; obtain ⟨hS, hE, hz, hc, hf⟩ := bcell hb; (try simp only [go_sem] at hE); subst hE))
    go_ret
    exact ⟨rfl, (by repeat' (first | (with_reducible exact Below.refl _ _) | (with_reducible refine below_drewN ?_ _) | (with_reducible refine Below.drew ?_) | (with_reducible refine Below.alloc ?_ ?_ _) | (with_reducible refine Below.setCell ?_ ?_ _) | (with_reducible refine below_step ?_ (by assumption) ?_) | go_size))⟩
theorem law : Law Try.checked 5 Try.f5 := by
  intro H enc W base args ds ps hval hA hsz
  have hA1 : DataW.TrodAll enc Try.prog W 0 (fun _ => true) true Try.f5.params.toList args.toList ds ps := hA
  have hw := weightsEach_at (sized_args hsz)
  have hw : ∀ (j : Nat) (t : TypeId) (d : DataW H), Try.f5.params.toList[j]? = some t → ds[j]? = some d → ∀ n ∈ d.weights Try.prog t, n ≤ 140737488351232 := hw
  rw [Try.params5] at hA1 hval hw
  obtain ⟨v0, vs0, d0, ds0, p0, q0, hargs, rfl, rfl, h0, r0⟩ := trodAll_cons hA1
  obtain ⟨rfl, rfl, rfl⟩ := trodAll_nil r0
  obtain rfl : args = #[v0] := by cases args; simp_all
  obtain ⟨A, len, cap, rfl⟩ := okWide_slice Try.underlying25 (hval 0 _ v0 rfl rfl)
  obtain ⟨A', n', c', l, e, h1, h2, h3, h4, h5⟩ := rdS_bytes Try.underlying25 Try.underlying5 (by kernel_rfl) (by kernel_rfl) (rdS_of h0 (hw 0 _ _ rfl rfl))
  simp only [Value.cells, List.cons.injEq, Value.slice.injEq, and_true] at e
  obtain ⟨rfl, rfl, rfl⟩ := e
  exact walk h4 h5 (Nat.le_refl _) h1 h2

set_option maxRecDepth 100000 in
theorem step (os : Os) (started : os.Started) (H : Type) (enc : TypeId × Value → H) :
    ReturnsInHanded {} Try.checked os 5 .any (Rows.frameWholeSpec.pre6 enc Try.prog Try.f5 Rows.frameWholeRow.domain false) (Rows.frameWholeSpec.post enc Try.prog Try.f5 false true false false) :=
  lifted (C := Try.checked) (s := Rows.frameWholeSpec) own started (by kernel_rfl) Try.func5
    (ChangeSpec.witness6 (enc := enc) (C := Try.checked) false ⟨#[], #[.slice none 0 0], []⟩ 8 (by kernel_rfl) (by kernel_rfl) (by kernel_rfl) (by kernel_rfl))
    laidOut (by kernel_rfl) (by kernel_rfl) Try.underlying4 rfl (fun ds h => by match ds, h with | [d0], _ => rfl) law
set_option maxRecDepth 100000 in
theorem over : Rows.frameWholeRow.holds Try.pinned (OpenSpec.ofChange Rows.frameWholeSpec) :=
  OpenClaim.holds_of_wide 5 Try.f5 rfl rfl rfl rfl rfl rfl rfl ⟨rfl, rfl, rfl, rfl, rfl⟩ rfl rfl rfl rfl rfl (by kernel_rfl) Try.func5 (by kernel_rfl)
    (of_decide_eq_true (by kernel_rfl)) (by unfold Func.isWrapper; first | (rw [if_pos (by decide +kernel)]; kernel_rfl) | (rw [if_neg (by decide +kernel)]; exact ⟨rfl, rfl⟩))
    (fun os started H enc _ => step os started H enc)
theorem proved : Rows.FrameWholeSaid := over
#print axioms proved

end Go.Proofs.Ytmnkgmadogkjbaa.FrameWhole
