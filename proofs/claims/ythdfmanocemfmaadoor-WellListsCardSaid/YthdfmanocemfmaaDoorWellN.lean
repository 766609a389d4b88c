/- The places that a text names, by the reference. Condition: the text's size is bounded. -/
import Derived.Test.YthdfmanocemfmaaDoorWellM
namespace Go.Proofs.YthdfmanocemfmaaDoor.Well
open Go.ChangeShapes Go.WideShapes Go.ChangeAt Go.RowKit Go.Proofs.YthdfmanocemfmaaDoor.Kit Go.Proofs.YthdfmanocemfmaaDoor.Num Go.Proofs.YthdfmanocemfmaaDoor.Mem Go.Deep Go.PlainAid
set_option linter.unusedVariables false
set_option linter.unusedSimpArgs false
theorem listV_at (ss : List (List UInt8)) (k : Nat) (ps : List Pl) (h : k < ss.length) : listV (ss.drop k) k ps = if (pieceV (ss.getD k [])).2 ≠ 0 then ([], (pieceV (ss.getD k [])).2, (k : Int)) else if 384 < ps.length + (pieceV (ss.getD k [])).1.length then ([], 2, (k : Int)) else listV (ss.drop (k + 1)) (k + 1) (ps ++ (pieceV (ss.getD k [])).1) := by
  rw [List.drop_eq_getElem_cons h]
  simp only [List.getD_eq_getElem?_getD, List.getElem?_eq_getElem h, Option.getD_some]
  rfl
set_option maxHeartbeats 4000000 in
theorem rlist_any (s : ByteArray) (w : World) (hs : s.size ≤ 1073741824) : Calls Tryd.prog 14 #[.string s] w (ListPost w (listS s.data.toList)) := by
  obtain ⟨i0, hi0, hz0, hz1, hz2⟩ := info_parts info_pl
  have hsz := size_len s
  have HV := hide (show listS s.data.toList = if s.data.toList = [] then ([], 0, 0) else listV (splitL 44 s.data.toList) 0 [] from rfl)
  by_cases hl : s.data.toList = []
  · have h0 : s.size = 0 := by rw [hsz, hl]; rfl
    have h1 := is_empty h0
    have HR := hide (HV.out.trans (if_pos hl))
    clear hl hsz
    go_enter Tryd.func14, Tryd.ntmps14
    go_wp2
    (refine bodyPost_ret (v := .tuple #[(.slice none 0 0), .int .i64 0, .int .i64 0]) ?_ rfl (list_no HR.out (Below.refl _ _)); simp only [results, Tryd.results14]; go_simp)
  · have h0 : 0 < s.size := by
      rw [hsz]
      exact List.length_pos_iff.2 hl
    have h1 := not_empty h0
    have HR := hide (HV.out.trans (if_neg hl))
    have hC : Calls Tryd.prog 23 #[.string s, .int .u8 44] w (CutPost w (splitL 44 s.data.toList)) := rcut_any s 44 w hs
    have HLN := hide (split_len 44 s.data.toList)
    have hn := split_count 44 s.data.toList
    rw [← hsz] at hn HLN
    clear hl hsz HV
    generalize splitL 44 s.data.toList = ss at *
    go_enter Tryd.func14, Tryd.ntmps14
    go_wp2_with (go_at_call 23; refine (hC).mono ?_; rintro e w1c ⟨A1, c1, rfl, k1, k2, k3, hbc⟩; obtain ⟨hSc, hEc, hzc, hcc, hfc⟩ := bcell hbc; (try simp only [go_sem] at hEc); subst hEc)
    go_loopw [5, 7] (fun o i wr => ∃ (k : Nat) (ps : List Pl) (A2 : Option Addr) (cc2 : Nat), k ≤ ss.length ∧ i = .int .i64 k ∧ o = .slice A2 ps.length cc2 ∧ Hid (listS s.data.toList = listV (ss.drop k) k ps) ∧ ps.length ≤ 384 ∧ ps.length ≤ cc2 ∧ cc2 ≤ maxLen ∧ wr.ownsRow w1c.heap.size 23 2 (.slice A2 ps.length cc2) ps.length (SV encP ps) ∧ Below w1c.heap.size w1c wr) (fun _ i _ => ss.length - (intOf i).toNat)
    case atStart => exact ⟨0, [], none, 0, Nat.zero_le _, rfl, rfl, HR, Nat.zero_le _, Nat.le_refl _, Nat.zero_le _, World.ownsRow_nil _ _ _ _, Below.refl _ _⟩
    case round =>
      obtain ⟨k, ps, A2, cc2, hk, rfl, rfl, HL, hp, hcap, hcm, hown, hbw⟩ := hrel
      have HO := hide hown
      have hBW : Below w.heap.size w wr := hbc.trans (hbw.mono (by omega))
      obtain ⟨hSr, hEr, hzr, hcr, hfr⟩ := bcell hbw
      subst hEr
      clear hown HR
      by_cases hlt : k < ss.length
      · obtain ⟨bb, off, rfl, hbb, hcl⟩ := trow_cells k3 (by omega)
        have d0 := hcl k hlt
        have hbr : bb < wr.heap.size := by omega
        have HLV := hide (listV_at ss k ps hlt)
        have hln := HLN.out (ss.getD k []) (by
          simp only [List.getD_eq_getElem?_getD, List.getElem?_eq_getElem hlt, Option.getD_some]
          exact List.getElem_mem hlt)
        clear hcl
        generalize ss.getD k [] = hd at *
        have hhd : (⟨hd.toArray⟩ : ByteArray).size ≤ 1073741824 := by
          rw [size_len]
          show hd.length ≤ _
          omega
        have hP := fun w => rpiece_any ⟨hd.toArray⟩ w hhd
        rw [show (⟨hd.toArray⟩ : ByteArray).data.toList = hd from rfl] at hP
        have hpc := pieceV_cases hd
        clear hhd hln
        generalize pieceV hd = pv at *
        obtain ⟨qs, er⟩ := pv
        dsimp only at *
        rcases hpc with h5 | ⟨h5, h6⟩
        · obtain ⟨rfl, rfl⟩ : qs = [] ∧ er = 60 := by simpa using h5
          have HR := hide (HL.out.trans (HLV.out.trans (if_pos (by decide))))
          clear HL HLV h5
          go_wp2_with (go_at_call 24; refine (hP _).mono ?_; rintro e w1p ⟨A3, c3, rfl, j1, j2, j3, hbp⟩; obtain ⟨hSp, hEp, hzp, hcp, hfp⟩ := bcell hbp; (try simp only [go_sem] at hEp); subst hEp)
          (refine bodyPost_ret (v := .tuple #[(.slice none 0 0), .int .i64 60, .int .i64 k]) ?_ rfl (list_no HR.out (hBW.trans ((show Below wr.heap.size wr w1p from (by repeat' (first | (with_reducible exact Below.refl _ _) | (with_reducible refine below_drewN ?_ _) | (with_reducible refine Below.drew ?_) | (with_reducible refine Below.alloc ?_ ?_ _) | (with_reducible refine Below.setCell ?_ ?_ _) | (with_reducible refine below_step ?_ (by assumption) ?_) | (with_reducible refine below_step ?_ (below_regrown _ _ _) ?_) | go_size))).mono (by omega)))); simp only [results, Tryd.results14]; go_simp)
        · subst h5
          have HLV2 := hide (HLV.out.trans (if_neg (by decide)))
          by_cases h7 : 384 < ps.length + qs.length
          · have HR := hide (HL.out.trans (HLV2.out.trans (if_pos h7)))
            clear HL HLV HLV2
            go_wp2_with (first | (go_at_call 24; refine (hP _).mono ?_; rintro e w1p ⟨A3, c3, rfl, j1, j2, j3, hbp⟩; obtain ⟨hSp, hEp, hzp, hcp, hfp⟩ := bcell hbp; (try simp only [go_sem] at hEp); subst hEp) | (at_builtin; go_loud (refine wp_append_srow w1p rfl (.tmp 33) (.tmp 34) 31 rfl encP_len encP_one (by decide) w1c.heap.size 23 i0 _ 16 Tryd.underlying31 hi0 hz0 hz1 hz2 rfl A2 ps.length cc2 _ rfl (own_under HO.out (B1 := wr.heap.size) (by repeat' (first | (with_reducible exact Below.refl _ _) | (with_reducible refine below_drewN ?_ _) | (with_reducible refine Below.drew ?_) | (with_reducible refine Below.alloc ?_ ?_ _) | (with_reducible refine Below.setCell ?_ ?_ _) | (with_reducible refine below_step ?_ (by assumption) ?_) | (with_reducible refine below_step ?_ (below_regrown _ _ _) ?_) | go_size)) (Nat.le_refl _)) _ A3 qs.length c3 qs rfl j3 (by unfold maxLen; omega) (by omega) (by omega) ?_); intro A5 c5 w5 hown5 hgrow5 hbel5 hcap5 hcm5))
            (refine bodyPost_ret (v := .tuple #[(.slice none 0 0), .int .i64 2, .int .i64 k]) ?_ rfl (list_no HR.out ((hBW.trans ((show Below wr.heap.size wr w1p from (by repeat' (first | (with_reducible exact Below.refl _ _) | (with_reducible refine below_drewN ?_ _) | (with_reducible refine Below.drew ?_) | (with_reducible refine Below.alloc ?_ ?_ _) | (with_reducible refine Below.setCell ?_ ?_ _) | (with_reducible refine below_step ?_ (by assumption) ?_) | (with_reducible refine below_step ?_ (below_regrown _ _ _) ?_) | go_size))).mono (by omega))).trans (hbel5.mono (by omega)))); simp only [results, Tryd.results14]; go_simp)
          · have HR := hide (HL.out.trans (HLV2.out.trans (if_neg h7)))
            clear HL HLV HLV2
            go_wp2_with (first | (go_at_call 24; refine (hP _).mono ?_; rintro e w1p ⟨A3, c3, rfl, j1, j2, j3, hbp⟩; obtain ⟨hSp, hEp, hzp, hcp, hfp⟩ := bcell hbp; (try simp only [go_sem] at hEp); subst hEp) | (at_builtin; go_loud (refine wp_append_srow w1p rfl (.tmp 33) (.tmp 34) 31 rfl encP_len encP_one (by decide) w1c.heap.size 23 i0 _ 16 Tryd.underlying31 hi0 hz0 hz1 hz2 rfl A2 ps.length cc2 _ rfl (own_under HO.out (B1 := wr.heap.size) (by repeat' (first | (with_reducible exact Below.refl _ _) | (with_reducible refine below_drewN ?_ _) | (with_reducible refine Below.drew ?_) | (with_reducible refine Below.alloc ?_ ?_ _) | (with_reducible refine Below.setCell ?_ ?_ _) | (with_reducible refine below_step ?_ (by assumption) ?_) | (with_reducible refine below_step ?_ (below_regrown _ _ _) ?_) | go_size)) (Nat.le_refl _)) _ A3 qs.length c3 qs rfl j3 (by unfold maxLen; omega) (by omega) (by omega) ?_); intro A5 c5 w5 hown5 hgrow5 hbel5 hcap5 hcm5))
            refine ⟨⟨k + 1, ps ++ qs, A5, c5, by omega, by go_num, by rw [List.length_append], HR, by rw [List.length_append]; omega, by rw [List.length_append]; exact hcap5, hcm5, by rw [List.length_append]; exact hown5, (hbw.trans ((show Below wr.heap.size wr w1p from (by repeat' (first | (with_reducible exact Below.refl _ _) | (with_reducible refine below_drewN ?_ _) | (with_reducible refine Below.drew ?_) | (with_reducible refine Below.alloc ?_ ?_ _) | (with_reducible refine Below.setCell ?_ ?_ _) | (with_reducible refine below_step ?_ (by assumption) ?_) | (with_reducible refine below_step ?_ (below_regrown _ _ _) ?_) | go_size))).mono (by omega))).trans hbel5⟩, by simp [intOf]; omega⟩
      · obtain rfl : k = ss.length := by omega
        have HF : ListPost w (listS s.data.toList) (.returned (.tuple #[.slice A2 ps.length cc2, .int .i64 0, .int .i64 0])) wr := by
          rw [HL.out, List.drop_length]
          exact ⟨A2, cc2, rfl, hcap, hcm, srow_of_own encP_len (by decide) HO.out, hBW⟩
        clear HL
        go_wp2
        (refine bodyPost_ret (v := .tuple #[(.slice A2 ps.length cc2), .int .i64 0, .int .i64 0]) ?_ rfl (HF); simp only [results, Tryd.results14]; go_simp)
end Go.Proofs.YthdfmanocemfmaaDoor.Well
