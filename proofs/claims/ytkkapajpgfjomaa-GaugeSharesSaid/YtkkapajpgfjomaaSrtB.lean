/- Floats' bits sorted by insertion, by the reference; the bits of floats. No condition. -/
import Derived.Test.YtkkapajpgfjomaaSrtA
namespace Go.Proofs.Ytkkapajpgfjomaa.Real
open Go.ChangeShapes Go.WideShapes Go.ChangeAt Go.RowKit Go.Proofs.Ytkkapajpgfjomaa.Kit Go.Proofs.Ytkkapajpgfjomaa.Flt Go.Proofs.Ytkkapajpgfjomaa.Mem Go.Proofs.Ytkkapajpgfjomaa.Mix Go.Deep
set_option linter.unusedVariables false
set_option linter.unusedSimpArgs false
/-- The copy of the first k. -/
theorem put_copy {wr W : World} {base n c2 k b0 : Nat} {A2 : Option Addr} {S : List Nat} (h : wr.ownsRow base 51 1 (.slice A2 n c2) n (SV encU S)) (hk : k ≤ n) (hn : n ≤ 100000) (hb : Below wr.heap.size wr W) (h0 : W.ownsRow wr.heap.size 51 1 (.slice (some ⟨b0, 0, none⟩) 0 0) 0 (SV encU ([] : List Nat))) :
    ∃ A4 c4 W', (Builtin.append_ #[55, 55] 55 #[.slice (some ⟨b0, 0, none⟩) 0 0, .slice A2 k c2]).run Try.prog W = .ok (.slice A4 k c4) W' ∧ W'.ownsRow wr.heap.size 51 1 (.slice A4 k c4) k (SV encU (S.take k)) ∧ Below W.heap.size W W' := by
  obtain ⟨i0, hi0, hz0, hz1, hz2⟩ := info_parts info_u64
  have hW := hb.size
  have r1 := srow_of_own encU_len (by decide) (own_cut encU_len (own_under h hb (Nat.le_refl _)) hk)
  obtain ⟨A', c', w5, hrun, ho5, hb5, hc5, hm5⟩ := run_append_copy (P := Try.prog) W encU_len (by decide) wr.heap.size 55 55 51 i0 _ 8 Try.underlying55 hi0 hz0 hz1 hz2 rfl b0 h0 hW _ A2 k c2 _ r1 (by unfold maxLen; omega) (by omega)
  exact ⟨A', c', w5, hrun, ho5, hb5⟩
/-- The float behind them, and the others. -/
theorem put_rest {wr W : World} {base n c2 k c4 b9 : Nat} {A2 A4 : Option Addr} {S : List Nat} (f : Nat) (h : wr.ownsRow base 51 1 (.slice A2 n c2) n (SV encU S)) (hk : k ≤ n) (hn : n ≤ 100000) (hb : Below wr.heap.size wr W) (h4 : W.ownsRow wr.heap.size 51 1 (.slice A4 k c4) k (SV encU (S.take k))) (h9 : SRow encU 1 W W.heap.size (some ⟨b9, 0, none⟩) 1 [f]) :
    ∃ A5 c5 W4 A6 c6 W5, (Builtin.append_ #[55, 55] 55 #[.slice A4 k c4, .slice (some ⟨b9, 0, none⟩) 1 1]).run Try.prog W = .ok (.slice A5 (k + 1) c5) W4 ∧
      (Builtin.append_ #[55, 55] 55 #[.slice A5 (k + 1) c5, .slice (if c2 = k then A2 else A2.map (·.add k)) (n - k) (c2 - k)]).run Try.prog W4 = .ok (.slice A6 (n + 1) c6) W5 ∧
      W5.ownsRow wr.heap.size 51 1 (.slice A6 (n + 1) c6) (n + 1) (SV encU (S.take k ++ f :: S.drop k)) ∧ Below wr.heap.size wr W4 ∧ Below wr.heap.size wr W5 := by
  obtain ⟨i0, hi0, hz0, hz1, hz2⟩ := info_parts info_u64
  have hW := hb.size
  obtain ⟨A5, c5, W4, q1, q2, q3, q4, q5, q6⟩ := run_append_srow (P := Try.prog) W encU_len encU_one (by decide) wr.heap.size 55 55 51 i0 _ 8 Try.underlying55 hi0 hz0 hz1 hz2 rfl _ k c4 _ h4 _ _ 1 1 [f] h9 (by unfold maxLen; omega) (by omega) hW
  have b4 := hb.trans q4
  obtain ⟨hc2, hm2⟩ := sized_own h
  have r2 := srow_cut (m := k) (c := c2) (srow_below (srow_of_own encU_len (by decide) h) b4 (Nat.le_refl _)) encU_len hk hc2 (by decide)
  rw [Nat.mul_one] at r2
  have hW4 := b4.size
  obtain ⟨A6, c6, W5, p1, p2, p3, p4, p5, p6⟩ := run_append_srow (P := Try.prog) W4 encU_len encU_one (by decide) wr.heap.size 55 55 51 i0 _ 8 Try.underlying55 hi0 hz0 hz1 hz2 rfl _ (k + 1) c5 _ q2 _ _ (n - k) (c2 - k) _ r2 (by unfold maxLen; omega) (by omega) hW4
  have e : k + 1 + (n - k) = n + 1 := by omega
  rw [e] at p1 p2
  rw [List.append_assoc] at p2
  exact ⟨A5, c5, W4, A6, c6, W5, q1, p1, p2, b4, b4.trans p4⟩
set_option maxHeartbeats 2000000 in
theorem rsort_any {w : World} {B n c : Nat} {A : Option Addr} {l : List Nat} (hr : SRow encU 1 w B A n l) (hB : B ≤ w.heap.size) (hn : n ≤ 100000) (hfit : ∀ z ∈ l, z < 18446744073709551616) :
    Calls Try.prog 39 #[.slice A n c] w fun e w' => ∃ A' c', e = .returned (.slice A' n c') ∧ w'.ownsRow w.heap.size 51 1 (.slice A' n c') n (SV encU (sortV l)) ∧ Below w.heap.size w w' := by
  have e1 := hr.1
  subst e1
  have HR := hide hr
  have HF := hide hfit
  clear hr hfit
  go_enter Try.func39, Try.ntmps39
  go_wp2
  go_loopw [3, 4] (fun o i wr => ∃ (k : Nat) (A2 : Option Addr) (c2 : Nat), k ≤ l.length ∧ o = .slice A2 k c2 ∧ i = .int .i64 k ∧ Hid (wr.ownsRow w.heap.size 51 1 (.slice A2 k c2) k (SV encU (sortV (l.take k)))) ∧ Below w.heap.size w wr) (fun _ i _ => l.length - (intOf i).toNat)
  case atStart => exact ⟨0, _, _, Nat.zero_le _, rfl, rfl, hide (World.ownsRow_nil _ _ _ _), Below.refl _ _⟩
  case round =>
    obtain ⟨k, A2, c2, hk, rfl, rfl, HS, hbw⟩ := hrel
    have hz0' := hbw.size
    have hsz := sized_own HS.out
    by_cases hlt : k < l.length
    · obtain ⟨b, off, rfl, hbB, hcell⟩ := urow_cells HR.out (by omega)
      have d0 := (hbw.cell (p := ⟨b, off + k, none⟩) (by dsimp only; omega)).trans (hcell k hlt)
      have HC := hide (hcell k hlt)
      have HT := hide (sort_take l k hlt)
      have hf := HF.out (l.getD k 0) (by rw [List.getD_eq_getElem?_getD, List.getElem?_eq_getElem hlt]; exact List.getElem_mem hlt)
      have HSS := hide (sort_srt (l.take k))
      have hSl := sort_len (l.take k)
      rw [List.length_take, Nat.min_eq_left hk] at hSl
      have HSF := hide (fun j => sort_fit (l := l.take k) (fun z hz => HF.out z (List.mem_of_mem_take hz)) j)
      clear hcell
      generalize l.getD k 0 = f at *
      generalize sortV (l.take k) = S at *
      have cF := fun w => rrank_any f hf w
      go_wp2
      go_loopw [5] (fun o wx => ∃ j : Nat, o = .int .i64 j ∧ j ≤ k ∧ (j = 0 ∨ rankV (S.getD (j - 1) 0) ≤ rankV f) ∧ Below wr.heap.size wr wx) (fun o _ => k - (intOf o).toNat)
      case atStart => exact ⟨0, rfl, Nat.zero_le _, .inl rfl, Below.refl _ _⟩
      case round =>
        obtain ⟨j, rfl, hj, hj2, hbx⟩ := hrel
        have hj2 := hide hj2
        have HSx := hide (own_under HS.out hbx (Nat.le_refl _))
        have HBX := hide (hbw.trans (hbx.mono hz0'))
        have d2 := (hbx.cell (p := ⟨b, off + k, none⟩) (by dsimp only; omega)).trans d0
        have hzx := hbx.size
        have HBY := hide hbx
        clear d0 hbx HS
        by_cases hstop : j < k ∧ rankV (S.getD j 0) ≤ rankV f
        · obtain ⟨hjk, hle⟩ := hstop
          obtain ⟨b2, off2, rfl, hb2, hcell2⟩ := urow_cells (srow_of_own encU_len (by decide) HSx.out) (by omega)
          have d1 := hcell2 j hjk
          have hg := HSF.out j
          clear hcell2
          generalize hG : S.getD j 0 = g at d1 hg hle
          have cG := fun w => rrank_any g hg w
          have hR : Hid (j + 1 = 0 ∨ rankV (S.getD (j + 1 - 1) 0) ≤ rankV f) := hide (.inr (by rw [Nat.add_sub_cancel, hG]; exact hle))
          have t1 : decide (rankV g ≤ rankV f) = true := decide_eq_true hle
          clear hG
          go_wp2_with (first | (go_at_call 34; (with_reducible refine (cG _).mono ?_); rintro e w1 ⟨rfl, rfl⟩) | (go_at_call 34; (with_reducible refine (cF _).mono ?_); rintro e w1 ⟨rfl, rfl⟩) | ((with_reducible change Code.wp _ (Code.region _ _ _) _ _ _); refine wp_region_quiet_below (by kernel_rfl) (by kernel_rfl) ?_; (repeat (first | go_big_quiet_step ((first | (go_at_call 34; (with_reducible refine Calls.regrown_of (below_of_same (cG _)));) | (go_at_call 34; (with_reducible refine Calls.regrown_of (below_of_same (cF _)));))) | quiet_step ((first | (go_at_call 34; (with_reducible refine Calls.regrown_of (below_of_same (cG _)));) | (go_at_call 34; (with_reducible refine Calls.regrown_of (below_of_same (cF _)));))))); refine wpQuiet_nil ?_; intro w1 hw1; have hb := below_of_regrown hw1; clear hw1; obtain ⟨hS, hE, hz, hc, hf⟩ := bcell hb; (try simp only [go_sem] at hE); subst hE))
          exact ⟨⟨j + 1, by go_num, by omega, hR.out, HBY.out.trans (hb.mono hzx)⟩, by simp [intOf]; omega⟩
        · have hI := hide (ins_at f S j HSS.out (by omega) hj2.out (by
            by_cases h : j < k
            · exact .inr (by have : ¬ rankV (S.getD j 0) ≤ rankV f := fun h2 => hstop ⟨h, h2⟩; omega)
            · exact .inl (by omega)))
          by_cases hjk : j < k
          case' pos =>
            obtain ⟨b2, off2, hA2, hb2, hcell2⟩ := urow_cells (srow_of_own encU_len (by decide) HSx.out) (by omega)
            have d1 := hcell2 j hjk
            have hg := HSF.out j
            clear hcell2
            have t1 : decide (rankV (S.getD j 0) ≤ rankV f) = false := decide_eq_false fun h2 => hstop ⟨hjk, h2⟩
            generalize hG : S.getD j 0 = g at d1 hg t1
            have cG := fun w => rrank_any g hg w
            have HSy := hide HSx.out
            subst hA2
            clear hstop hG
            go_wp2_with (first | (go_at_call 34; (with_reducible refine (cG _).mono ?_); rintro e w1 ⟨rfl, rfl⟩) | (go_at_call 34; (with_reducible refine (cF _).mono ?_); rintro e w1 ⟨rfl, rfl⟩) | ((with_reducible change Code.wp _ (Code.region _ _ _) _ _ _); refine wp_region_quiet_below (by kernel_rfl) (by kernel_rfl) ?_; (repeat (first | go_big_quiet_step ((first | (go_at_call 34; (with_reducible refine Calls.regrown_of (below_of_same (cG _)));) | (go_at_call 34; (with_reducible refine Calls.regrown_of (below_of_same (cF _)));))) | quiet_step ((first | (go_at_call 34; (with_reducible refine Calls.regrown_of (below_of_same (cG _)));) | (go_at_call 34; (with_reducible refine Calls.regrown_of (below_of_same (cF _)));))))); refine wpQuiet_nil ?_; intro w1 hw1; have hb := below_of_regrown hw1; clear hw1; obtain ⟨hS, hE, hz, hc, hf⟩ := bcell hb; (try simp only [go_sem] at hE); subst hE))
            clear d1
            generalize (some ⟨b2, off2, none⟩ : Option Addr) = A2 at *
          case' neg =>
            clear hstop
            go_wp2_with (first | (go_at_call 34; (with_reducible refine (cF _).mono ?_); rintro e w1 ⟨rfl, rfl⟩) | ((with_reducible change Code.wp _ (Code.region _ _ _) _ _ _); refine wp_region_quiet_below (by kernel_rfl) (by kernel_rfl) ?_; (repeat (first | go_big_quiet_step ((first | (go_at_call 34; (with_reducible refine Calls.regrown_of (below_of_same (cF _)));))) | quiet_step ((first | (go_at_call 34; (with_reducible refine Calls.regrown_of (below_of_same (cF _)));))))); refine wpQuiet_nil ?_; intro w1 hw1; have hb := below_of_regrown hw1; clear hw1; obtain ⟨hS, hE, hz, hc, hf⟩ := bcell hb; (try simp only [go_sem] at hE); subst hE))
          all_goals
            have hO := own_under HSx.out hb (Nat.le_refl _)
            have d3 := (hb.cell (p := ⟨b, off + k, none⟩) (by dsimp only; omega)).trans d2
            have hzy := hb.size
            have HO := hide hO
            have HBW := hide (HBX.out.trans (hb.mono (by omega)))
            have HIT := hide (HT.out.trans hI.out)
            clear hI HT hj2
            have BD : Below w1.heap.size w1 w1.drew := (Below.refl _ _).drew
            have own0 : (w1.drew.alloc (.cells #[] 51)).ownsRow w1.heap.size 51 1 (.slice (some ⟨w1.heap.size, 0, none⟩) 0 0) 0 (SV encU ([] : List Nat)) := World.ownsRow_made w1.drew #[] 0 (Nat.le_refl _) (Nat.zero_le _) rfl
            refine wp_region_tree 15 5 [1, 2, 3, 5, 6, 7, 8, 11, 12, 13] (fun w' => Below w1.heap.size w1 w') (by kernel_rfl) (by kernel_rfl) BD ?_
            simp only [opsOf, List.filterMap_cons, List.filterMap_nil, List.getElem?_toArray, List.getElem?_cons_zero, List.getElem?_cons_succ]
            repeat (refine wpPure_any (fun K hK => ?_); go_simp; refine hK _ ?_; clear hK K)
            refine wpPure_val (.slice A2 j c2) rfl (fun w _ => by go_simp; exact fun h => absurd h (by omega)) ?_
            repeat (refine wpPure_any (fun K hK => ?_); go_simp; refine hK _ ?_; clear hK K)
            (refine wpPure_val (.int .u64 f) rfl (fun w' hw => by obtain ⟨hS, hE, hz, hc, hf⟩ := bcell hw; (try simp only [go_sem] at hE); subst hE; go_simp) ?_)
            repeat (refine wpPure_any (fun K hK => ?_); go_simp; refine hK _ ?_; clear hK K)
            refine wpPure_nil ?_
            refine wpAnyM_two (j := 0) (k := 9) (by kernel_rfl) (by decide) (by decide) ?_ ?_
            · have B1 := BD.alloc (Nat.le_refl _) (.cells #[] 51)
              refine mOp_val rfl rfl rfl (.slice (some ⟨w1.heap.size, 0, none⟩) 0 0) (w' := w1.drew.alloc (.cells #[] 51)) (by go_simp) B1 ?_
              refine wpAnyM_two (j := 4) (k := 9) (by kernel_rfl) (by decide) (by decide) ?_ ?_
              · obtain ⟨A4, c4, W2, run4, own4, b24⟩ := put_copy HO.out hj (by omega) B1 own0
                have B2 := B1.trans (b24.mono (by simp))
                refine mOp_append rfl rfl rfl (.tmp 31) (.tmp 34) 55 rfl _ _ _ rfl rfl run4 B2 ?_
                refine wpAnyM_one (k := 9) (by kernel_rfl) (by decide) ?_
                have B3 := B2.alloc B2.size (.cells #[.int .u64 f] 51)
                refine mOp_val rfl rfl rfl (.slice (some ⟨W2.heap.size, 0, none⟩) 1 1) (w' := W2.alloc (.cells #[.int .u64 f] 51)) (by go_simp) B3 ?_
                have r9 : SRow encU 1 (W2.alloc (.cells #[.int .u64 f] 51)) (W2.alloc (.cells #[.int .u64 f] 51)).heap.size (some ⟨W2.heap.size, 0, none⟩) 1 [f] := srow_more (srow_one encU_len W2 f 51) (by simp)
                obtain ⟨A5, c5, W4, A6, c6, W5, q10, q14, hown, hb4, hb5⟩ := put_rest f HO.out hj (by omega) B3 (own4.alloc _) r9
                refine wpAnyM_one (k := 10) (by kernel_rfl) (by decide) ?_
                refine mOp_append rfl rfl rfl (.tmp 35) (.tmp 40) 55 rfl _ _ _ rfl rfl q10 hb4 ?_
                refine wpAnyM_one (k := 14) (by kernel_rfl) (by decide) ?_
                refine mOp_append rfl rfl rfl (.tmp 41) (.tmp 44) 55 rfl _ _ _ rfl rfl q14 hb5 ?_
                refine wpAnyM_end ⟨by kernel_rfl, ?_⟩
                simp only [List.drop_succ_cons, List.drop_zero]
                have HW5 : Hid (W5.ownsRow w.heap.size 51 1 (.slice A6 (k + 1) c6) (k + 1) (SV encU (sortV (l.take (k + 1))))) := hide (by rw [HIT.out]; exact own_down hown (by omega))
                have HB5 := hide (HBW.out.trans (hb5.mono (by omega)))
                clear q10 q14 hown hb4 hb5 r9 own4 run4 B3 B2 B1 own0 BD
                go_wp2
                exact ⟨⟨k + 1, A6, c6, by omega, rfl, by go_num, HW5, HB5.out⟩, by simp [intOf]; omega⟩
              · have B2 := B1.alloc B1.size (.cells #[.int .u64 f] 51)
                refine mOp_val rfl rfl rfl (.slice (some ⟨w1.heap.size + 1, 0, none⟩) 1 1) (w' := (w1.drew.alloc (.cells #[] 51)).alloc (.cells #[.int .u64 f] 51)) (by go_simp) B2 ?_
                refine wpAnyM_one (k := 4) (by kernel_rfl) (by decide) ?_
                obtain ⟨A4, c4, W2, run4, own4, b24⟩ := put_copy HO.out hj (by omega) B2 (own0.alloc _)
                have B3 := B2.trans (b24.mono (by simp; omega))
                refine mOp_append rfl rfl rfl (.tmp 31) (.tmp 34) 55 rfl _ _ _ rfl rfl run4 B3 ?_
                have r9 : SRow encU 1 W2 W2.heap.size (some ⟨w1.heap.size + 1, 0, none⟩) 1 [f] := by
                  have h := srow_one encU_len (w1.drew.alloc (.cells #[] 51)) f 51
                  rw [show (w1.drew.alloc (.cells #[] 51)).heap.size = w1.heap.size + 1 by simp] at h
                  exact srow_more (srow_below h b24 (by simp)) (by have := b24.size; simp at this; omega)
                obtain ⟨A5, c5, W4, A6, c6, W5, q10, q14, hown, hb4, hb5⟩ := put_rest f HO.out hj (by omega) B3 (own4) r9
                refine wpAnyM_one (k := 10) (by kernel_rfl) (by decide) ?_
                refine mOp_append rfl rfl rfl (.tmp 35) (.tmp 40) 55 rfl _ _ _ rfl rfl q10 hb4 ?_
                refine wpAnyM_one (k := 14) (by kernel_rfl) (by decide) ?_
                refine mOp_append rfl rfl rfl (.tmp 41) (.tmp 44) 55 rfl _ _ _ rfl rfl q14 hb5 ?_
                refine wpAnyM_end ⟨by kernel_rfl, ?_⟩
                simp only [List.drop_succ_cons, List.drop_zero]
                have HW5 : Hid (W5.ownsRow w.heap.size 51 1 (.slice A6 (k + 1) c6) (k + 1) (SV encU (sortV (l.take (k + 1))))) := hide (by rw [HIT.out]; exact own_down hown (by omega))
                have HB5 := hide (HBW.out.trans (hb5.mono (by omega)))
                clear q10 q14 hown hb4 hb5 r9 own4 run4 B3 B2 B1 own0 BD
                go_wp2
                exact ⟨⟨k + 1, A6, c6, by omega, rfl, by go_num, HW5, HB5.out⟩, by simp [intOf]; omega⟩
            · have B1 := BD.alloc (Nat.le_refl _) (.cells #[.int .u64 f] 51)
              refine mOp_val rfl rfl rfl (.slice (some ⟨w1.heap.size, 0, none⟩) 1 1) (w' := w1.drew.alloc (.cells #[.int .u64 f] 51)) (by go_simp) B1 ?_
              refine wpAnyM_one (k := 0) (by kernel_rfl) (by decide) ?_
              have B2 := B1.alloc B1.size (.cells #[] 51)
              refine mOp_val rfl rfl rfl (.slice (some ⟨w1.heap.size + 1, 0, none⟩) 0 0) (w' := (w1.drew.alloc (.cells #[.int .u64 f] 51)).alloc (.cells #[] 51)) (by go_simp) B2 ?_
              refine wpAnyM_one (k := 4) (by kernel_rfl) (by decide) ?_
              have own1 : ((w1.drew.alloc (.cells #[.int .u64 f] 51)).alloc (.cells #[] 51)).ownsRow w1.heap.size 51 1 (.slice (some ⟨w1.heap.size + 1, 0, none⟩) 0 0) 0 (SV encU ([] : List Nat)) := by
                have h := World.ownsRow_made (base := w1.heap.size) (e := 51) (size := 1) (w1.drew.alloc (.cells #[.int .u64 f] 51)) #[] 0 (by simp) (Nat.zero_le _) rfl
                rw [show (w1.drew.alloc (.cells #[.int .u64 f] 51)).heap.size = w1.heap.size + 1 by simp] at h
                exact h
              obtain ⟨A4, c4, W2, run4, own4, b24⟩ := put_copy HO.out hj (by omega) B2 own1
              have B3 := B2.trans (b24.mono (by simp; omega))
              refine mOp_append rfl rfl rfl (.tmp 31) (.tmp 34) 55 rfl _ _ _ rfl rfl run4 B3 ?_
              have r9 : SRow encU 1 W2 W2.heap.size (some ⟨w1.heap.size, 0, none⟩) 1 [f] := by
                have h := srow_alloc (srow_one encU_len w1.drew f 51) (by simp) (.cells #[] 51)
                exact srow_more (srow_below h b24 (by simp)) (by have := b24.size; simp at this; simp; omega)
              obtain ⟨A5, c5, W4, A6, c6, W5, q10, q14, hown, hb4, hb5⟩ := put_rest f HO.out hj (by omega) B3 (own4) r9
              refine wpAnyM_one (k := 10) (by kernel_rfl) (by decide) ?_
              refine mOp_append rfl rfl rfl (.tmp 35) (.tmp 40) 55 rfl _ _ _ rfl rfl q10 hb4 ?_
              refine wpAnyM_one (k := 14) (by kernel_rfl) (by decide) ?_
              refine mOp_append rfl rfl rfl (.tmp 41) (.tmp 44) 55 rfl _ _ _ rfl rfl q14 hb5 ?_
              refine wpAnyM_end ⟨by kernel_rfl, ?_⟩
              simp only [List.drop_succ_cons, List.drop_zero]
              have HW5 : Hid (W5.ownsRow w.heap.size 51 1 (.slice A6 (k + 1) c6) (k + 1) (SV encU (sortV (l.take (k + 1))))) := hide (by rw [HIT.out]; exact own_down hown (by omega))
              have HB5 := hide (HBW.out.trans (hb5.mono (by omega)))
              clear q10 q14 hown hb4 hb5 r9 own4 run4 B3 B2 B1 own0 BD
              go_wp2
              exact ⟨⟨k + 1, A6, c6, by omega, rfl, by go_num, HW5, HB5.out⟩, by simp [intOf]; omega⟩
    · obtain rfl : k = l.length := by omega
      rw [List.take_length] at HS
      go_wp2
      go_ret
      exact ⟨A2, c2, rfl, HS.out, hbw⟩
end Go.Proofs.Ytkkapajpgfjomaa.Real
