/- Floats sorted by insertion, by the program. No condition. -/
import Derived.Test.YtkkapajpgfjomaaSrtP
import Derived.Test.YtkkapajpgfjomaaEnc
import Derived.Test.YtkkapajpgfjomaaMixT
import Derived.Laws.MakeOwn
import Derived.Deep.RegionWith
import Derived.LoopTactic
namespace Go.Proofs.Ytkkapajpgfjomaa.Real
open Go.ChangeShapes Go.WideShapes Go.ChangeAt Go.RowKit Go.Proofs.Ytkkapajpgfjomaa.Kit Go.Proofs.Ytkkapajpgfjomaa.Flt Go.Proofs.Ytkkapajpgfjomaa.Mem Go.Proofs.Ytkkapajpgfjomaa.Mix Go.Deep
set_option linter.unusedVariables false
set_option linter.unusedSimpArgs false
/-- A float put into a row of a call's own, at j. -/
theorem put_own {wr : World} {base k c2 j : Nat} {A2 : Option Addr} {S : List Nat} (f : Nat) (h : wr.ownsRow base 32 1 (.slice A2 k c2) k (SV encF S)) (hj : j ≤ k) (hk : k ≤ 100000) (hb : base ≤ wr.heap.size) :
    ∃ A3 c3 W2 A5 c5 W3, (Builtin.append_ #[29, 29] 29 #[.slice (some ⟨wr.heap.size, 0, none⟩) 1 1, .slice (if c2 = j then A2 else A2.map (·.add j)) (k - j) (c2 - j)]).run Try.prog (wr.drew.alloc (.cells #[.float .f64 f] 32)) = .ok (.slice A3 (1 + (k - j)) c3) W2 ∧
      (Builtin.append_ #[29, 29] 29 #[.slice A2 j c2, .slice A3 (1 + (k - j)) c3]).run Try.prog W2 = .ok (.slice A5 (k + 1) c5) W3 ∧
      W3.ownsRow base 32 1 (.slice A5 (k + 1) c5) (k + 1) (SV encF (S.take j ++ f :: S.drop j)) ∧ Below base wr W3 := by
  obtain ⟨i0, hi0, hz0, hz1, hz2⟩ := info_parts info_f64
  obtain ⟨hc2, hm2⟩ := sized_own h
  have o1 := own_new wr.drew (base := wr.heap.size) (Nat.le_refl _) (.float .f64 f) 32
  have r1 := srow_alloc (srow_of_own encF_len (by decide) h) (Nat.le_refl _) (.cells #[.float .f64 f] 32)
  have r2 := srow_cut (m := j) (c := c2) r1 encF_len hj hc2 (by decide)
  rw [Nat.mul_one] at r2
  have hz : (wr.drew.alloc (.cells #[.float .f64 f] 32)).heap.size = wr.heap.size + 1 := by simp
  obtain ⟨A3, c3, W2, q1, q2, q3, q4, q5, q6⟩ := run_append_srow (P := Try.prog) (wr.drew.alloc (.cells #[.float .f64 f] 32)) encF_len encF_one (by decide) wr.heap.size 29 29 32 i0 _ 8 Try.underlying29 hi0 hz0 hz1 hz2 rfl _ 1 1 [f] o1 _ _ (k - j) (c2 - j) _ r2 (by unfold maxLen; omega) (by omega) (by omega)
  have b1 : Below wr.heap.size wr W2 := (((Below.refl _ _).drew).alloc (Nat.le_refl _) _).trans q4
  have o2 := own_cut encF_len (own_under h b1 (Nat.le_refl _)) hj
  obtain ⟨A5, c5, W3, p1, p2, p3, p4, p5, p6⟩ := run_append_srow (P := Try.prog) W2 encF_len encF_one (by decide) base 29 29 32 i0 _ 8 Try.underlying29 hi0 hz0 hz1 hz2 rfl _ j c2 (S.take j) o2 _ _ (1 + (k - j)) c3 _ (srow_of_own encF_len (by decide) q2) (by unfold maxLen; omega) (by omega) (by have := b1.size; omega)
  have e : j + (1 + (k - j)) = k + 1 := by omega
  rw [e] at p1 p2
  exact ⟨A3, c3, W2, A5, c5, W3, q1, p1, p2, (b1.mono hb).trans p4⟩
set_option maxHeartbeats 2000000 in
theorem sort_any {w : World} {B n c : Nat} {A : Option Addr} {l : List Nat} (hr : SRow encF 1 w B A n l) (hB : B ≤ w.heap.size) (hn : n ≤ 100000) (hfit : ∀ z ∈ l, z < 18446744073709551616) :
    Calls Try.prog 38 #[.slice A n c] w fun e w' => ∃ A' c', e = .returned (.slice A' n c') ∧ w'.ownsRow w.heap.size 32 1 (.slice A' n c') n (SV encF (sortV l)) ∧ Below w.heap.size w w' := by
  obtain ⟨i0, hi0, hz0, hz1, hz2⟩ := info_parts info_f64
  have e1 := hr.1
  subst e1
  have HR := hide hr
  have HF := hide hfit
  clear hr hfit
  obtain ⟨w0, hrun, hown, hgrow⟩ := run_makeSlice_owned (P := Try.prog) w w.heap.size 29 32 i0 _ 1 Try.underlying29 hi0 hz0 hz1 .i64 .i64 l.length (by omega) (by rw [hz2]; omega) (by unfold maxLen; omega) (Nat.le_refl _)
  have hb0 : Below w.heap.size w w0 := below_of_own (World.ownsRow_nil w w.heap.size 32 1) hgrow (Nat.le_refl _)
  have HO := hide hown
  have HB0 := hide hb0
  clear hown hgrow hb0
  go_enter Try.func38, Try.ntmps38
  go_wp2
  go_step3
  go_wp2
  go_step3
  go_wp2
  go_loopw [3, 12] (fun o i wr => ∃ (k : Nat) (A2 : Option Addr) (c2 : Nat), k ≤ l.length ∧ o = .slice A2 k c2 ∧ i = .int .i64 k ∧ Hid (wr.ownsRow w.heap.size 32 1 (.slice A2 k c2) k (SV encF (sortV (l.take k)))) ∧ Below w.heap.size w wr) (fun _ i _ => l.length - (intOf i).toNat)
  case atStart => exact ⟨0, _, _, Nat.zero_le _, rfl, rfl, HO, HB0.out⟩
  case round =>
    obtain ⟨k, A2, c2, hk, rfl, rfl, HS, hbw⟩ := hrel
    clear HO HB0 hrun
    have hz0' := hbw.size
    have hsz := sized_own HS.out
    by_cases hlt : k < l.length
    · obtain ⟨b, off, rfl, hbB, hcell⟩ := frow_cells HR.out (by omega)
      have d0 := (hbw.cell (p := ⟨b, off + k, none⟩) (by dsimp only; omega)).trans (hcell k hlt)
      have HT := hide (sort_take l k hlt)
      have hf := HF.out (l.getD k 0) (by rw [List.getD_eq_getElem?_getD, List.getElem?_eq_getElem hlt]; exact List.getElem_mem hlt)
      have HSS := hide (sort_srt (l.take k))
      have hSl := sort_len (l.take k)
      rw [List.length_take, Nat.min_eq_left hk] at hSl
      have HSF := hide (fun j => sort_fit (l := l.take k) (fun z hz => HF.out z (List.mem_of_mem_take hz)) j)
      clear hcell
      generalize l.getD k 0 = f at *
      generalize sortV (l.take k) = S at *
      go_wp2
      go_loopw [3, 6] (fun s o wx => ∃ j : Nat, s = .slice A2 k c2 ∧ o = .int .i64 j ∧ j ≤ k ∧ (j = k ∨ rankV f < rankV (S.getD j 0)) ∧ wx = wr) (fun _ o _ => (intOf o).toNat)
      case atStart => exact ⟨k, rfl, rfl, Nat.le_refl _, .inl rfl, rfl⟩
      case round =>
        obtain ⟨j, rfl, rfl, hj, hj2, rfl⟩ := hrel
        have hj2 := hide hj2
        cases j with
        | zero =>
          have hI := hide (ins_at f S 0 HSS.out (Nat.zero_le _) (.inl rfl) (by rw [hSl]; exact hj2.out))
          clear hj2
          go_wp2_with (at_builtin; go_loud (refine wp_append_srow (wr.alloc (.cells #[.float .f64 f] 32)) rfl (.tmp 41) (.tmp 42) 29 rfl encF_len encF_one (by decide) w.heap.size 32 i0 _ 8 Try.underlying29 hi0 hz0 hz1 hz2 rfl _ 1 1 [f] rfl (own_new wr hz0' (.float .f64 f) 32) _ _ k c2 _ rfl (srow_alloc (srow_of_own encF_len (by decide) HS.out) (Nat.le_refl _) _) (by unfold maxLen; omega) (by omega) (by simp; omega) ?_); intro A5 c5 w5 hown5 hgrow5 hbel5 hcap5 hcm5)
          have hw5 : w5.ownsRow w.heap.size 32 1 (.slice A5 (k + 1) c5) (k + 1) (SV encF (sortV (l.take (k + 1)))) := by
            rw [HT.out, hI.out, Nat.add_comm k 1]
            exact hown5
          refine ⟨⟨k + 1, A5, c5, by omega, by rw [Nat.add_comm k 1], by go_num, hide hw5, ((hbw.alloc hz0' _).trans hbel5)⟩, by simp [intOf]; omega⟩
        | succ j =>
          obtain ⟨b2, off2, rfl, hb2, hcell2⟩ := frow_cells (srow_of_own encF_len (by decide) HS.out) (by omega)
          have d1 := hcell2 j (by omega)
          have hg := HSF.out j
          clear hcell2
          have hgj : S.getD j 0 = S.getD j 0 := rfl
          generalize hG : S.getD j 0 = g at d1 hg
          have cA := fun w => ahead_any f g hf hg w
          by_cases hlt2 : rankV f < rankV g
          · rw [decide_eq_true hlt2] at cA
            have hR : Hid (j = k ∨ rankV f < rankV (S.getD j 0)) := hide (.inr (by rw [hG]; exact hlt2))
            clear hlt2 hG hgj
            go_wp2_with (first | (go_at_call 33; refine (cA _).mono ?_; rintro e w1 ⟨rfl, rfl⟩) | ((with_reducible change Code.wp _ (Code.region _ _ _) _ _ _); refine wp_region_quiet_below (by kernel_rfl) (by kernel_rfl) ?_; (repeat (first | go_big_quiet_step ((first | (go_at_call 33; exact Calls.regrown_of (below_of_same (cA _))))) | quiet_step ((first | (go_at_call 33; exact Calls.regrown_of (below_of_same (cA _))))))); refine wpQuiet_nil ?_; intro w1 hw1; have hb := below_of_regrown hw1; clear hw1; obtain ⟨hS, hE, hz, hc, hf⟩ := bcell hb; (try simp only [go_sem] at hE); subst hE))
            exact ⟨⟨j, rfl, by go_num, by omega, hR.out, trivial⟩, by simp [intOf]⟩
          · rw [decide_eq_false hlt2] at cA
            have hI := hide (ins_at f S (j + 1) HSS.out (by omega) (.inr (by rw [Nat.add_sub_cancel, hG]; omega)) (by rw [hSl]; exact hj2.out))
            clear hlt2 hG hgj hj2
            go_wp2_with (first | (go_at_call 33; refine (cA _).mono ?_; rintro e w1 ⟨rfl, rfl⟩) | ((with_reducible change Code.wp _ (Code.region _ _ _) _ _ _); refine wp_region_quiet_below (by kernel_rfl) (by kernel_rfl) ?_; (repeat (first | go_big_quiet_step ((first | (go_at_call 33; exact Calls.regrown_of (below_of_same (cA _))))) | quiet_step ((first | (go_at_call 33; exact Calls.regrown_of (below_of_same (cA _))))))); refine wpQuiet_nil ?_; intro w1 hw1; have hb := below_of_regrown hw1; clear hw1; obtain ⟨hS, hE, hz, hc, hf⟩ := bcell hb; (try simp only [go_sem] at hE); subst hE))
            obtain ⟨A3, c3, W2, A5, c5, W3, q1, q2, q3, q4⟩ := put_own f HS.out hj (by omega) hz0'
            have hw5 : W3.ownsRow w.heap.size 32 1 (.slice A5 (k + 1) c5) (k + 1) (SV encF (sortV (l.take (k + 1)))) := by
              rw [HT.out, hI.out]
              exact q3
            clear q3
            refine wp_region_mix 10 [0, 1, 2, 3, 5, 6, 7] [4, 8, 9] (fun _ => True) (by kernel_rfl) (by kernel_rfl) trivial ?_
            simp only [opsOf, List.filterMap_cons, List.filterMap_nil, List.getElem?_toArray, List.getElem?_cons_zero, List.getElem?_cons_succ]
            repeat (refine wpPure_any (fun K hK => ?_); go_simp; refine hK _ ?_; clear hK K)
            refine wpPure_val (.slice (some ⟨b2, off2, none⟩) (j + 1) c2) rfl (fun w _ => by go_simp; exact fun h => absurd (h (by omega)) (by omega)) ?_
            repeat (refine wpPure_any (fun K hK => ?_); go_simp; refine hK _ ?_; clear hK K)
            refine wpPure_val (.slice (if c2 = j + 1 then some ⟨b2, off2, none⟩ else (some ⟨b2, off2, none⟩ : Option Addr).map (·.add (j + 1))) (k - (j + 1)) (c2 - (j + 1))) rfl (fun w _ => ?_) ?_
            · by_cases hc : c2 = j + 1
              · rw [if_pos hc]
                go_simp
                exact fun h => absurd (h (by omega)) (by omega)
              · rw [if_neg hc]
                go_simp
                exact fun h => absurd (h (by omega)) (by omega)
            refine wpPure_nil ?_
            refine wpMid_val (.slice (some ⟨wr.heap.size, 0, none⟩) 1 1) rfl (w' := wr.drew.alloc (.cells #[.float .f64 f] 32)) (by go_simp) trivial ?_
            refine wpMid_append rfl (.tmp 34) (.tmp 37) 29 rfl _ _ _ rfl rfl q1 trivial ?_
            refine wpMid_append rfl (.tmp 32) (.tmp 38) 29 rfl _ _ _ rfl rfl q2 trivial ?_
            refine wpMid_nil ?_
            simp only [List.drop_succ_cons, List.drop_zero]
            clear q1 q2
            have HW5 := hide hw5
            have HBB := hide (hbw.trans q4)
            clear hw5 q4
            go_wp2
            exact ⟨⟨k + 1, A5, c5, by omega, rfl, by go_num, HW5, HBB.out⟩, by simp [intOf]; omega⟩
    · obtain rfl : k = l.length := by omega
      rw [List.take_length] at HS
      go_wp2
      (try rw [Exit.noGoto_ret])
      go_ret
      exact ⟨A2, c2, rfl, HS.out, hbw⟩
end Go.Proofs.Ytkkapajpgfjomaa.Real
