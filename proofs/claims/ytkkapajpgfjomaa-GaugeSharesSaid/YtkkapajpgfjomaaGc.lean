/- The floats of a list that are numbers, in their order, by the program and by the reference. No condition. -/
import Derived.Test.YtkkapajpgfjomaaGb
import Derived.Test.YtkkapajpgfjomaaSrtN
import Derived.Test.YtkkapajpgfjomaaSrtB
import Derived.Test.YtkkapajpgfjomaaRLst
namespace Go.Proofs.Ytkkapajpgfjomaa.Gauge
open Go.ChangeShapes Go.WideShapes Go.ChangeAt Go.RowKit Go.Proofs.Ytkkapajpgfjomaa.Kit Go.Proofs.Ytkkapajpgfjomaa.Flt Go.Proofs.Ytkkapajpgfjomaa.Real Go.Proofs.Ytkkapajpgfjomaa.Mem Go.Deep
set_option linter.unusedVariables false
set_option linter.unusedSimpArgs false
def NumsPost (enc : Nat → List Value) (w : World) (l : List Nat) (e : Ending) (w' : World) : Prop :=
  ∃ A c, e = .returned (.slice A (numsV l).length c) ∧ SRow enc 1 w' w'.heap.size A (numsV l).length (numsV l) ∧ (numsV l).length ≤ c ∧ c ≤ maxLen ∧ Below w.heap.size w w'
set_option maxHeartbeats 2000000 in
theorem numbers_any {w : World} {B n c : Nat} {A : Option Addr} {l : List Nat} (hr : SRow encF 1 w B A n l) (hB : B ≤ w.heap.size) (hn : n ≤ 100000) (hfit : ∀ z ∈ l, z < 18446744073709551616) :
    Calls Try.prog 28 #[.slice A n c] w (NumsPost encF w l) := by
  have S1 := sort_any hr hB hn hfit (c := c)
  have e1 := hr.1
  subst e1
  obtain ⟨f1, f2, f3, f4⟩ := nums_facts l hfit
  have HSF := hide (fun j => sort_fit (l := l) hfit j)
  have F2 := hide f2
  have F3 := hide f3
  clear hr hfit f2 f3 f4
  unfold NumsPost
  generalize sortV l = S at *
  generalize numsV l = N at *
  go_enter Try.func28, Try.ntmps28
  go_wp2
  go_step3
  go_wp2_with (go_at_call 38; refine S1.mono ?_; rintro e w1 ⟨A1, c1, rfl, k1, hb1⟩; obtain ⟨hS1, hE1, hz1, hc1, hf1⟩ := bcell hb1; (try simp only [go_sem] at hE1); subst hE1)
  go_step3
  go_wp2
  have HO := hide k1
  have hsz := sized_own k1
  clear k1 hc1 hf1
  go_loopw [4, 11] (fun a i wr => ∃ k : Nat, k ≤ l.length ∧ k ≤ N.length ∧ a = .int .i64 k ∧ i = .int .i64 k ∧ Below w1.heap.size w1 wr) (fun _ i _ => l.length - (intOf i).toNat)
  case atStart => exact ⟨0, Nat.zero_le _, Nat.zero_le _, rfl, rfl, Below.refl _ _⟩
  case round =>
    obtain ⟨k, hk, hkN, rfl, rfl, hbr⟩ := hrel
    have hzr := hbr.size
    have HBW := hide (hb1.trans (hbr.mono hz1))
    have HBR := hide hbr
    have HEND : Hid (∀ (h : ¬ k < N.length), SRow encF 1 wr wr.heap.size A1 N.length N) := hide fun h => by
      have o2 := own_cut (m := N.length) encF_len HO.out f1
      rw [F3.out] at o2
      exact srow_of_own encF_len (by decide) (own_under o2 hbr (Nat.le_refl _))
    by_cases hlt : k < l.length
    · obtain ⟨b, off, hA1, hbB, hcell⟩ := frow_cells (srow_of_own encF_len (by decide) HO.out) (by omega)
      have d0 := (hbr.cell (p := ⟨b, off + k, none⟩) (by dsimp only; omega)).trans (hcell k hlt)
      have hx := HSF.out k
      have hN := F2.out k hlt
      clear hcell hbr
      subst hA1
      generalize S.getD k 0 = x at *
      have C1 := fun w => class_any x hx w
      have hcl := class_one x
      rw [hN] at hcl
      generalize classS x = cx at *
      by_cases hm : N.length ≤ k
      · rw [decide_eq_true hm] at hcl
        have hkN2 : k = N.length := by omega
        subst hkN2
        go_wp2_with (first | (go_at_call 32; refine (C1 _).mono ?_; rintro e w1 ⟨rfl, rfl⟩) | ((with_reducible change Code.wp _ (Code.region _ _ _) _ _ _); refine wp_region_quiet_below (by kernel_rfl) (by kernel_rfl) ?_; (repeat (first | go_big_quiet_step ((first | (go_at_call 32; exact Calls.regrown_of (below_of_same (C1 _))))) | quiet_step ((first | (go_at_call 32; exact Calls.regrown_of (below_of_same (C1 _))))))); refine wpQuiet_nil ?_; intro w1 hw1; have hb := below_of_regrown hw1; clear hw1; obtain ⟨hS, hE, hz, hc, hf⟩ := bcell hb; (try simp only [go_sem] at hE); subst hE))
        (try rw [Exit.noGoto_ret])
        go_ret
        exact ⟨_, c1, rfl, HEND.out (Nat.lt_irrefl _), by omega, hsz.2, HBW.out⟩
      · rw [decide_eq_false hm] at hcl
        go_wp2_with (first | (go_at_call 32; refine (C1 _).mono ?_; rintro e w1 ⟨rfl, rfl⟩) | ((with_reducible change Code.wp _ (Code.region _ _ _) _ _ _); refine wp_region_quiet_below (by kernel_rfl) (by kernel_rfl) ?_; (repeat (first | go_big_quiet_step ((first | (go_at_call 32; exact Calls.regrown_of (below_of_same (C1 _))))) | quiet_step ((first | (go_at_call 32; exact Calls.regrown_of (below_of_same (C1 _))))))); refine wpQuiet_nil ?_; intro w1 hw1; have hb := below_of_regrown hw1; clear hw1; obtain ⟨hS, hE, hz, hc, hf⟩ := bcell hb; (try simp only [go_sem] at hE); subst hE))
        exact ⟨⟨k + 1, by omega, by omega, by go_num, by go_num, HBR.out⟩, by simp [intOf]; omega⟩
    · obtain rfl : k = l.length := by omega
      have hkN2 : N.length = l.length := by omega
      go_wp2_with (first | ((with_reducible change Code.wp _ (Code.region _ _ _) _ _ _); refine wp_region_quiet_below (by kernel_rfl) (by kernel_rfl) ?_; (repeat (first | go_big_quiet_step (fail) | quiet_step (fail))); refine wpQuiet_nil ?_; intro w1 hw1; have hb := below_of_regrown hw1; clear hw1; obtain ⟨hS, hE, hz, hc, hf⟩ := bcell hb; (try simp only [go_sem] at hE); subst hE))
      (try rw [Exit.noGoto_ret])
      go_ret
      exact ⟨_, c1, by rw [hkN2]; rfl, HEND.out (by omega), by omega, hsz.2, HBW.out⟩
theorem filter_take (S : List Nat) (k : Nat) (h : k < S.length) : (S.take (k + 1)).filter (fun z => !nanB z) = (S.take k).filter (fun z => !nanB z) ++ if nanB (S.getD k 0) = true then [] else [S.getD k 0] := by
  rw [List.take_add_one, List.filter_append, List.getElem?_eq_getElem h, List.getD_eq_getElem?_getD, List.getElem?_eq_getElem h]
  congr 1
  cases hn : nanB S[k]
  · simp [hn]
  · simp [hn]
set_option maxHeartbeats 2000000 in
theorem rnumbers_any {w : World} {B n c : Nat} {A : Option Addr} {l : List Nat} (hr : SRow encF 1 w B A n l) (hB : B ≤ w.heap.size) (hn : n ≤ 100000) (hfit : ∀ z ∈ l, z < 18446744073709551616) :
    Calls Try.prog 29 #[.slice A n c] w (NumsPost encU w l) := by
  obtain ⟨i0, hi0, hz0, hz1, hz2⟩ := info_parts info_u64
  have L1 := rlist_any hr hB hn (c := c)
  have e1 := hr.1
  subst e1
  have S2 := fun (w : World) (A2 : Option Addr) (c2 : Nat) h => rsort_any (w := w) (B := w.heap.size) (n := l.length) (c := c2) (A := A2) (l := l) h (Nat.le_refl _) hn hfit
  have hl := sort_len l
  have HSF := hide (fun j => sort_fit (l := l) hfit j)
  have HN : Hid (numsV l = (sortV l).filter (fun z => !nanB z)) := hide rfl
  clear hr hfit
  unfold NumsPost
  generalize sortV l = S at *
  generalize numsV l = N at *
  go_enter Try.func29, Try.ntmps29
  go_wp2_with (first | (go_at_call 40; refine L1.mono ?_; rintro e w2 ⟨A2, c2, rfl, k2, hb2⟩; obtain ⟨hS2, hE2, hz2', hc2, hf2⟩ := bcell hb2; (try simp only [go_sem] at hE2); subst hE2) | (go_at_call 39; refine (S2 _ _ _ k2).mono ?_; rintro e w1 ⟨A1, c1, rfl, k1, hb1⟩; obtain ⟨hS3, hE3, hz3, hc3, hf3⟩ := bcell hb1; (try simp only [go_sem] at hE3); subst hE3))
  have HO := hide (srow_of_own encU_len (by decide) k1)
  have HB1 := hide (show Below w.heap.size w w1 from (by repeat' (first | (with_reducible exact Below.refl _ _) | (with_reducible refine below_drewN ?_ _) | (with_reducible refine Below.drew ?_) | (with_reducible refine Below.alloc ?_ ?_ _) | (with_reducible refine Below.setCell ?_ ?_ _) | (with_reducible refine below_step ?_ (by assumption) ?_) | (with_reducible refine below_step ?_ (below_regrown _ _ _) ?_) | go_size)))
  have hzw : w.heap.size ≤ w1.heap.size := by omega
  clear k1 k2 hc2 hf2 hc3 hf3 hb1 hb2
  go_loopw [3, 5] (fun o i wr => ∃ (k m : Nat) (A2 : Option Addr) (cc2 : Nat), k ≤ l.length ∧ m ≤ k ∧ o = .slice A2 m cc2 ∧ i = .int .i64 k ∧ Hid (wr.ownsRow w1.heap.size 51 1 (.slice A2 m cc2) m (SV encU ((S.take k).filter fun z => !nanB z))) ∧ Below w1.heap.size w1 wr) (fun _ i _ => l.length - (intOf i).toNat)
  case atStart => exact ⟨0, 0, none, 0, Nat.zero_le _, Nat.le_refl _, rfl, rfl, hide (World.ownsRow_nil _ _ _ _), Below.refl _ _⟩
  case round =>
    obtain ⟨k, m, A2, cc2, hk, hm, rfl, rfl, HK, hbr⟩ := hrel
    have hzr := hbr.size
    have HBR := hide hbr
    by_cases hlt : k < l.length
    · obtain ⟨b, off, hA1, hbB, hcell⟩ := urow_cells HO.out (by omega)
      have d0 := (hbr.cell (p := ⟨b, off + k, none⟩) (by dsimp only; omega)).trans (hcell k hlt)
      have hx := HSF.out k
      have HT := hide (filter_take S k (by omega))
      clear hcell hbr
      subst hA1
      generalize S.getD k 0 = x at *
      have C1 := fun w => rclass_any x hx w
      have hcl := class_one x
      generalize classS x = cx at *
      have hsz := sized_own HK.out
      cases hnx : nanB x
      · rw [hnx] at hcl
        have HT2 : Hid ((S.take (k + 1)).filter (fun z => !nanB z) = (S.take k).filter (fun z => !nanB z) ++ [x]) := hide (by rw [HT.out, hnx]; rfl)
        clear HT
        go_wp2_with (first | (go_at_call 37; refine (C1 _).mono ?_; rintro e w1 ⟨rfl, rfl⟩) | (at_builtin; go_loud (refine wp_append_srow (wr.alloc (.cells #[.int .u64 x] 51)) rfl (.tmp 21) (.tmp 26) 55 rfl encU_len encU_one (by decide) w1.heap.size 51 i0 _ 8 Try.underlying55 hi0 hz0 hz1 hz2 rfl A2 m cc2 _ rfl (HK.out.alloc _) _ _ 1 1 [x] rfl (srow_one encU_len wr x 51) (by unfold maxLen; omega) (by omega) (by simp; omega) ?_); intro A5 c5 w5 hown5 hgrow5 hbel5 hcap5 hcm5))
        exact ⟨⟨k + 1, m + 1, A5, c5, by omega, by omega, rfl, by go_num, hide (by rw [HT2.out]; exact hown5), (HBR.out.alloc (by omega) _).trans hbel5⟩, by simp [intOf]; omega⟩
      · rw [hnx] at hcl
        have HT2 : Hid ((S.take (k + 1)).filter (fun z => !nanB z) = (S.take k).filter (fun z => !nanB z)) := hide (by rw [HT.out, hnx]; simp)
        clear HT
        go_wp2_with (first | (go_at_call 37; refine (C1 _).mono ?_; rintro e w1 ⟨rfl, rfl⟩) | ((with_reducible change Code.wp _ (Code.region _ _ _) _ _ _); refine wp_region_quiet_below (by kernel_rfl) (by kernel_rfl) ?_; (repeat (first | go_big_quiet_step ((first | (go_at_call 37; exact Calls.regrown_of (below_of_same (C1 _))))) | quiet_step ((first | (go_at_call 37; exact Calls.regrown_of (below_of_same (C1 _))))))); refine wpQuiet_nil ?_; intro w1 hw1; have hb := below_of_regrown hw1; clear hw1; obtain ⟨hS, hE, hz, hc, hf⟩ := bcell hb; (try simp only [go_sem] at hE); subst hE))
        exact ⟨⟨k + 1, m, A2, cc2, by omega, by omega, rfl, by go_num, hide (by rw [HT2.out]; exact HK.out), HBR.out⟩, by simp [intOf]; omega⟩
    · obtain rfl : k = l.length := by omega
      have HN2 : Hid ((S.take l.length).filter (fun z => !nanB z) = N) := hide (by rw [← hl, List.take_length]; exact HN.out.symm)
      rw [HN2.out] at HK
      have hml : m = N.length := by
        have := HK.out.1
        rw [sv_len encU_len] at this
        omega
      have hsz := sized_own HK.out
      subst hml
      go_wp2_with (first | ((with_reducible change Code.wp _ (Code.region _ _ _) _ _ _); refine wp_region_quiet_below (by kernel_rfl) (by kernel_rfl) ?_; (repeat (first | go_big_quiet_step (fail) | quiet_step (fail))); refine wpQuiet_nil ?_; intro w1 hw1; have hb := below_of_regrown hw1; clear hw1; obtain ⟨hS, hE, hz, hc, hf⟩ := bcell hb; (try simp only [go_sem] at hE); subst hE))
      go_ret
      exact ⟨A2, cc2, rfl, srow_of_own encU_len (by decide) HK.out, hsz.1, hsz.2, HB1.out.trans (HBR.out.mono hzw)⟩
end Go.Proofs.Ytkkapajpgfjomaa.Gauge
