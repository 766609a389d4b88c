/- Volumes together, by the program and by the reference; the bits of floats. Condition: the table is in place (for the program). -/
import Derived.Test.YtpibkodmcdflgaaDoorNanM
import Derived.Test.YtpibkodmcdflgaaDoorSRow
import Derived.LoopTactic
namespace Go.Proofs.YtpibkodmcdflgaaDoor.Nano
open Go.ChangeShapes Go.WideShapes Go.ChangeAt Go.RowKit Go.Proofs.YtpibkodmcdflgaaDoor.Kit Go.Proofs.YtpibkodmcdflgaaDoor.Flt Go.Proofs.YtpibkodmcdflgaaDoor.Real Go.Proofs.YtpibkodmcdflgaaDoor.Mem Go.Deep
set_option linter.unusedVariables false
set_option linter.unusedSimpArgs false
def encF (x : Nat) : List Value := [.float .f64 x]
theorem encF_len (x : Nat) : (encF x).length = 1 := rfl
def encU (x : Nat) : List Value := [.int .u64 x]
theorem encU_len (x : Nat) : (encU x).length = 1 := rfl
theorem encU_one (x : Nat) : ∀ u ∈ encU x, u.oneCell' = true := by intro u hu; simp only [encU, List.mem_cons, List.not_mem_nil, or_false] at hu; subst hu; rfl
theorem info_u64 : (Tryd.prog.info? 27).map (fun i => (i.zero, i.size, i.bytes)) = some (some (.int .u64 0), 1, 8) := by kernel_rfl
theorem frow_cells {w : World} {B n : Nat} {A : Option Addr} {l : List Nat} (h : SRow encF 1 w B A n l) (h0 : 0 < n) : ∃ b off, A = some ⟨b, off, none⟩ ∧ b < B ∧ ∀ j, j < n → w.cell? ⟨b, off + j, none⟩ = some (.float .f64 (l.getD j 0)) := by
  obtain ⟨b, off, rfl, hb, hc⟩ := h.cells encF_len (by decide) 0 h0
  exact ⟨b, off, rfl, hb, fun j hj => by have := hc j hj 0 (by decide); rw [Nat.mul_one] at this; exact this⟩
theorem urow_cells {w : World} {B n : Nat} {A : Option Addr} {l : List Nat} (h : SRow encU 1 w B A n l) (h0 : 0 < n) : ∃ b off, A = some ⟨b, off, none⟩ ∧ b < B ∧ ∀ j, j < n → w.cell? ⟨b, off + j, none⟩ = some (.int .u64 (l.getD j 0 : Nat)) := by
  obtain ⟨b, off, rfl, hb, hc⟩ := h.cells encU_len (by decide) 0 h0
  exact ⟨b, off, rfl, hb, fun j hj => by have := hc j hj 0 (by decide); rw [Nat.mul_one] at this; exact this⟩
/-- Volumes together, from a sum on. -/
def sumV : List Nat → Nat → Int × Int
  | [], s => ((s : Int), 0)
  | x :: r, s => if (ofV x).2 ≠ 0 then (0, (ofV x).2) else if 1099511627776 < (s : Int) + (ofV x).1 then (0, 4) else sumV r (s + (ofV x).1.toNat)
theorem sumV_at (l : List Nat) (k s : Nat) (h : k < l.length) : sumV (l.drop k) s = if (ofV (l.getD k 0)).2 ≠ 0 then (0, (ofV (l.getD k 0)).2) else if 1099511627776 < (s : Int) + (ofV (l.getD k 0)).1 then (0, 4) else sumV (l.drop (k + 1)) (s + (ofV (l.getD k 0)).1.toNat) := by
  rw [List.drop_eq_getElem_cons h]
  simp only [List.getD_eq_getElem?_getD, List.getElem?_eq_getElem h, Option.getD_some]
  rfl
set_option maxHeartbeats 2000000 in
theorem sum_any {w : World} {B n c : Nat} {A : Option Addr} {l : List Nat} (hr : SRow encF 1 w B A n l) (hB : B ≤ w.heap.size) (hn : n ≤ 100000) (hfit : ∀ j, l.getD j 0 < 18446744073709551616) (h : TabW w) :
    Calls Tryd.prog 14 #[.slice A n c] w fun e w' => e = .returned (.tuple #[.int .i64 (sumV l 0).1, .int .i64 (sumV l 0).2]) ∧ Below w.heap.size w w' := by
  have e1 := hr.1
  subst e1
  have HR := hide hr
  have HT := hide h
  clear hr h
  go_enter Tryd.func14, Tryd.ntmps14
  go_wp2
  go_step3
  go_wp2
  go_step3
  go_wp2
  go_loopw [4, 5, 12] (fun a b i wr => ∃ k s : Nat, k ≤ l.length ∧ a = .int .i64 s ∧ b = .int .i64 0 ∧ i = .int .i64 k ∧ Hid (sumV l 0 = sumV (l.drop k) s) ∧ s ≤ 1099511627776 ∧ Below w.heap.size w wr) (fun _ _ i _ => l.length - (intOf i).toNat)
  case atStart => exact ⟨0, 0, Nat.zero_le _, rfl, rfl, rfl, hide rfl, by omega, Below.refl _ _⟩
  case round =>
    obtain ⟨k, s, hk, rfl, rfl, rfl, HS, hs, hbw⟩ := hrel
    have hz0 := hbw.size
    by_cases hlt : k < l.length
    · obtain ⟨b, off, rfl, hbB, hcell⟩ := frow_cells HR.out (by omega)
      have hbr : b < wr.heap.size := by omega
      have d0 := (hbw.cell (p := ⟨b, off + k, none⟩) (by dsimp only; omega)).trans (hcell k hlt)
      have HA := hide (sumV_at l k s hlt)
      have hx := hfit k
      clear hcell
      generalize l.getD k 0 = x at *
      have O1 := fun w h => of_any x hx w h
      have cx := ofV_cases x
      generalize ofV x = v at *
      obtain ⟨n, j⟩ := v
      dsimp only at O1 cx HA
      rcases cx with ⟨rfl, hj⟩ | ⟨v, hv, hv2⟩
      · have k1 : (j == 0) = false := beq_eq_false_iff_ne.2 (by omega)
        have k2 : (j != 0) = true := by simp only [bne, k1, Bool.not_false]
        have HF := hide (HS.out.trans (HA.out.trans (if_pos (by omega))))
        clear hj HA HS
        go_wp2_with (first | (go_at_call 7; refine (O1 _ (HT.out.below (B := w.heap.size) (hbw.trans (by first | exact Below.refl _ _ | exact ((Below.refl _ _).alloc (by omega) _))) (Nat.le_refl _))).mono ?_; rintro e w1 ⟨rfl, hb⟩; obtain ⟨hS, hE, hz, hc, hf⟩ := bcell hb; (try simp only [go_sem] at hE); subst hE) | ((with_reducible change Code.wp _ (Code.region _ _ _) _ _ _); refine wp_region_quiet_below (by kernel_rfl) (by kernel_rfl) ?_; (repeat (first | go_big_quiet_step ((first | (go_at_call 7; exact Calls.regrown_of (O1 _ (HT.out.below (B := w.heap.size) (hbw.trans (by first | exact Below.refl _ _ | exact ((Below.refl _ _).alloc (by omega) _))) (Nat.le_refl _)))))) | quiet_step ((first | (go_at_call 7; exact Calls.regrown_of (O1 _ (HT.out.below (B := w.heap.size) (hbw.trans (by first | exact Below.refl _ _ | exact ((Below.refl _ _).alloc (by omega) _))) (Nat.le_refl _)))))))); refine wpQuiet_nil ?_; intro w1 hw1; have hb := below_of_regrown hw1; clear hw1; obtain ⟨hS, hE, hz, hc, hf⟩ := bcell hb; (try simp only [go_sem] at hE); subst hE))
        (try rw [Exit.noGoto_ret])
        go_ret2
        exact ⟨by rw [HF.out]; rfl, hbw.trans (hb.mono (by omega))⟩
      · obtain ⟨rfl, rfl⟩ : n = v ∧ j = 0 := by simpa using hv
        have HA2 := hide (HS.out.trans (HA.out.trans (if_neg (by omega))))
        have w1' : IntKind.i64.wrap (1099511627776 - (s : Int)) = 1099511627776 - s := IntWalk.i64_in _ (by omega)
        clear hv HA HS
        by_cases hm : 1099511627776 < s + v
        · have HF := hide (HA2.out.trans (if_pos (by omega)))
          clear HA2
          go_wp2_with (first | (go_at_call 7; refine (O1 _ (HT.out.below hbw (Nat.le_refl _))).mono ?_; rintro e w1 ⟨rfl, hb⟩; obtain ⟨hS, hE, hz, hc, hf⟩ := bcell hb; (try simp only [go_sem] at hE); subst hE) | ((with_reducible change Code.wp _ (Code.region _ _ _) _ _ _); refine wp_region_quiet_below (by kernel_rfl) (by kernel_rfl) ?_; (repeat (first | go_big_quiet_step ((first | (go_at_call 7; exact Calls.regrown_of (O1 _ (HT.out.below hbw (Nat.le_refl _)))))) | quiet_step ((first | (go_at_call 7; exact Calls.regrown_of (O1 _ (HT.out.below hbw (Nat.le_refl _)))))))); refine wpQuiet_nil ?_; intro w1 hw1; have hb := below_of_regrown hw1; clear hw1; obtain ⟨hS, hE, hz, hc, hf⟩ := bcell hb; (try simp only [go_sem] at hE); subst hE))
          (try rw [Exit.noGoto_ret])
          go_ret2
          exact ⟨by rw [HF.out]; rfl, hbw.trans (hb.mono (by omega))⟩
        · have HF := hide (HA2.out.trans (if_neg (by omega)))
          rw [Int.toNat_natCast] at HF
          clear HA2
          go_wp2_with (first | (go_at_call 7; refine (O1 _ (HT.out.below hbw (Nat.le_refl _))).mono ?_; rintro e w1 ⟨rfl, hb⟩; obtain ⟨hS, hE, hz, hc, hf⟩ := bcell hb; (try simp only [go_sem] at hE); subst hE) | ((with_reducible change Code.wp _ (Code.region _ _ _) _ _ _); refine wp_region_quiet_below (by kernel_rfl) (by kernel_rfl) ?_; (repeat (first | go_big_quiet_step ((first | (go_at_call 7; exact Calls.regrown_of (O1 _ (HT.out.below hbw (Nat.le_refl _)))))) | quiet_step ((first | (go_at_call 7; exact Calls.regrown_of (O1 _ (HT.out.below hbw (Nat.le_refl _)))))))); refine wpQuiet_nil ?_; intro w1 hw1; have hb := below_of_regrown hw1; clear hw1; obtain ⟨hS, hE, hz, hc, hf⟩ := bcell hb; (try simp only [go_sem] at hE); subst hE))
          exact ⟨⟨k + 1, s + v, by omega, by go_num, rfl, by go_num, HF, by omega, hbw.trans (hb.mono (by omega))⟩, by simp [intOf]; omega⟩
    · obtain rfl : k = l.length := by omega
      have HF := hide (HS.out)
      rw [List.drop_length] at HF
      go_wp2
      (try rw [Exit.noGoto_ret])
      go_ret2
      exact ⟨by rw [HF.out]; rfl, hbw⟩
set_option maxHeartbeats 2000000 in
theorem rsum_any {w : World} {B n c : Nat} {A : Option Addr} {l : List Nat} (hr : SRow encU 1 w B A n l) (hB : B ≤ w.heap.size) (hn : n ≤ 100000) (hfit : ∀ j, l.getD j 0 < 18446744073709551616) :
    Calls Tryd.prog 15 #[.slice A n c] w fun e w' => e = .returned (.tuple #[.int .i64 (sumV l 0).1, .int .i64 (sumV l 0).2]) ∧ Below w.heap.size w w' := by
  have e1 := hr.1
  subst e1
  have HR := hide hr
  clear hr
  go_enter Tryd.func15, Tryd.ntmps15
  go_wp2
  go_loopw [4, 5] (fun a i wr => ∃ k s : Nat, k ≤ l.length ∧ a = .int .i64 s ∧ i = .int .i64 k ∧ Hid (sumV l 0 = sumV (l.drop k) s) ∧ s ≤ 1099511627776 ∧ Below w.heap.size w wr) (fun _ i _ => l.length - (intOf i).toNat)
  case atStart => exact ⟨0, 0, Nat.zero_le _, rfl, rfl, hide rfl, by omega, Below.refl _ _⟩
  case round =>
    obtain ⟨k, s, hk, rfl, rfl, HS, hs, hbw⟩ := hrel
    have hz0 := hbw.size
    by_cases hlt : k < l.length
    · obtain ⟨b, off, rfl, hbB, hcell⟩ := urow_cells HR.out (by omega)
      have hbr : b < wr.heap.size := by omega
      have d0 := (hbw.cell (p := ⟨b, off + k, none⟩) (by dsimp only; omega)).trans (hcell k hlt)
      have HA := hide (sumV_at l k s hlt)
      have hx := hfit k
      clear hcell
      generalize l.getD k 0 = x at *
      have O1 := fun w => rof_any x hx w
      have cx := ofV_cases x
      generalize ofV x = v at *
      obtain ⟨n, j⟩ := v
      dsimp only at O1 cx HA
      rcases cx with ⟨rfl, hj⟩ | ⟨v, hv, hv2⟩
      · have k1 : (j == 0) = false := beq_eq_false_iff_ne.2 (by omega)
        have k2 : (j != 0) = true := by simp only [bne, k1, Bool.not_false]
        have HF := hide (HS.out.trans (HA.out.trans (if_pos (by omega))))
        clear hj HA HS
        go_wp2_with (first | (go_at_call 8; refine (O1 _).mono ?_; rintro e w1 ⟨rfl, hb⟩; obtain ⟨hS, hE, hz, hc, hf⟩ := bcell hb; (try simp only [go_sem] at hE); subst hE) | ((with_reducible change Code.wp _ (Code.region _ _ _) _ _ _); refine wp_region_quiet_below (by kernel_rfl) (by kernel_rfl) ?_; (repeat (first | go_big_quiet_step ((first | (go_at_call 8; exact Calls.regrown_of (O1 _)))) | quiet_step ((first | (go_at_call 8; exact Calls.regrown_of (O1 _)))))); refine wpQuiet_nil ?_; intro w1 hw1; have hb := below_of_regrown hw1; clear hw1; obtain ⟨hS, hE, hz, hc, hf⟩ := bcell hb; (try simp only [go_sem] at hE); subst hE))
        go_ret2
        exact ⟨by rw [HF.out]; rfl, hbw.trans (hb.mono (by omega))⟩
      · obtain ⟨rfl, rfl⟩ : n = v ∧ j = 0 := by simpa using hv
        have HA2 := hide (HS.out.trans (HA.out.trans (if_neg (by omega))))
        clear hv HA HS
        by_cases hm : 1099511627776 < s + v
        · have HF := hide (HA2.out.trans (if_pos (by omega)))
          clear HA2
          go_wp2_with (first | (go_at_call 8; refine (O1 _).mono ?_; rintro e w1 ⟨rfl, hb⟩; obtain ⟨hS, hE, hz, hc, hf⟩ := bcell hb; (try simp only [go_sem] at hE); subst hE) | ((with_reducible change Code.wp _ (Code.region _ _ _) _ _ _); refine wp_region_quiet_below (by kernel_rfl) (by kernel_rfl) ?_; (repeat (first | go_big_quiet_step ((first | (go_at_call 8; exact Calls.regrown_of (O1 _)))) | quiet_step ((first | (go_at_call 8; exact Calls.regrown_of (O1 _)))))); refine wpQuiet_nil ?_; intro w1 hw1; have hb := below_of_regrown hw1; clear hw1; obtain ⟨hS, hE, hz, hc, hf⟩ := bcell hb; (try simp only [go_sem] at hE); subst hE))
          go_ret2
          exact ⟨by rw [HF.out]; rfl, hbw.trans (hb.mono (by omega))⟩
        · have HF := hide (HA2.out.trans (if_neg (by omega)))
          rw [Int.toNat_natCast] at HF
          clear HA2
          go_wp2_with (first | (go_at_call 8; refine (O1 _).mono ?_; rintro e w1 ⟨rfl, hb⟩; obtain ⟨hS, hE, hz, hc, hf⟩ := bcell hb; (try simp only [go_sem] at hE); subst hE) | ((with_reducible change Code.wp _ (Code.region _ _ _) _ _ _); refine wp_region_quiet_below (by kernel_rfl) (by kernel_rfl) ?_; (repeat (first | go_big_quiet_step ((first | (go_at_call 8; exact Calls.regrown_of (O1 _)))) | quiet_step ((first | (go_at_call 8; exact Calls.regrown_of (O1 _)))))); refine wpQuiet_nil ?_; intro w1 hw1; have hb := below_of_regrown hw1; clear hw1; obtain ⟨hS, hE, hz, hc, hf⟩ := bcell hb; (try simp only [go_sem] at hE); subst hE))
          exact ⟨⟨k + 1, s + v, by omega, by go_num, by go_num, HF, by omega, hbw.trans (hb.mono (by omega))⟩, by simp [intOf]; omega⟩
    · obtain rfl : k = l.length := by omega
      have HF := hide (HS.out)
      rw [List.drop_length] at HF
      go_wp2
      go_ret2
      exact ⟨by rw [HF.out]; rfl, hbw⟩
def ListPost (w : World) (l : List Nat) (e : Ending) (w' : World) : Prop :=
  ∃ A c, e = .returned (.slice A l.length c) ∧ SRow encU 1 w' w'.heap.size A l.length l ∧ Below w.heap.size w w'
set_option maxHeartbeats 2000000 in
theorem rlist_any {w : World} {B n c : Nat} {A : Option Addr} {l : List Nat} (hr : SRow encF 1 w B A n l) (hB : B ≤ w.heap.size) (hn : n ≤ 100000) : Calls Tryd.prog 16 #[.slice A n c] w (ListPost w l) := by
  obtain ⟨i0, hi0, hz0, hz1, hz2⟩ := info_parts info_u64
  have e1 := hr.1
  subst e1
  have HR := hide hr
  have B1 := fun x w => rbits_any x w
  clear hr
  go_enter Tryd.func16, Tryd.ntmps16
  go_wp2
  go_loopw [3, 4] (fun o i wr => ∃ (k : Nat) (A2 : Option Addr) (cc2 : Nat), k ≤ l.length ∧ i = .int .i64 k ∧ o = .slice A2 k cc2 ∧ wr.ownsRow w.heap.size 27 1 (.slice A2 k cc2) k (SV encU (l.take k)) ∧ Below w.heap.size w wr) (fun _ i _ => l.length - (intOf i).toNat)
  case atStart => exact ⟨0, none, 0, Nat.zero_le _, rfl, rfl, World.ownsRow_nil _ _ _ _, Below.refl _ _⟩
  case round =>
    obtain ⟨k, A2, cc2, hk, rfl, rfl, hown, hbw⟩ := hrel
    have hz0' := hbw.size
    have htk : (l.take k).length = k := by rw [List.length_take]; omega
    by_cases hlt : k < l.length
    · obtain ⟨b, off, rfl, hbB, hcell⟩ := frow_cells HR.out (by omega)
      have hbr : b < wr.heap.size := by omega
      have d0 := (hbw.cell (p := ⟨b, off + k, none⟩) (by dsimp only; omega)).trans (hcell k hlt)
      have hnx : l.take (k + 1) = l.take k ++ [l.getD k 0] := by
        rw [List.take_succ_eq_append_getElem hlt]
        simp only [List.getD_eq_getElem?_getD, List.getElem?_eq_getElem hlt, Option.getD_some]
      have HNX := hide hnx
      clear hcell hnx
      generalize l.getD k 0 = x at *
      generalize l.take k = ps at *
      have HO := hide hown
      clear hown
      go_wp2_with (first | (go_at_call 9; refine (B1 _ _).mono ?_; rintro e w1 ⟨rfl, rfl⟩) | (at_builtin; go_loud (refine wp_append_srow (wr.alloc (.cells #[.int .u64 x] 27)) rfl (.tmp 11) (.tmp 17) 39 rfl encU_len encU_one (by decide) w.heap.size 27 i0 _ 8 Tryd.underlying39 hi0 hz0 hz1 hz2 rfl A2 k cc2 _ rfl (HO.out.alloc _) _ _ 1 1 [x] rfl (srow_one encU_len wr x 27) (by unfold maxLen; omega) (by omega) (by simp; omega) ?_); intro A5 c5 w5 hown5 hgrow5 hbel5 hcap5 hcm5))
      refine ⟨⟨k + 1, A5, c5, by omega, by go_num, rfl, by rw [HNX.out]; exact hown5, (hbw.alloc (by omega) _).trans hbel5⟩, by simp [intOf]; omega⟩
    · obtain rfl : k = l.length := by omega
      rw [List.take_length] at hown
      have HO := hide hown
      clear hown htk
      go_wp2
      go_ret
      exact ⟨A2, cc2, rfl, srow_of_own encU_len (by decide) HO.out, hbw⟩
end Go.Proofs.YtpibkodmcdflgaaDoor.Nano
