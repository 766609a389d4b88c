/- Whether rows of numbers are the same; how full cells are. No condition. -/
import Derived.Test.YtkkapajpgfjomaaGb
import Derived.Test.YtkkapajpgfjomaaAppI
namespace Go.Proofs.Ytkkapajpgfjomaa.Gauge
open Go.ChangeShapes Go.WideShapes Go.ChangeAt Go.RowKit Go.Proofs.Ytkkapajpgfjomaa.Kit Go.Proofs.Ytkkapajpgfjomaa.Flt Go.Proofs.Ytkkapajpgfjomaa.Real Go.Proofs.Ytkkapajpgfjomaa.Mem Go.Deep
open Ieee
set_option linter.unusedVariables false
set_option linter.unusedSimpArgs false
theorem same_ints {w : World} {B1 B2 n c1 c2 : Nat} {A1 A2 : Option Addr} {cs : List Int} (h1 : Ints w B1 A1 n cs) (h2 : Ints w B2 A2 n cs) (hb1 : B1 ≤ w.heap.size) (hb2 : B2 ≤ w.heap.size) (hn : n ≤ 100000) :
    Calls Try.prog 23 #[.slice A1 n c1, .slice A2 n c2] w fun e w' => e = .returned (.bool true) ∧ Below w.heap.size w w' := by
  have e1 := h1.1
  subst e1
  have H1 := hide h1
  have H2 := hide h2
  clear h1 h2
  go_enter Try.func23, Try.ntmps23
  go_wp2
  go_loopw [5] (fun i wr => ∃ k : Nat, k ≤ cs.length ∧ i = .int .i64 k ∧ Below w.heap.size w wr) (fun i _ => cs.length - (intOf i).toNat)
  case atStart => exact ⟨0, Nat.zero_le _, rfl, Below.refl _ _⟩
  case round =>
    obtain ⟨k, hk, rfl, hbw⟩ := hrel
    have hz0 := hbw.size
    have HBW := hide hbw
    by_cases hlt : k < cs.length
    · obtain ⟨b, off, rfl, hbB, hcell⟩ := H1.out.2 (by omega)
      obtain ⟨b2, off2, rfl, hbB2, hcell2⟩ := H2.out.2 (by omega)
      have d0 := (hbw.cell (p := ⟨b, off + k, none⟩) (by dsimp only; omega)).trans (hcell k hlt)
      have d1 := (hbw.cell (p := ⟨b2, off2 + k, none⟩) (by dsimp only; omega)).trans (hcell2 k hlt)
      have hbr : b < wr.heap.size := by omega
      have hbr2 : b2 < wr.heap.size := by omega
      clear hcell hcell2 hbw
      generalize cs.getD k 0 = x at *
      go_wp2_with (first | ((with_reducible change Code.wp _ (Code.region _ _ _) _ _ _); refine wp_region_quiet_below (by kernel_rfl) (by kernel_rfl) ?_; (repeat (first | go_big_quiet_step (fail) | quiet_step (fail))); refine wpQuiet_nil ?_; intro w1 hw1; have hb := below_of_regrown hw1; clear hw1; obtain ⟨hS, hE, hz, hc, hf⟩ := bcell hb; (try simp only [go_sem] at hE); subst hE))
      exact ⟨⟨k + 1, by omega, by go_num, HBW.out.trans (hb.mono hz0)⟩, by simp [intOf]; omega⟩
    · obtain rfl : k = cs.length := by omega
      go_wp2_with (first | ((with_reducible change Code.wp _ (Code.region _ _ _) _ _ _); refine wp_region_quiet_below (by kernel_rfl) (by kernel_rfl) ?_; (repeat (first | go_big_quiet_step (fail) | quiet_step (fail))); refine wpQuiet_nil ?_; intro w1 hw1; have hb := below_of_regrown hw1; clear hw1; obtain ⟨hS, hE, hz, hc, hf⟩ := bcell hb; (try simp only [go_sem] at hE); subst hE))
      go_ret
      exact ⟨rfl, HBW.out⟩
theorem full_any (cap vol ver : Int) (w : World) : Calls Try.prog 13 #[.agg #[.int .i64 cap, .int .i64 vol, .int .i64 ver]] w (FltPost w (shareO vol cap)) := by
  have cS := fun w => share_any vol cap w
  go_enter Try.func13, Try.ntmps13
  go_wp2_with (go_at_call 11; refine (cS _).mono ?_; rintro e w1 ⟨r, rfl, hr, hb⟩; have HR := hide hr; clear hr; obtain ⟨hS, hE, hz, hc, hf⟩ := bcell hb; (try simp only [go_sem] at hE); subst hE)
  go_ret
  exact ⟨_, rfl, HR.out, (by repeat' (first | (with_reducible exact Below.refl _ _) | (with_reducible refine below_drewN ?_ _) | (with_reducible refine Below.drew ?_) | (with_reducible refine Below.alloc ?_ ?_ _) | (with_reducible refine Below.setCell ?_ ?_ _) | (with_reducible refine below_step ?_ (by assumption) ?_) | (with_reducible refine below_step ?_ (below_regrown _ _ _) ?_) | go_size))⟩
/-- A cell. -/
abbrev Cel := Int × Int × Int
def encC (x : Cel) : List Value := [.int .i64 x.1, .int .i64 x.2.1, .int .i64 x.2.2]
theorem encC_len (x : Cel) : (encC x).length = 3 := rfl
theorem cel_cells {w : World} {B n : Nat} {A : Option Addr} {cs : List Cel} (h : SRow encC 3 w B A n cs) (h0 : 0 < n) : ∃ b off, A = some ⟨b, off, none⟩ ∧ b < B ∧ ∀ j, j < n →
    w.cell? ⟨b, off + j * 3, none⟩ = some (.int .i64 (cs.getD j default).1) ∧ w.cell? ⟨b, off + j * 3 + 1, none⟩ = some (.int .i64 (cs.getD j default).2.1) ∧ w.cell? ⟨b, off + j * 3 + 2, none⟩ = some (.int .i64 (cs.getD j default).2.2) := by
  obtain ⟨b, off, rfl, hb, hc⟩ := h.cells encC_len (by decide) default h0
  exact ⟨b, off, rfl, hb, fun j hj => ⟨hc j hj 0 (by decide), hc j hj 1 (by decide), hc j hj 2 (by decide)⟩⟩
def lvl (cs : List Cel) (j : Nat) : Option Nat := shareO (cs.getD j default).2.1 (cs.getD j default).1
def LevPost (w : World) (cs : List Cel) (e : Ending) (w' : World) : Prop :=
  ∃ A c zs, e = .returned (.slice A cs.length c) ∧ SRow encF 1 w' w'.heap.size A cs.length zs ∧ (∀ j, j < cs.length → IsO (lvl cs j) (zs.getD j 0)) ∧ Below w.heap.size w w'
set_option maxHeartbeats 2000000 in
theorem levels_any {w : World} {B n c : Nat} {A : Option Addr} {cs : List Cel} (hr : SRow encC 3 w B A n cs) (hB : B ≤ w.heap.size) (hn : n ≤ 100000) (v2 v3 v4 v5 v6 : Value) :
    Calls Try.prog 9 #[.agg #[.slice A n c, v2, v3, v4, v5, v6]] w (LevPost w cs) := by
  obtain ⟨i0, hi0, hz0, hz1, hz2⟩ := info_parts info_f64
  have e1 := hr.1
  subst e1
  have HR := hide hr
  clear hr
  have cF := fun a b c w => full_any a b c w
  go_enter Try.func9, Try.ntmps9
  go_wp2
  have HB0 : Hid (Below w.heap.size w (w.alloc (.cells #[.slice A cs.length c, v2, v3, v4, v5, v6] 26))) := hide ((Below.refl _ _).alloc (Nat.le_refl _) _)
  go_loopw [3, 9] (fun o i wr => ∃ (k : Nat) (A2 : Option Addr) (c2 : Nat) (zs : List Nat), k ≤ cs.length ∧ o = .slice A2 k c2 ∧ i = .int .i64 k ∧ Hid (wr.ownsRow w.heap.size 32 1 (.slice A2 k c2) k (SV encF zs)) ∧ Hid (zs.length = k ∧ ∀ j, j < k → IsO (lvl cs j) (zs.getD j 0)) ∧ Below w.heap.size w wr) (fun _ i _ => cs.length - (intOf i).toNat)
  case atStart => exact ⟨0, none, 0, [], Nat.zero_le _, rfl, rfl, hide (World.ownsRow_nil _ _ _ _), hide ⟨rfl, fun j hj => absurd hj (Nat.not_lt_zero _)⟩, HB0.out⟩
  case round =>
    obtain ⟨k, A2, c2, zs, hk, rfl, rfl, HO, HZ, hbw⟩ := hrel
    clear HB0
    have hz0' := hbw.size
    have HBW := hide hbw
    by_cases hlt : k < cs.length
    · obtain ⟨b, off, rfl, hbB, hcell⟩ := cel_cells HR.out (by omega)
      obtain ⟨p0, p1, p2⟩ := hcell k hlt
      have d0 := (hbw.cell (p := ⟨b, off + k * 3, none⟩) (by dsimp only; omega)).trans p0
      have d1 := (hbw.cell (p := ⟨b, off + k * 3 + 1, none⟩) (by dsimp only; omega)).trans p1
      have d2 := (hbw.cell (p := ⟨b, off + k * 3 + 2, none⟩) (by dsimp only; omega)).trans p2
      have HL : Hid (lvl cs k = shareO (cs.getD k default).2.1 (cs.getD k default).1) := hide rfl
      have hbr : b < wr.heap.size := by omega
      clear hcell p0 p1 p2 hbw
      generalize cs.getD k default = cel at *
      obtain ⟨cap, vol, ver⟩ := cel
      dsimp only at d0 d1 d2 HL
      have cF2 := fun w => cF cap vol ver w
      have hsz := sized_own HO.out
      clear cF
      go_wp2_with (first | (go_at_call 13; refine (cF2 _).mono ?_; rintro e w1 ⟨r, rfl, hr1, hb⟩; have HR1 := hide hr1; clear hr1; have hown1 := hide (own_under (HO.out.alloc _) hb (Nat.le_refl _)); have HBB := hide hb; obtain ⟨hS, hE, hz, hc, hf⟩ := bcell hb; (try simp only [go_sem] at hE); subst hE) | (at_builtin; go_loud (refine wp_append_srow (w1.alloc (.cells #[.float .f64 r] 32)) rfl (.tmp 13) (.tmp 16) 29 rfl encF_len encF_one (by decide) w.heap.size 32 i0 _ 8 Try.underlying29 hi0 hz0 hz1 hz2 rfl A2 k c2 _ rfl (hown1.out.alloc _) _ _ 1 1 [r] rfl (srow_one encF_len w1 r 32) (by unfold maxLen; omega) (by omega) (by have hzz := HBB.out.size; simp only [World.size_alloc] at hzz ⊢; omega) ?_); intro A5 c5 w5 hown5 hgrow5 hbel5 hcap5 hcm5))
      have hz9 : wr.heap.size + 1 ≤ w1.heap.size := by simpa using HBB.out.size
      have HZ2 : Hid ((zs ++ [r]).length = k + 1 ∧ ∀ j, j < k + 1 → IsO (lvl cs j) ((zs ++ [r]).getD j 0)) := hide (by
        obtain ⟨z1, z2⟩ := HZ.out
        refine ⟨by simp [z1], fun j hj => ?_⟩
        by_cases hjk : j < k
        · rw [List.getD_eq_getElem?_getD, List.getElem?_append_left (by omega), ← List.getD_eq_getElem?_getD]
          exact z2 j hjk
        · obtain rfl : j = k := by omega
          rw [List.getD_eq_getElem?_getD, List.getElem?_append_right (by omega), z1, Nat.sub_self, HL.out]
          exact HR1.out)
      exact ⟨⟨k + 1, A5, c5, zs ++ [r], by omega, rfl, by go_num, hide hown5, HZ2, ((((HBW.out.alloc hz0' _).trans (HBB.out.mono (by simp; omega))).alloc (by omega) _).trans hbel5)⟩, by simp [intOf]; omega⟩
    · obtain rfl : k = cs.length := by omega
      go_wp2
      go_ret
      exact ⟨A2, c2, zs, rfl, srow_of_own encF_len (by decide) HO.out, HZ.out.2, HBW.out⟩
end Go.Proofs.Ytkkapajpgfjomaa.Gauge
