/- What must come of every program of this chapter. No condition. -/
import Derived.Test.YtkkapajpgfjomaaGe
import Derived.Test.YtkkapajpgfjomaaGf
import Derived.Test.YtkkapajpgfjomaaGh
import Derived.Test.YtkkapajpgfjomaaGi
namespace Go.Proofs.Ytkkapajpgfjomaa.Gauge
open Go.ChangeShapes Go.WideShapes Go.ChangeAt Go.RowKit Go.Proofs.Ytkkapajpgfjomaa.Kit Go.Proofs.Ytkkapajpgfjomaa.Flt Go.Proofs.Ytkkapajpgfjomaa.Real Go.Proofs.Ytkkapajpgfjomaa.Mem Go.Deep
open Ieee
set_option linter.unusedVariables false
set_option linter.unusedSimpArgs false
theorem srow_lit {α : Type} {enc : α → List Value} {k : Nat} (hk : ∀ x, (enc x).length = k) (w : World) (l : List α) (t : TypeId) : SRow enc k (w.alloc (.cells (SV enc l).toArray t)) (w.heap.size + 1) (some ⟨w.heap.size, 0, none⟩) l.length l := by
  refine ⟨rfl, ?_⟩
  have h := row_new w (SV enc l) t
  rw [sv_len hk] at h
  exact h
theorem ints_lit (w : World) (l : List Int) (t : TypeId) : Ints (w.alloc (.cells (IV l).toArray t)) (w.heap.size + 1) (some ⟨w.heap.size, 0, none⟩) l.length l := by
  refine ⟨rfl, ?_⟩
  have h := row_new w (IV l) t
  rw [show (IV l).length = l.length by simp [IV]] at h
  exact row_of h fun j hj => iv_get l j hj
theorem flt_some {w : World} {z : Nat} {e : Ending} {w' : World} (h : FltPost w (some z) e w') : e = .returned (.float .f64 z) ∧ Below w.heap.size w w' := by
  obtain ⟨r, h1, h2, h3⟩ := h
  obtain rfl : r = z := h2.2
  exact ⟨h1, h3⟩
theorem k_s00 : shareO 0 0 = none := by decide +kernel
theorem k_s10 : shareO 1 0 = some 9218868437227405312 := by decide +kernel
theorem k_s14 : shareO 1 4 = some 4598175219545276416 := by decide +kernel
theorem k_mean : meanO [4607182418800017408, 4611686018427387904] = some 4609434218613702656 := by decide +kernel
theorem k_mid : midO (numsV [4616189618054758400, 9221120237041090561, 4607182418800017408, 4613937818241073152, 4611686018427387904]) = some 4612811918334230528 := by decide +kernel
theorem k_most : mostV [4616189618054758400, 9221120237041090561, 4607182418800017408, 4613937818241073152, 4611686018427387904] 5 = 0 := by decide +kernel
theorem k_bars : barsV [0, 4602678819172646912, 4607182418800017408, 4611686018427387904] 2 = [1, 2] := by decide +kernel
theorem k_near : nearV 4607182418800017408 4609434218613702656 4602678819172646912 = true := by decide +kernel
theorem k_cmp : fltB 9218868437227405311 9218868437227405312 = true ∧ feqB 4598175219545276416 4598175219545276416 = true ∧ feqB 4609434218613702656 4609434218613702656 = true ∧ feqB 4612811918334230528 4612811918334230528 = true := by decide
theorem nan_feq {r : Nat} (h : nanB r = true) : feqB r r = false := by rw [feq_self, h]; rfl
theorem lit_fit : ∀ z ∈ [4616189618054758400, 9221120237041090561, 4607182418800017408, 4613937818241073152, 4611686018427387904], z < 18446744073709551616 := by decide
theorem lit_get (j : Nat) : [4616189618054758400, 9221120237041090561, 4607182418800017408, 4613937818241073152, 4611686018427387904].getD j 0 < 18446744073709551616 := by
  match j with
  | 0 | 1 | 2 | 3 | 4 => decide
  | n + 5 => exact (show (0 : Nat) < 18446744073709551616 by decide)
theorem lit_get2 (j : Nat) : [0, 4602678819172646912, 4607182418800017408, 4611686018427387904].getD j 0 < 18446744073709551616 := by
  match j with
  | 0 | 1 | 2 | 3 => decide
  | n + 4 => exact (show (0 : Nat) < 18446744073709551616 by decide)
set_option maxHeartbeats 4000000 in
theorem lives_any (w : World) : Calls Try.prog 8 #[] w fun e w' => e = .returned (.bool true) ∧ Below w.heap.size w w' := by
  have c00 := fun w => share_any 0 0 w
  rw [k_s00] at c00
  have c10 := fun w => (k_s10 ▸ share_any 1 0 w).mono (fun _ _ h => flt_some h)
  have c14 := fun w => (k_s14 ▸ full_any 4 1 0 w).mono (fun _ _ h => flt_some h)
  have cMn := fun w t => (k_mean ▸ mean_any (l := [4607182418800017408, 4611686018427387904]) (c := 2) (srow_lit encF_len w _ t) (by simp) (by decide)).mono (fun _ _ h => flt_some h)
  have cMd := fun (w : World) (B : Nat) (A : Option Addr) (h : SRow encF 1 w B A 5 [4616189618054758400, 9221120237041090561, 4607182418800017408, 4613937818241073152, 4611686018427387904]) hB => (k_mid ▸ middle_any (c := 5) h hB (by decide) lit_fit).mono (fun _ _ h => flt_some h)
  have cMo := fun (w : World) (B : Nat) (A : Option Addr) (h : SRow encF 1 w B A 5 [4616189618054758400, 9221120237041090561, 4607182418800017408, 4613937818241073152, 4611686018427387904]) hB => k_most ▸ most_any (c := 5) h hB (by decide) lit_get
  have cB := fun w t => k_bars ▸ bars_in (l := [0, 4602678819172646912, 4607182418800017408, 4611686018427387904]) (c := 4) (m := 2) (srow_lit encF_len w _ t) (by simp) (by decide) lit_get2 (by decide) (by decide)
  have cN := fun w => k_near ▸ near_any 4607182418800017408 4609434218613702656 4602678819172646912 w
  have cL := fun w t v2 v3 v4 v5 v6 => levels_any (cs := [(1, 0, 0)]) (c := 1) (srow_lit encC_len w _ t) (by simp) (by decide) v2 v3 v4 v5 v6
  have cNaN := fun w => nan_any w
  obtain ⟨e1, e2, e3, e4⟩ := k_cmp
  go_enter Try.func8, Try.ntmps8
  go_wp2_with (first | (go_at_call 11; refine (c00 _).mono ?_; rintro e w1 ⟨r, rfl, hr, hb1⟩; have hr2 := nan_feq hr.2; clear hr; obtain ⟨hS1, hE1, hz1, hc1, hf1⟩ := bcell hb1; (try simp only [go_sem] at hE1); subst hE1) | (go_at_call 25; refine (cNaN _).mono ?_; rintro e w2 ⟨rfl, rfl⟩))
  have HL5 : Hid (SRow encF 1 (w1.alloc (.cells #[.float .f64 4616189618054758400, .float .f64 9221120237041090561, .float .f64 4607182418800017408, .float .f64 4613937818241073152, .float .f64 4611686018427387904] 32)) (w1.alloc (.cells #[.float .f64 4616189618054758400, .float .f64 9221120237041090561, .float .f64 4607182418800017408, .float .f64 4613937818241073152, .float .f64 4611686018427387904] 32)).heap.size (some ⟨w1.heap.size, 0, none⟩) 5 [4616189618054758400, 9221120237041090561, 4607182418800017408, 4613937818241073152, 4611686018427387904]) := hide (srow_more (srow_lit encF_len w1 _ 32) (by simp))
  have HBA : Hid (Below w.heap.size w (w1.alloc (.cells #[.float .f64 4616189618054758400, .float .f64 9221120237041090561, .float .f64 4607182418800017408, .float .f64 4613937818241073152, .float .f64 4611686018427387904] 32))) := hide (hb1.alloc (by omega) _)
  have hza : w.heap.size ≤ (w1.alloc (.cells #[.float .f64 4616189618054758400, .float .f64 9221120237041090561, .float .f64 4607182418800017408, .float .f64 4613937818241073152, .float .f64 4611686018427387904] 32)).heap.size := by simp; omega
  generalize w1.alloc (.cells #[.float .f64 4616189618054758400, .float .f64 9221120237041090561, .float .f64 4607182418800017408, .float .f64 4613937818241073152, .float .f64 4611686018427387904] 32) = wa at *
  generalize w1.heap.size = g at *
  clear hb1 hc1 hf1 c00
  go_wp2_with (first | (go_at_call 11; refine (c10 _).mono ?_; rintro e w1 ⟨rfl, hb⟩; obtain ⟨hS, hE, hz, hc, hf⟩ := bcell hb; (try simp only [go_sem] at hE); subst hE) | (go_at_call 13; refine (c14 _).mono ?_; rintro e w1 ⟨rfl, hb⟩; obtain ⟨hS, hE, hz, hc, hf⟩ := bcell hb; (try simp only [go_sem] at hE); subst hE) | (go_at_call 14; refine (cMn _ _).mono ?_; rintro e w1 ⟨rfl, hb⟩; obtain ⟨hS, hE, hz, hc, hf⟩ := bcell hb; (try simp only [go_sem] at hE); subst hE) | (go_at_call 16; refine (cMd _ _ _ (srow_below HL5.out (B1 := wa.heap.size) (by repeat' (first | (with_reducible exact Below.refl _ _) | (with_reducible refine below_drewN ?_ _) | (with_reducible refine Below.drew ?_) | (with_reducible refine Below.alloc ?_ ?_ _) | (with_reducible refine Below.setCell ?_ ?_ _) | (with_reducible refine below_step ?_ (by assumption) ?_) | (with_reducible refine below_step ?_ (below_regrown _ _ _) ?_) | go_size)) (Nat.le_refl _)) (by omega)).mono ?_; rintro e w1 ⟨rfl, hb⟩; obtain ⟨hS, hE, hz, hc, hf⟩ := bcell hb; (try simp only [go_sem] at hE); subst hE) | (go_at_call 19; refine (cMo _ _ _ (srow_below HL5.out (B1 := wa.heap.size) (by repeat' (first | (with_reducible exact Below.refl _ _) | (with_reducible refine below_drewN ?_ _) | (with_reducible refine Below.drew ?_) | (with_reducible refine Below.alloc ?_ ?_ _) | (with_reducible refine Below.setCell ?_ ?_ _) | (with_reducible refine below_step ?_ (by assumption) ?_) | (with_reducible refine below_step ?_ (below_regrown _ _ _) ?_) | go_size)) (Nat.le_refl _)) (by omega)).mono ?_; rintro e w1 ⟨rfl, hb⟩; obtain ⟨hS, hE, hz, hc, hf⟩ := bcell hb; (try simp only [go_sem] at hE); subst hE) | (go_at_call 22; refine (cB _ _).mono ?_; rintro e w3 ⟨g3, rfl, k3, hb3⟩; have K3 := hide k3; clear k3; obtain ⟨hS3, hE3, hz3, hc3, hf3⟩ := bcell hb3; (try simp only [go_sem] at hE3); subst hE3) | (go_at_call 23; refine (same_ints (ints_alloc K3.out (Nat.le_refl _) _) (ints_lit w3 [1, 2] 3) (by simp) (by simp) (by decide)).mono ?_; rintro e w1 ⟨rfl, hb⟩; obtain ⟨hS, hE, hz, hc, hf⟩ := bcell hb; (try simp only [go_sem] at hE); subst hE) | (go_at_call 18; refine (cN _).mono ?_; rintro e w1 ⟨rfl, hb⟩; obtain ⟨hS, hE, hz, hc, hf⟩ := bcell hb; (try simp only [go_sem] at hE); subst hE) | (go_at_call 9; refine (cL _ _ _ _ _ _ _).mono ?_; rintro e w4 ⟨A4, c4, zs, rfl, -, -, hb4⟩; obtain ⟨hS4, hE4, hz4, hc4, hf4⟩ := bcell hb4; (try simp only [go_sem] at hE4); subst hE4))
  go_ret
  exact ⟨rfl, HBA.out.trans (show Below w.heap.size wa _ from (by repeat' (first | (with_reducible exact Below.refl _ _) | (with_reducible refine below_drewN ?_ _) | (with_reducible refine Below.drew ?_) | (with_reducible refine Below.alloc ?_ ?_ _) | (with_reducible refine Below.setCell ?_ ?_ _) | (with_reducible refine below_step ?_ (by assumption) ?_) | (with_reducible refine below_step ?_ (below_regrown _ _ _) ?_) | go_size)))⟩
end Go.Proofs.Ytkkapajpgfjomaa.Gauge
