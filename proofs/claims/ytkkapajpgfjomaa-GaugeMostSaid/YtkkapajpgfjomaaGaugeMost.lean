/- GaugeMost: the place of the greatest of any floats; whether any two are near each other. Condition: none beyond the row's own. -/
import Derived.Test.YtkkapajpgfjomaaGw
namespace Go.Proofs.Ytkkapajpgfjomaa.GaugeMost
open Go.ChangeShapes Go.WideShapes Go.ChangeAt Go.RowKit Go.Joins Go.Proofs.Ytkkapajpgfjomaa.Kit Go.Proofs.Ytkkapajpgfjomaa.Flt Go.Proofs.Ytkkapajpgfjomaa.Real Go.Proofs.Ytkkapajpgfjomaa.Mem Go.Proofs.Ytkkapajpgfjomaa.Gauge Go.Deep
open Ieee
set_option linter.unusedVariables false
set_option linter.unusedSimpArgs false
theorem near_true {a b y : Nat} (h : nearV a b y = true) : feqB a a = true ∧ feqB b b = true ∧ feqB y y = true := by
  unfold nearV at h
  split at h
  · rename_i z hz
    have hs := sub_ok hz
    unfold fleB at h
    rw [Bool.and_eq_true, Bool.and_eq_true] at h
    have hy : nanB y = false := by simpa using h.1.2
    rw [feq_self, feq_self, feq_self, hs.nx, hs.ny, hy]
    exact ⟨rfl, rfl, rfl⟩
  · cases h
set_option maxHeartbeats 2000000 in
theorem walk {w : World} {B n c : Nat} {A : Option Addr} {l : List Nat} (hr : SRow encF 1 w B A n l) (hB : B ≤ w.heap.size) (hfit : ∀ z ∈ l, z < 18446744073709551616) (a b y : Nat) : Calls Try.prog 5 #[.slice A n c, .float .f64 a, .float .f64 b, .float .f64 y] w fun e w' => e = .returned (.bool true) ∧ Below w.heap.size w w' := by
  have e1 := hr.1
  subst e1
  have HR := hide hr
  have hL := fun w => lives_any w
  by_cases h5 : 300 < l.length
  · clear hr hfit
    go_enter Try.func5, Try.ntmps5
    go_wp2_with (first | (go_at_call 8; refine (hL _).mono ?_; rintro e w1 ⟨rfl, hb⟩; obtain ⟨hS, hE, hz, hc, hf⟩ := bcell hb; (try simp only [go_sem] at hE); subst hE) | ((with_reducible change Code.wp _ (Code.region _ _ _) _ _ _); refine wp_region_quiet_below (by kernel_rfl) (by kernel_rfl) ?_; (repeat (first | go_big_quiet_step ((first | (go_at_call 8; exact Calls.regrown_of (hL _)))) | quiet_step ((first | (go_at_call 8; exact Calls.regrown_of (hL _)))))); refine wpQuiet_nil ?_; intro w1 hw1; have hb := below_of_regrown hw1; clear hw1; obtain ⟨hS, hE, hz, hc, hf⟩ := bcell hb; (try simp only [go_sem] at hE); subst hE))
    go_ret
    exact ⟨rfl, (by repeat' (first | (with_reducible exact Below.refl _ _) | (with_reducible refine below_drewN ?_ _) | (with_reducible refine Below.drew ?_) | (with_reducible refine Below.alloc ?_ ?_ _) | (with_reducible refine Below.setCell ?_ ?_ _) | (with_reducible refine below_step ?_ (by assumption) ?_) | (with_reducible refine below_step ?_ (below_regrown _ _ _) ?_) | go_size))⟩
  have M1 := fun (w : World) h hB => most_any (w := w) (B := B) (n := l.length) (c := c) (A := A) (l := l) h hB (by omega) (fit_get hfit)
  have M2 := fun (w : World) h hB => rmost_any (w := w) (B := B) (n := l.length) (c := c) (A := A) (l := l) h hB (by omega) (fit_get hfit)
  have N1 := fun w => near_any a b y w
  have N2 := fun w => rnear_any a b y w
  have hN := fun h => near_true (a := a) (b := b) (y := y) h
  clear hr hfit
  generalize mostV l l.length = m at *
  generalize nearV a b y = q at *
  cases q
  · clear hN
    go_enter Try.func5, Try.ntmps5
    go_wp2_with (first | (go_at_call 8; refine (hL _).mono ?_; rintro e w1 ⟨rfl, hb⟩; obtain ⟨hS, hE, hz, hc, hf⟩ := bcell hb; (try simp only [go_sem] at hE); subst hE) | (go_at_call 19; refine (M1 _ (srow_below HR.out (B1 := w.heap.size) (by repeat' (first | (with_reducible exact Below.refl _ _) | (with_reducible refine below_drewN ?_ _) | (with_reducible refine Below.drew ?_) | (with_reducible refine Below.alloc ?_ ?_ _) | (with_reducible refine Below.setCell ?_ ?_ _) | (with_reducible refine below_step ?_ (by assumption) ?_) | (with_reducible refine below_step ?_ (below_regrown _ _ _) ?_) | go_size)) hB) (by omega)).mono ?_; rintro e w1 ⟨rfl, hb⟩; obtain ⟨hS, hE, hz, hc, hf⟩ := bcell hb; (try simp only [go_sem] at hE); subst hE) | (go_at_call 20; refine (M2 _ (srow_below HR.out (B1 := w.heap.size) (by repeat' (first | (with_reducible exact Below.refl _ _) | (with_reducible refine below_drewN ?_ _) | (with_reducible refine Below.drew ?_) | (with_reducible refine Below.alloc ?_ ?_ _) | (with_reducible refine Below.setCell ?_ ?_ _) | (with_reducible refine below_step ?_ (by assumption) ?_) | (with_reducible refine below_step ?_ (below_regrown _ _ _) ?_) | go_size)) hB) (by omega)).mono ?_; rintro e w1 ⟨rfl, hb⟩; obtain ⟨hS, hE, hz, hc, hf⟩ := bcell hb; (try simp only [go_sem] at hE); subst hE) | (go_at_call 18; refine (N1 _).mono ?_; rintro e w1 ⟨rfl, hb⟩; obtain ⟨hS, hE, hz, hc, hf⟩ := bcell hb; (try simp only [go_sem] at hE); subst hE) | (go_at_call 21; refine (N2 _).mono ?_; rintro e w1 ⟨rfl, hb⟩; obtain ⟨hS, hE, hz, hc, hf⟩ := bcell hb; (try simp only [go_sem] at hE); subst hE) | ((with_reducible change Code.wp _ (Code.region _ _ _) _ _ _); refine wp_region_quiet_below (by kernel_rfl) (by kernel_rfl) ?_; (repeat (first | go_big_quiet_step ((first | (go_at_call 8; exact Calls.regrown_of (hL _)) | (go_at_call 19; exact Calls.regrown_of (M1 _ (srow_below HR.out (B1 := w.heap.size) (by repeat' (first | (with_reducible exact Below.refl _ _) | (with_reducible refine below_drewN ?_ _) | (with_reducible refine Below.drew ?_) | (with_reducible refine Below.alloc ?_ ?_ _) | (with_reducible refine Below.setCell ?_ ?_ _) | (with_reducible refine below_step ?_ (by assumption) ?_) | (with_reducible refine below_step ?_ (below_regrown _ _ _) ?_) | go_size)) hB) (by omega))) | (go_at_call 20; exact Calls.regrown_of (M2 _ (srow_below HR.out (B1 := w.heap.size) (by repeat' (first | (with_reducible exact Below.refl _ _) | (with_reducible refine below_drewN ?_ _) | (with_reducible refine Below.drew ?_) | (with_reducible refine Below.alloc ?_ ?_ _) | (with_reducible refine Below.setCell ?_ ?_ _) | (with_reducible refine below_step ?_ (by assumption) ?_) | (with_reducible refine below_step ?_ (below_regrown _ _ _) ?_) | go_size)) hB) (by omega))) | (go_at_call 18; exact Calls.regrown_of (N1 _)) | (go_at_call 21; exact Calls.regrown_of (N2 _)))) | quiet_step ((first | (go_at_call 8; exact Calls.regrown_of (hL _)) | (go_at_call 19; exact Calls.regrown_of (M1 _ (srow_below HR.out (B1 := w.heap.size) (by repeat' (first | (with_reducible exact Below.refl _ _) | (with_reducible refine below_drewN ?_ _) | (with_reducible refine Below.drew ?_) | (with_reducible refine Below.alloc ?_ ?_ _) | (with_reducible refine Below.setCell ?_ ?_ _) | (with_reducible refine below_step ?_ (by assumption) ?_) | (with_reducible refine below_step ?_ (below_regrown _ _ _) ?_) | go_size)) hB) (by omega))) | (go_at_call 20; exact Calls.regrown_of (M2 _ (srow_below HR.out (B1 := w.heap.size) (by repeat' (first | (with_reducible exact Below.refl _ _) | (with_reducible refine below_drewN ?_ _) | (with_reducible refine Below.drew ?_) | (with_reducible refine Below.alloc ?_ ?_ _) | (with_reducible refine Below.setCell ?_ ?_ _) | (with_reducible refine below_step ?_ (by assumption) ?_) | (with_reducible refine below_step ?_ (below_regrown _ _ _) ?_) | go_size)) hB) (by omega))) | (go_at_call 18; exact Calls.regrown_of (N1 _)) | (go_at_call 21; exact Calls.regrown_of (N2 _)))))); refine wpQuiet_nil ?_; intro w1 hw1; have hb := below_of_regrown hw1; clear hw1; obtain ⟨hS, hE, hz, hc, hf⟩ := bcell hb; (try simp only [go_sem] at hE); subst hE))
    go_ret
    exact ⟨rfl, (by repeat' (first | (with_reducible exact Below.refl _ _) | (with_reducible refine below_drewN ?_ _) | (with_reducible refine Below.drew ?_) | (with_reducible refine Below.alloc ?_ ?_ _) | (with_reducible refine Below.setCell ?_ ?_ _) | (with_reducible refine below_step ?_ (by assumption) ?_) | (with_reducible refine below_step ?_ (below_regrown _ _ _) ?_) | go_size))⟩
  · obtain ⟨n1, n2, n3⟩ := hN rfl
    clear hN
    go_enter Try.func5, Try.ntmps5
    go_wp2_with (first | (go_at_call 8; refine (hL _).mono ?_; rintro e w1 ⟨rfl, hb⟩; obtain ⟨hS, hE, hz, hc, hf⟩ := bcell hb; (try simp only [go_sem] at hE); subst hE) | (go_at_call 19; refine (M1 _ (srow_below HR.out (B1 := w.heap.size) (by repeat' (first | (with_reducible exact Below.refl _ _) | (with_reducible refine below_drewN ?_ _) | (with_reducible refine Below.drew ?_) | (with_reducible refine Below.alloc ?_ ?_ _) | (with_reducible refine Below.setCell ?_ ?_ _) | (with_reducible refine below_step ?_ (by assumption) ?_) | (with_reducible refine below_step ?_ (below_regrown _ _ _) ?_) | go_size)) hB) (by omega)).mono ?_; rintro e w1 ⟨rfl, hb⟩; obtain ⟨hS, hE, hz, hc, hf⟩ := bcell hb; (try simp only [go_sem] at hE); subst hE) | (go_at_call 20; refine (M2 _ (srow_below HR.out (B1 := w.heap.size) (by repeat' (first | (with_reducible exact Below.refl _ _) | (with_reducible refine below_drewN ?_ _) | (with_reducible refine Below.drew ?_) | (with_reducible refine Below.alloc ?_ ?_ _) | (with_reducible refine Below.setCell ?_ ?_ _) | (with_reducible refine below_step ?_ (by assumption) ?_) | (with_reducible refine below_step ?_ (below_regrown _ _ _) ?_) | go_size)) hB) (by omega)).mono ?_; rintro e w1 ⟨rfl, hb⟩; obtain ⟨hS, hE, hz, hc, hf⟩ := bcell hb; (try simp only [go_sem] at hE); subst hE) | (go_at_call 18; refine (N1 _).mono ?_; rintro e w1 ⟨rfl, hb⟩; obtain ⟨hS, hE, hz, hc, hf⟩ := bcell hb; (try simp only [go_sem] at hE); subst hE) | (go_at_call 21; refine (N2 _).mono ?_; rintro e w1 ⟨rfl, hb⟩; obtain ⟨hS, hE, hz, hc, hf⟩ := bcell hb; (try simp only [go_sem] at hE); subst hE) | ((with_reducible change Code.wp _ (Code.region _ _ _) _ _ _); refine wp_region_quiet_below (by kernel_rfl) (by kernel_rfl) ?_; (repeat (first | go_big_quiet_step ((first | (go_at_call 8; exact Calls.regrown_of (hL _)) | (go_at_call 19; exact Calls.regrown_of (M1 _ (srow_below HR.out (B1 := w.heap.size) (by repeat' (first | (with_reducible exact Below.refl _ _) | (with_reducible refine below_drewN ?_ _) | (with_reducible refine Below.drew ?_) | (with_reducible refine Below.alloc ?_ ?_ _) | (with_reducible refine Below.setCell ?_ ?_ _) | (with_reducible refine below_step ?_ (by assumption) ?_) | (with_reducible refine below_step ?_ (below_regrown _ _ _) ?_) | go_size)) hB) (by omega))) | (go_at_call 20; exact Calls.regrown_of (M2 _ (srow_below HR.out (B1 := w.heap.size) (by repeat' (first | (with_reducible exact Below.refl _ _) | (with_reducible refine below_drewN ?_ _) | (with_reducible refine Below.drew ?_) | (with_reducible refine Below.alloc ?_ ?_ _) | (with_reducible refine Below.setCell ?_ ?_ _) | (with_reducible refine below_step ?_ (by assumption) ?_) | (with_reducible refine below_step ?_ (below_regrown _ _ _) ?_) | go_size)) hB) (by omega))) | (go_at_call 18; exact Calls.regrown_of (N1 _)) | (go_at_call 21; exact Calls.regrown_of (N2 _)))) | quiet_step ((first | (go_at_call 8; exact Calls.regrown_of (hL _)) | (go_at_call 19; exact Calls.regrown_of (M1 _ (srow_below HR.out (B1 := w.heap.size) (by repeat' (first | (with_reducible exact Below.refl _ _) | (with_reducible refine below_drewN ?_ _) | (with_reducible refine Below.drew ?_) | (with_reducible refine Below.alloc ?_ ?_ _) | (with_reducible refine Below.setCell ?_ ?_ _) | (with_reducible refine below_step ?_ (by assumption) ?_) | (with_reducible refine below_step ?_ (below_regrown _ _ _) ?_) | go_size)) hB) (by omega))) | (go_at_call 20; exact Calls.regrown_of (M2 _ (srow_below HR.out (B1 := w.heap.size) (by repeat' (first | (with_reducible exact Below.refl _ _) | (with_reducible refine below_drewN ?_ _) | (with_reducible refine Below.drew ?_) | (with_reducible refine Below.alloc ?_ ?_ _) | (with_reducible refine Below.setCell ?_ ?_ _) | (with_reducible refine below_step ?_ (by assumption) ?_) | (with_reducible refine below_step ?_ (below_regrown _ _ _) ?_) | go_size)) hB) (by omega))) | (go_at_call 18; exact Calls.regrown_of (N1 _)) | (go_at_call 21; exact Calls.regrown_of (N2 _)))))); refine wpQuiet_nil ?_; intro w1 hw1; have hb := below_of_regrown hw1; clear hw1; obtain ⟨hS, hE, hz, hc, hf⟩ := bcell hb; (try simp only [go_sem] at hE); subst hE))
    go_ret
    exact ⟨rfl, (by repeat' (first | (with_reducible exact Below.refl _ _) | (with_reducible refine below_drewN ?_ _) | (with_reducible refine Below.drew ?_) | (with_reducible refine Below.alloc ?_ ?_ _) | (with_reducible refine Below.setCell ?_ ?_ _) | (with_reducible refine below_step ?_ (by assumption) ?_) | (with_reducible refine below_step ?_ (below_regrown _ _ _) ?_) | go_size))⟩
theorem law : Law Try.checked 5 Try.f5 := by
  intro H enc W base args ds ps hval hA _
  have hA1 : DataW.TrodAll enc Try.prog W 0 (fun _ => true) true Try.f5.params.toList args.toList ds ps := hA
  rw [Try.params5] at hA1 hval
  obtain ⟨v0, vs0, d0, ds0, p0, q0, hargs, rfl, rfl, h0, r0⟩ := trodAll_cons hA1
  obtain ⟨v1, vs1, d1, ds1, p1, q1, rfl, rfl, rfl, h1, r1⟩ := trodAll_cons r0
  obtain ⟨v2, vs2, d2, ds2, p2, q2, rfl, rfl, rfl, h2, r2⟩ := trodAll_cons r1
  obtain ⟨v3, vs3, d3, ds3, p3, q3, rfl, rfl, rfl, h3, r3⟩ := trodAll_cons r2
  obtain ⟨rfl, rfl, rfl⟩ := trodAll_nil r3
  obtain rfl : args = #[v0, v1, v2, v3] := by cases args; simp_all
  obtain ⟨A, len, cap, l, rfl, k1, k2, k3, k4, k5⟩ := arg_floats Try.underlying29 Try.underlying32 (by kernel_rfl) (hval 0 _ v0 rfl rfl) h0
  obtain ⟨x, rfl, rfl, rfl, hx⟩ := open_float Try.underlying32 (hval 1 _ v1 rfl rfl) h1
  obtain ⟨y, rfl, rfl, rfl, hy⟩ := open_float Try.underlying32 (hval 2 _ v2 rfl rfl) h2
  obtain ⟨z, rfl, rfl, rfl, hz⟩ := open_float Try.underlying32 (hval 3 _ v3 rfl rfl) h3
  exact walk (srow_of_floats k3 k4) (Nat.le_refl _) k5 x y z

set_option maxRecDepth 100000 in
theorem step (os : Os) (started : os.Started) (H : Type) (enc : TypeId × Value → H) :
    ReturnsInHanded {} Try.checked os 5 .any (Rows.gaugeMostSpec.pre6 enc Try.prog Try.f5 Rows.gaugeMostRow.domain false) (Rows.gaugeMostSpec.post enc Try.prog Try.f5 false true false false) :=
  lifted (C := Try.checked) (s := Rows.gaugeMostSpec) own started (by kernel_rfl) Try.func5
    (ChangeSpec.witness6 (enc := enc) (C := Try.checked) false ⟨#[], #[.slice none 0 0, .float .f64 0, .float .f64 0, .float .f64 0], []⟩ 8 (by kernel_rfl) (by kernel_rfl) (by kernel_rfl) (by kernel_rfl))
    laidOut (by kernel_rfl) (by kernel_rfl) Try.underlying4 rfl (fun ds h => by match ds, h with | [d0, d1, d2, d3], _ => rfl) law
set_option maxRecDepth 100000 in
theorem over : Rows.gaugeMostRow.holds Try.pinned (OpenSpec.ofChange Rows.gaugeMostSpec) :=
  OpenClaim.holds_of_wide 5 Try.f5 rfl rfl rfl rfl rfl rfl rfl ⟨rfl, rfl, rfl, rfl, rfl⟩ rfl rfl rfl rfl rfl (by kernel_rfl) Try.func5 (by kernel_rfl)
    (of_decide_eq_true (by kernel_rfl)) (by unfold Func.isWrapper; first | (rw [if_pos (by decide +kernel)]; kernel_rfl) | (rw [if_neg (by decide +kernel)]; exact ⟨rfl, rfl⟩))
    (fun os started H enc _ => step os started H enc)
theorem proved : Rows.GaugeMostSaid := over
#print axioms proved

end Go.Proofs.Ytkkapajpgfjomaa.GaugeMost
