/- GaugeMeans: the mean and the middle of any floats, to the last bit. Condition: none beyond the row's own. -/
import Derived.Test.YtkkapajpgfjomaaGw
namespace Go.Proofs.Ytkkapajpgfjomaa.GaugeMeans
open Go.ChangeShapes Go.WideShapes Go.ChangeAt Go.RowKit Go.Joins Go.Proofs.Ytkkapajpgfjomaa.Kit Go.Proofs.Ytkkapajpgfjomaa.Flt Go.Proofs.Ytkkapajpgfjomaa.Real Go.Proofs.Ytkkapajpgfjomaa.Mem Go.Proofs.Ytkkapajpgfjomaa.Gauge Go.Deep
set_option linter.unusedVariables false
set_option linter.unusedSimpArgs false
set_option maxHeartbeats 2000000 in
theorem walk {w : World} {B n c : Nat} {A : Option Addr} {l : List Nat} (hr : SRow encF 1 w B A n l) (hB : B ≤ w.heap.size) (hfit : ∀ z ∈ l, z < 18446744073709551616) : Calls Try.prog 4 #[.slice A n c] w fun e w' => e = .returned (.bool true) ∧ Below w.heap.size w w' := by
  have e1 := hr.1
  subst e1
  have HR := hide hr
  have hL := fun w => lives_any w
  by_cases h5 : 300 < l.length
  · clear hr hfit
    go_enter Try.func4, Try.ntmps4
    go_wp2_with (first | (go_at_call 8; refine (hL _).mono ?_; rintro e w1 ⟨rfl, hb⟩; obtain ⟨hS, hE, hz, hc, hf⟩ := bcell hb; (try simp only [go_sem] at hE); subst hE) | ((with_reducible change Code.wp _ (Code.region _ _ _) _ _ _); refine wp_region_quiet_below (by kernel_rfl) (by kernel_rfl) ?_; (repeat (first | go_big_quiet_step ((first | (go_at_call 8; exact Calls.regrown_of (hL _)))) | quiet_step ((first | (go_at_call 8; exact Calls.regrown_of (hL _)))))); refine wpQuiet_nil ?_; intro w1 hw1; have hb := below_of_regrown hw1; clear hw1; obtain ⟨hS, hE, hz, hc, hf⟩ := bcell hb; (try simp only [go_sem] at hE); subst hE))
    go_ret
    exact ⟨rfl, (by repeat' (first | (with_reducible exact Below.refl _ _) | (with_reducible refine below_drewN ?_ _) | (with_reducible refine Below.drew ?_) | (with_reducible refine Below.alloc ?_ ?_ _) | (with_reducible refine Below.setCell ?_ ?_ _) | (with_reducible refine below_step ?_ (by assumption) ?_) | (with_reducible refine below_step ?_ (below_regrown _ _ _) ?_) | go_size))⟩
  have M1 := fun (w : World) h hB => mean_any (w := w) (B := B) (n := l.length) (c := c) (A := A) (l := l) h hB (by omega)
  have M2 := fun (w : World) h hB => rmean_any (w := w) (B := B) (n := l.length) (c := c) (A := A) (l := l) h hB (by omega)
  have D1 := fun (w : World) h hB => middle_any (w := w) (B := B) (n := l.length) (c := c) (A := A) (l := l) h hB (by omega) hfit
  have D2 := fun (w : World) h hB => rmiddle_any (w := w) (B := B) (n := l.length) (c := c) (A := A) (l := l) h hB (by omega) hfit
  clear hr hfit
  generalize meanO l = om at *
  generalize midO (numsV l) = od at *
  go_enter Try.func4, Try.ntmps4
  go_wp2_with (first | (go_at_call 8; refine (hL _).mono ?_; rintro e w1 ⟨rfl, hb⟩; obtain ⟨hS, hE, hz, hc, hf⟩ := bcell hb; (try simp only [go_sem] at hE); subst hE) | (go_at_call 14; refine (M1 _ (srow_below HR.out (B1 := w.heap.size) (by repeat' (first | (with_reducible exact Below.refl _ _) | (with_reducible refine below_drewN ?_ _) | (with_reducible refine Below.drew ?_) | (with_reducible refine Below.alloc ?_ ?_ _) | (with_reducible refine Below.setCell ?_ ?_ _) | (with_reducible refine below_step ?_ (by assumption) ?_) | (with_reducible refine below_step ?_ (below_regrown _ _ _) ?_) | go_size)) hB) (by omega)).mono ?_; rintro e w1 ⟨r1, rfl, h1, hb⟩; have h1 := hide h1; obtain ⟨hS, hE, hz, hc, hf⟩ := bcell hb; (try simp only [go_sem] at hE); subst hE) | (go_at_call 15; refine (M2 _ (srow_below HR.out (B1 := w.heap.size) (by repeat' (first | (with_reducible exact Below.refl _ _) | (with_reducible refine below_drewN ?_ _) | (with_reducible refine Below.drew ?_) | (with_reducible refine Below.alloc ?_ ?_ _) | (with_reducible refine Below.setCell ?_ ?_ _) | (with_reducible refine below_step ?_ (by assumption) ?_) | (with_reducible refine below_step ?_ (below_regrown _ _ _) ?_) | go_size)) hB) (by omega)).mono ?_; rintro e w2 ⟨r2, rfl, h2, hb⟩; have h2 := hide h2; obtain ⟨hS, hE, hz, hc, hf⟩ := bcell hb; (try simp only [go_sem] at hE); subst hE) | (go_at_call 16; refine (D1 _ (srow_below HR.out (B1 := w.heap.size) (by repeat' (first | (with_reducible exact Below.refl _ _) | (with_reducible refine below_drewN ?_ _) | (with_reducible refine Below.drew ?_) | (with_reducible refine Below.alloc ?_ ?_ _) | (with_reducible refine Below.setCell ?_ ?_ _) | (with_reducible refine below_step ?_ (by assumption) ?_) | (with_reducible refine below_step ?_ (below_regrown _ _ _) ?_) | go_size)) hB) (by omega)).mono ?_; rintro e w3 ⟨r3, rfl, h3, hb⟩; have h3 := hide h3; obtain ⟨hS, hE, hz, hc, hf⟩ := bcell hb; (try simp only [go_sem] at hE); subst hE) | (go_at_call 17; refine (D2 _ (srow_below HR.out (B1 := w.heap.size) (by repeat' (first | (with_reducible exact Below.refl _ _) | (with_reducible refine below_drewN ?_ _) | (with_reducible refine Below.drew ?_) | (with_reducible refine Below.alloc ?_ ?_ _) | (with_reducible refine Below.setCell ?_ ?_ _) | (with_reducible refine below_step ?_ (by assumption) ?_) | (with_reducible refine below_step ?_ (below_regrown _ _ _) ?_) | go_size)) hB) (by omega)).mono ?_; rintro e w4 ⟨r4, rfl, h4, hb⟩; have h4 := hide h4; obtain ⟨hS, hE, hz, hc, hf⟩ := bcell hb; (try simp only [go_sem] at hE); subst hE) | (go_at_call 10; (with_reducible refine (one_any om r1 r2 h1.out h2.out _).mono ?_); rintro e w9 ⟨rfl, rfl⟩) | (go_at_call 10; (with_reducible refine (one_any od r3 r4 h3.out h4.out _).mono ?_); rintro e w9 ⟨rfl, rfl⟩))
  go_ret
  exact ⟨rfl, (by repeat' (first | (with_reducible exact Below.refl _ _) | (with_reducible refine below_drewN ?_ _) | (with_reducible refine Below.drew ?_) | (with_reducible refine Below.alloc ?_ ?_ _) | (with_reducible refine Below.setCell ?_ ?_ _) | (with_reducible refine below_step ?_ (by assumption) ?_) | (with_reducible refine below_step ?_ (below_regrown _ _ _) ?_) | go_size))⟩
theorem law : Law Try.checked 4 Try.f4 := by
  intro H enc W base args ds ps hval hA _
  have hA1 : DataW.TrodAll enc Try.prog W 0 (fun _ => true) true Try.f4.params.toList args.toList ds ps := hA
  rw [Try.params4] at hA1 hval
  obtain ⟨v0, vs0, d0, ds0, p0, q0, hargs, rfl, rfl, h0, r0⟩ := trodAll_cons hA1
  obtain ⟨rfl, rfl, rfl⟩ := trodAll_nil r0
  obtain rfl : args = #[v0] := by cases args; simp_all
  obtain ⟨A, len, cap, l, rfl, h1, h2, h3, h4, h5⟩ := arg_floats Try.underlying29 Try.underlying32 (by kernel_rfl) (hval 0 _ v0 rfl rfl) h0
  exact walk (srow_of_floats h3 h4) (Nat.le_refl _) h5

set_option maxRecDepth 100000 in
theorem step (os : Os) (started : os.Started) (H : Type) (enc : TypeId × Value → H) :
    ReturnsInHanded {} Try.checked os 4 .any (Rows.gaugeMeansSpec.pre6 enc Try.prog Try.f4 Rows.gaugeMeansRow.domain false) (Rows.gaugeMeansSpec.post enc Try.prog Try.f4 false true false false) :=
  lifted (C := Try.checked) (s := Rows.gaugeMeansSpec) own started (by kernel_rfl) Try.func4
    (ChangeSpec.witness6 (enc := enc) (C := Try.checked) false ⟨#[], #[.slice none 0 0], []⟩ 8 (by kernel_rfl) (by kernel_rfl) (by kernel_rfl) (by kernel_rfl))
    laidOut (by kernel_rfl) (by kernel_rfl) Try.underlying4 rfl (fun ds h => by match ds, h with | [d0], _ => rfl) law
set_option maxRecDepth 100000 in
theorem over : Rows.gaugeMeansRow.holds Try.pinned (OpenSpec.ofChange Rows.gaugeMeansSpec) :=
  OpenClaim.holds_of_wide 4 Try.f4 rfl rfl rfl rfl rfl rfl rfl ⟨rfl, rfl, rfl, rfl, rfl⟩ rfl rfl rfl rfl rfl (by kernel_rfl) Try.func4 (by kernel_rfl)
    (of_decide_eq_true (by kernel_rfl)) (by unfold Func.isWrapper; first | (rw [if_pos (by decide +kernel)]; kernel_rfl) | (rw [if_neg (by decide +kernel)]; exact ⟨rfl, rfl⟩))
    (fun os started H enc _ => step os started H enc)
theorem proved : Rows.GaugeMeansSaid := over
#print axioms proved

end Go.Proofs.Ytkkapajpgfjomaa.GaugeMeans
