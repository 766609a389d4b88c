/- For every question the law 'PackNobody' returns true: a nil reader answers as the document says. No condition. -/
import Derived.Test.YtibfjbapicjicabPackLives
namespace Go.Proofs.Ytibfjbapicjicab.PackNobody
open Go.ChangeShapes Go.WideShapes Go.ChangeAt Go.RowKit Go.Proofs.Ytibfjbapicjicab.Kit Go.Proofs.Ytibfjbapicjicab.Mem Go.Proofs.Ytibfjbapicjicab.Pack Go.Joins
set_option linter.unusedVariables false
theorem walk (d n : Int) (w : World) : Calls Try.prog 5 #[.agg #[.int .i64 d, .int .i64 n]] w fun e w' => e = .returned (.bool true) ∧ Below w.heap.size w w' := by
  go_enter Try.func5, Try.ntmps5
  go_wp2_with (first | (go_at_call 18; refine (nil_end _).mono ?_; rintro e w1 ⟨rfl, rfl⟩) | (go_at_call 19; refine (nil_fail _ _).mono ?_; rintro e w1 ⟨rfl, rfl⟩) | (go_at_call 7; refine (lives_any _).mono ?_; rintro e w1 ⟨rfl, hb⟩; obtain ⟨hS, hE, hz, hc, hf⟩ := bcell hb; (try simp only [go_sem] at hE); subst hE) | (go_at_call 13; refine (nil_u _ _).mono ?_; rintro e w1 ⟨rfl, rfl⟩) | (go_at_call 20; refine (nil_i _ _).mono ?_; rintro e w1 ⟨rfl, rfl⟩) | (go_at_call 12; refine (nil_take _ _).mono ?_; rintro e w1 ⟨rfl, rfl⟩) | (go_at_call 17; refine (nil_at _).mono ?_; rintro e w1 ⟨rfl, rfl⟩) | (go_at_call 15; refine (nil_left _).mono ?_; rintro e w1 ⟨rfl, rfl⟩) | (go_at_call 14; refine (nil_err _).mono ?_; rintro e w1 ⟨rfl, rfl⟩) | (refine wp_region_quiet_below (by kernel_rfl) (by kernel_rfl) ?_; (repeat (first | go_big_quiet_step ((first | (go_at_call 18; exact Calls.regrown_of (below_of_same (nil_end _))) | (go_at_call 19; exact Calls.regrown_of (below_of_same (nil_fail _ _))) | (go_at_call 7; exact Calls.regrown_of (lives_any _)) | (go_at_call 13; exact Calls.regrown_of (below_of_same (nil_u _ _))) | (go_at_call 20; exact Calls.regrown_of (below_of_same (nil_i _ _))) | (go_at_call 12; exact Calls.regrown_of (below_of_same (nil_take _ _))) | (go_at_call 17; exact Calls.regrown_of (below_of_same (nil_at _))) | (go_at_call 15; exact Calls.regrown_of (below_of_same (nil_left _))) | (go_at_call 14; exact Calls.regrown_of (below_of_same (nil_err _))))) | quiet_step ((first | (go_at_call 18; exact Calls.regrown_of (below_of_same (nil_end _))) | (go_at_call 19; exact Calls.regrown_of (below_of_same (nil_fail _ _))) | (go_at_call 7; exact Calls.regrown_of (lives_any _)) | (go_at_call 13; exact Calls.regrown_of (below_of_same (nil_u _ _))) | (go_at_call 20; exact Calls.regrown_of (below_of_same (nil_i _ _))) | (go_at_call 12; exact Calls.regrown_of (below_of_same (nil_take _ _))) | (go_at_call 17; exact Calls.regrown_of (below_of_same (nil_at _))) | (go_at_call 15; exact Calls.regrown_of (below_of_same (nil_left _))) | (go_at_call 14; exact Calls.regrown_of (below_of_same (nil_err _))))))); refine wpQuiet_nil ?_; intro w1 hw1; have hb := below_of_regrown hw1; clear hw1; obtain ⟨hS, hE, hz, hc, hf⟩ := bcell hb; (try simp only [go_sem] at hE); subst hE))
  go_ret
  exact ⟨rfl, (by repeat' (first | (with_reducible exact Below.refl _ _) | (with_reducible refine below_drewN ?_ _) | (with_reducible refine Below.drew ?_) | (with_reducible refine Below.alloc ?_ ?_ _) | (with_reducible refine Below.setCell ?_ ?_ _) | (with_reducible refine below_step ?_ (by assumption) ?_) | go_size))⟩
theorem law : Law Try.checked 5 Try.f5 := by
  intro H enc W base args ds ps hval hA _
  have hA1 : DataW.TrodAll enc Try.prog W 0 (fun _ => true) true Try.f5.params.toList args.toList ds ps := hA
  rw [Try.params5] at hA1 hval
  obtain ⟨v0, vs0, d0, ds0, p0, q0, hargs, rfl, rfl, h0, r0⟩ := trodAll_cons hA1
  obtain ⟨rfl, rfl, rfl⟩ := trodAll_nil r0
  obtain rfl : args = #[v0] := by cases args; simp_all
  obtain ⟨a, b, rfl, -, -⟩ := arg_ints2 Try.underlying41 (by kernel_rfl) (by kernel_rfl) Try.underlying3 Try.underlying3 (hval 0 _ v0 rfl rfl) h0
  exact walk a b W

set_option maxRecDepth 100000 in
theorem step (os : Os) (started : os.Started) (H : Type) (enc : TypeId × Value → H) :
    ReturnsInHanded {} Try.checked os 5 .any (Rows.packNobodySpec.pre6 enc Try.prog Try.f5 Rows.packNobodyRow.domain false) (Rows.packNobodySpec.post enc Try.prog Try.f5 false true false false) :=
  lifted (C := Try.checked) (s := Rows.packNobodySpec) own started (by kernel_rfl) Try.func5
    (ChangeSpec.witness6 (enc := enc) (C := Try.checked) false ⟨#[], #[.agg #[.int .i64 0, .int .i64 0]], []⟩ 8 (by kernel_rfl) (by kernel_rfl) (by kernel_rfl) (by kernel_rfl))
    laidOut (by kernel_rfl) (by kernel_rfl) Try.underlying4 rfl (fun ds h => by match ds, h with | [d0], _ => rfl) law
set_option maxRecDepth 100000 in
theorem over : Rows.packNobodyRow.holds Try.pinned (OpenSpec.ofChange Rows.packNobodySpec) :=
  OpenClaim.holds_of_wide 5 Try.f5 rfl rfl rfl rfl rfl rfl rfl ⟨rfl, rfl, rfl, rfl, rfl⟩ rfl rfl rfl rfl rfl (by kernel_rfl) Try.func5 (by kernel_rfl)
    (of_decide_eq_true (by kernel_rfl)) (by unfold Func.isWrapper; first | (rw [if_pos (by decide +kernel)]; kernel_rfl) | (rw [if_neg (by decide +kernel)]; exact ⟨rfl, rfl⟩))
    (fun os started H enc _ => step os started H enc)
theorem proved : Rows.PackNobodySaid := over
#print axioms proved

end Go.Proofs.Ytibfjbapicjicab.PackNobody
