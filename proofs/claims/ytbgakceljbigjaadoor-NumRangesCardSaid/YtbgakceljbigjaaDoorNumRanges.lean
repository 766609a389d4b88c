/- For any number and any range the law 'NumRanges' returns true. Condition: the library's three tables are as the row lists them (tied to the program's text by the card). -/
import Derived.Test.YtbgakceljbigjaaDoorNumV
namespace Go.Proofs.YtbgakceljbigjaaDoor.NumRanges
open Go.ChangeShapes Go.WideShapes Go.ChangeAt Go.RowKit Go.Proofs.YtbgakceljbigjaaDoor.Kit Go.Proofs.YtbgakceljbigjaaDoor.Num Go.Deep Go.Proofs.YtbgakceljbigjaaDoor.Door
set_option linter.unusedVariables false
theorem walk (n low high : Int) (h1 : In64 low) (h2 : In64 high) (w : World) (h : Pow w) : Calls Tryd.prog 6 #[.int .i64 n, .int .i64 low, .int .i64 high] w fun e w' => e = .returned (.bool true) ∧ Below w.heap.size w w' := by
  have HP := hide h
  have B1 := fun w => between_any n low high w
  have B2 := fun w => rbetween_any n low high w
  have M1 := fun m hm w => mod_any n m w hm
  have M2 := fun m hm w => rmod_any n m w hm
  clear h
  go_enter Tryd.func6, Tryd.ntmps6
  go_wp2_with (first | (go_at_call 9; refine (lives_any _ HP.out).mono ?_; rintro e w1 ⟨rfl, hb⟩; obtain ⟨hS, hE, hz, hc, hf⟩ := bcell hb; (try simp only [go_sem] at hE); subst hE) | (go_at_call 17; refine (B1 _).mono ?_; rintro e w1 ⟨rfl, rfl⟩) | (go_at_call 18; refine (B2 _).mono ?_; rintro e w1 ⟨rfl, rfl⟩) | (go_at_call 19; refine (M1 _ (by assumption) _).mono ?_; rintro e w1 ⟨rfl, rfl⟩) | (go_at_call 20; refine (M2 _ (by assumption) _).mono ?_; rintro e w1 ⟨rfl, rfl⟩) | (refine wp_region_quiet_below (by kernel_rfl) (by kernel_rfl) ?_; (repeat (first | go_big_quiet_step ((first | (go_at_call 9; exact Calls.regrown_of (lives_any _ HP.out)) | (go_at_call 17; exact Calls.regrown_of (below_of_same (B1 _))) | (go_at_call 18; exact Calls.regrown_of (below_of_same (B2 _))) | (go_at_call 19; exact Calls.regrown_of (below_of_same (M1 _ (by assumption) _))) | (go_at_call 20; exact Calls.regrown_of (below_of_same (M2 _ (by assumption) _))))) | quiet_step ((first | (go_at_call 9; exact Calls.regrown_of (lives_any _ HP.out)) | (go_at_call 17; exact Calls.regrown_of (below_of_same (B1 _))) | (go_at_call 18; exact Calls.regrown_of (below_of_same (B2 _))) | (go_at_call 19; exact Calls.regrown_of (below_of_same (M1 _ (by assumption) _))) | (go_at_call 20; exact Calls.regrown_of (below_of_same (M2 _ (by assumption) _))))))); refine wpQuiet_nil ?_; intro w1 hw1; have hb := below_of_regrown hw1; clear hw1; obtain ⟨hS, hE, hz, hc, hf⟩ := bcell hb; (try simp only [go_sem] at hE); subst hE))
  go_ret
  exact ⟨rfl, (by repeat' (first | (with_reducible exact Below.refl _ _) | (with_reducible refine below_drewN ?_ _) | (with_reducible refine Below.drew ?_) | (with_reducible refine Below.alloc ?_ ?_ _) | (with_reducible refine Below.setCell ?_ ?_ _) | (with_reducible refine below_step ?_ (by assumption) ?_) | go_size))⟩
theorem law : LawL Tryd.checked Rows.numRangesRow.laid 6 Tryd.f6 := by
  intro H enc W base args ds ps hval hA _ hL
  have hA1 : DataW.TrodAll enc Tryd.prog W 0 (fun _ => true) true Tryd.f6.params.toList args.toList ds ps := hA
  rw [Tryd.params6] at hA1 hval
  obtain ⟨v0, vs0, d0, ds0, p0, q0, hargs, rfl, rfl, h0, r0⟩ := trodAll_cons hA1
  obtain ⟨v1, vs1, d1, ds1, p1, q1, rfl, rfl, rfl, h1, r1⟩ := trodAll_cons r0
  obtain ⟨v2, vs2, d2, ds2, p2, q2, rfl, rfl, rfl, h2, r2⟩ := trodAll_cons r1
  obtain ⟨rfl, rfl, rfl⟩ := trodAll_nil r2
  obtain rfl : args = #[v0, v1, v2] := by cases args; simp_all
  obtain ⟨a0, rfl, rfl, rfl, w0⟩ := open_int Tryd.underlying3 (hval 0 _ v0 rfl rfl) h0
  obtain ⟨a1, rfl, rfl, rfl, w1⟩ := open_int Tryd.underlying3 (hval 1 _ v1 rfl rfl) h1
  obtain ⟨a2, rfl, rfl, rfl, w2⟩ := open_int Tryd.underlying3 (hval 2 _ v2 rfl rfl) h2
  exact walk a0 a1 a2 (bounds_i64 w1) (bounds_i64 w2) W (pow_laid hL)

set_option maxRecDepth 100000 in
theorem met : Door.Met Rows.numRangesRow.laid := fun os args =>
  laidMetH_of_parts3 (fuel := 8) (laidMet_of_run' 8 (by kernel_rfl) (by kernel_rfl)) (by kernel_rfl) (by kernel_rfl)
set_option maxRecDepth 100000 in
theorem step (os : Os) (started : os.Started) (H : Type) (enc : TypeId × Value → H) :
    ReturnsInHanded {} Tryd.checked os 6 .any (fun w args => (Rows.numRangesSpec.pre enc Tryd.prog Tryd.f6 Rows.numRangesRow.domain false w args ∧ laidMetH Tryd.prog Rows.numRangesRow.laid w) ∧ sizedMet enc Tryd.prog Tryd.f6 (OpenSpec.ofChange Rows.numRangesSpec) false w args) (Rows.numRangesSpec.post enc Tryd.prog Tryd.f6 false true false false) :=
  Door.liftedL (C := Tryd.checked) (L := Rows.numRangesRow.laid) (s := Rows.numRangesSpec) own started (by kernel_rfl) Tryd.func6
    (ChangeSpec.witness_shaped (enc := enc) (C := Tryd.checked) (os := os) (X := fun w _ => laidMetH Tryd.prog Rows.numRangesRow.laid w) false (World.doorLaid Tryd.prog 400 os) #[.int .i64 0, .int .i64 0, .int .i64 0] 8 rfl (World.shaped_of_RefB (by kernel_rfl) (by kernel_rfl)) (by kernel_rfl) (by kernel_rfl) (by kernel_rfl) (met os _))
    laidOut (by kernel_rfl) (by kernel_rfl) Tryd.underlying4 rfl (fun ds h => by match ds, h with | [d0, d1, d2], _ => rfl) law
set_option maxRecDepth 100000 in
theorem over : Rows.numRangesRow.holds Tryd.pinned (OpenSpec.ofChange Rows.numRangesSpec) :=
  OpenClaim.holds_of_wide 6 Tryd.f6 rfl rfl rfl rfl rfl rfl rfl ⟨rfl, rfl, rfl, rfl, rfl⟩ rfl rfl rfl rfl rfl (by kernel_rfl) Tryd.func6 (by kernel_rfl)
    (of_decide_eq_true (by kernel_rfl)) (by unfold Func.isWrapper; first | (rw [if_pos (by decide +kernel)]; kernel_rfl) | (rw [if_neg (by decide +kernel)]; exact ⟨rfl, rfl⟩))
    (fun os started H enc _ => step os started H enc)
theorem proved : Rows.NumRangesCardSaid :=
  Claim7.holds_tied_plain_at .later [] Rows.numRangesCard.laidKinds true Rows.numRangesCard.stood.harness Rows.numRangesCard.stood.looks
    over (fun _ h => by cases h) (by kernel_rfl) (fun _ h => by cases h) numRanges_row_tie rfl ⟨rfl, rfl⟩ (by kernel_rfl) rfl
    (fun f fn hf hfn => by
      obtain rfl : f = 6 := Option.some.inj ((show Tryd.prog.funcNamed Rows.numRangesRow.func = some 6 by kernel_rfl).symm.trans hf) |>.symm
      obtain rfl : fn = Tryd.f6 := (Option.some.inj (Tryd.func6.symm.trans hfn)).symm
      exact ⟨by kernel_rfl, fun j t ht => by
        have hall : (Tryd.f6.params.toList.all fun u => !Tryd.prog.wantsStandIn u) = true := by kernel_rfl
        exact (show Tryd.prog.wantsStandIn t = false by simpa using List.all_eq_true.1 hall t (Array.mem_toList_iff.2 (Array.mem_of_getElem? ht)))⟩)
    (by kernel_rfl)
#print axioms proved

end Go.Proofs.YtbgakceljbigjaaDoor.NumRanges
