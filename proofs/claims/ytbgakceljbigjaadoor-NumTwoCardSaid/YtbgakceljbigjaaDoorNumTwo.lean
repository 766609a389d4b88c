/- For any two numbers the law 'NumTwo' returns true. Condition: the library's three tables are as the row lists them (tied to the program's text by the card). -/
import Derived.Test.YtbgakceljbigjaaDoorNumV
import Derived.Test.YtbgakceljbigjaaDoorNumM
namespace Go.Proofs.YtbgakceljbigjaaDoor.NumTwo
open Go.ChangeShapes Go.WideShapes Go.ChangeAt Go.RowKit Go.Proofs.YtbgakceljbigjaaDoor.Kit Go.Proofs.YtbgakceljbigjaaDoor.Num Go.Deep Go.Proofs.YtbgakceljbigjaaDoor.Door Go.Proofs.YtbgakceljbigjaaDoor.Wide
set_option linter.unusedVariables false
set_option maxHeartbeats 1000000 in
theorem walk (a b : Int) (ha : In64 a) (hb : In64 b) (w : World) (h : Pow w) : Calls Tryd.prog 7 #[.int .i64 a, .int .i64 b] w fun e w' => e = .returned (.bool true) ∧ Below w.heap.size w w' := by
  have HP := hide h
  have A1 := fun w => add_any a b w ha hb
  have A2 := fun w => radd_any a b w ha hb
  have A3 := fun w => sub_any a b w ha hb
  have A4 := fun w => rsub_any a b w ha hb
  have A5 := fun w => mul_any a b w ha hb
  have A6 := fun w => rmul_any a b w ha hb
  clear h
  generalize oneW (a + b) = s at *
  generalize oneW (a - b) = d at *
  generalize oneW (a * b) = p at *
  go_enter Tryd.func7, Tryd.ntmps7
  go_wp2_with (first | (go_at_call 9; refine (lives_any _ (HP.out.below (B := w.heap.size) (by repeat' (first | (with_reducible exact Below.refl _ _) | (with_reducible refine below_drewN ?_ _) | (with_reducible refine Below.drew ?_) | (with_reducible refine Below.alloc ?_ ?_ _) | (with_reducible refine Below.setCell ?_ ?_ _) | (with_reducible refine below_step ?_ (by assumption) ?_) | go_size)) (by omega))).mono ?_; rintro e w1 ⟨rfl, hb⟩; obtain ⟨hS, hE, hz, hc, hf⟩ := bcell hb; (try simp only [go_sem] at hE); subst hE) | (go_at_call 21; refine (A1 _).mono ?_; rintro e w1 ⟨rfl, hb⟩; obtain ⟨hS, hE, hz, hc, hf⟩ := bcell hb; (try simp only [go_sem] at hE); subst hE) | (go_at_call 24; refine (A2 _).mono ?_; rintro e w1 ⟨rfl, rfl⟩) | (go_at_call 22; refine (A3 _).mono ?_; rintro e w1 ⟨rfl, hb⟩; obtain ⟨hS, hE, hz, hc, hf⟩ := bcell hb; (try simp only [go_sem] at hE); subst hE) | (go_at_call 25; refine (A4 _).mono ?_; rintro e w1 ⟨rfl, rfl⟩) | (go_at_call 23; refine (A5 _).mono ?_; rintro e w1 ⟨rfl, hb⟩; obtain ⟨hS, hE, hz, hc, hf⟩ := bcell hb; (try simp only [go_sem] at hE); subst hE) | (go_at_call 26; refine (A6 _).mono ?_; rintro e w1 ⟨rfl, rfl⟩) | (refine wp_region_quiet_below (by kernel_rfl) (by kernel_rfl) ?_; (repeat (first | go_big_quiet_step ((first | (go_at_call 9; exact Calls.regrown_of (lives_any _ (HP.out.below (B := w.heap.size) (by repeat' (first | (with_reducible exact Below.refl _ _) | (with_reducible refine below_drewN ?_ _) | (with_reducible refine Below.drew ?_) | (with_reducible refine Below.alloc ?_ ?_ _) | (with_reducible refine Below.setCell ?_ ?_ _) | (with_reducible refine below_step ?_ (by assumption) ?_) | go_size)) (by omega)))) | (go_at_call 21; exact Calls.regrown_of (A1 _)) | (go_at_call 24; exact Calls.regrown_of (below_of_same (A2 _))) | (go_at_call 22; exact Calls.regrown_of (A3 _)) | (go_at_call 25; exact Calls.regrown_of (below_of_same (A4 _))) | (go_at_call 23; exact Calls.regrown_of (A5 _)) | (go_at_call 26; exact Calls.regrown_of (below_of_same (A6 _))))) | quiet_step ((first | (go_at_call 9; exact Calls.regrown_of (lives_any _ (HP.out.below (B := w.heap.size) (by repeat' (first | (with_reducible exact Below.refl _ _) | (with_reducible refine below_drewN ?_ _) | (with_reducible refine Below.drew ?_) | (with_reducible refine Below.alloc ?_ ?_ _) | (with_reducible refine Below.setCell ?_ ?_ _) | (with_reducible refine below_step ?_ (by assumption) ?_) | go_size)) (by omega)))) | (go_at_call 21; exact Calls.regrown_of (A1 _)) | (go_at_call 24; exact Calls.regrown_of (below_of_same (A2 _))) | (go_at_call 22; exact Calls.regrown_of (A3 _)) | (go_at_call 25; exact Calls.regrown_of (below_of_same (A4 _))) | (go_at_call 23; exact Calls.regrown_of (A5 _)) | (go_at_call 26; exact Calls.regrown_of (below_of_same (A6 _))))))); refine wpQuiet_nil ?_; intro w1 hw1; have hb := below_of_regrown hw1; clear hw1; obtain ⟨hS, hE, hz, hc, hf⟩ := bcell hb; (try simp only [go_sem] at hE); subst hE))
  go_ret
  exact ⟨rfl, (by repeat' (first | (with_reducible exact Below.refl _ _) | (with_reducible refine below_drewN ?_ _) | (with_reducible refine Below.drew ?_) | (with_reducible refine Below.alloc ?_ ?_ _) | (with_reducible refine Below.setCell ?_ ?_ _) | (with_reducible refine below_step ?_ (by assumption) ?_) | go_size))⟩
theorem law : LawL Tryd.checked Rows.numTwoRow.laid 7 Tryd.f7 := by
  intro H enc W base args ds ps hval hA _ hL
  have hA1 : DataW.TrodAll enc Tryd.prog W 0 (fun _ => true) true Tryd.f7.params.toList args.toList ds ps := hA
  rw [Tryd.params7] at hA1 hval
  obtain ⟨v0, vs0, d0, ds0, p0, q0, hargs, rfl, rfl, h0, r0⟩ := trodAll_cons hA1
  obtain ⟨v1, vs1, d1, ds1, p1, q1, rfl, rfl, rfl, h1, r1⟩ := trodAll_cons r0
  obtain ⟨rfl, rfl, rfl⟩ := trodAll_nil r1
  obtain rfl : args = #[v0, v1] := by cases args; simp_all
  obtain ⟨a0, rfl, rfl, rfl, w0⟩ := open_int Tryd.underlying3 (hval 0 _ v0 rfl rfl) h0
  obtain ⟨a1, rfl, rfl, rfl, w1⟩ := open_int Tryd.underlying3 (hval 1 _ v1 rfl rfl) h1
  exact walk a0 a1 (bounds_i64 w0) (bounds_i64 w1) W (pow_laid hL)

set_option maxRecDepth 100000 in
theorem met : Door.Met Rows.numTwoRow.laid := fun os args =>
  laidMetH_of_parts3 (fuel := 8) (laidMet_of_run' 8 (by kernel_rfl) (by kernel_rfl)) (by kernel_rfl) (by kernel_rfl)
set_option maxRecDepth 100000 in
theorem step (os : Os) (started : os.Started) (H : Type) (enc : TypeId × Value → H) :
    ReturnsInHanded {} Tryd.checked os 7 .any (fun w args => (Rows.numTwoSpec.pre enc Tryd.prog Tryd.f7 Rows.numTwoRow.domain false w args ∧ laidMetH Tryd.prog Rows.numTwoRow.laid w) ∧ sizedMet enc Tryd.prog Tryd.f7 (OpenSpec.ofChange Rows.numTwoSpec) false w args) (Rows.numTwoSpec.post enc Tryd.prog Tryd.f7 false true false false) :=
  Door.liftedL (C := Tryd.checked) (L := Rows.numTwoRow.laid) (s := Rows.numTwoSpec) own started (by kernel_rfl) Tryd.func7
    (ChangeSpec.witness_shaped (enc := enc) (C := Tryd.checked) (os := os) (X := fun w _ => laidMetH Tryd.prog Rows.numTwoRow.laid w) false (World.doorLaid Tryd.prog 400 os) #[.int .i64 0, .int .i64 0] 8 rfl (World.shaped_of_RefB (by kernel_rfl) (by kernel_rfl)) (by kernel_rfl) (by kernel_rfl) (by kernel_rfl) (met os _))
    laidOut (by kernel_rfl) (by kernel_rfl) Tryd.underlying4 rfl (fun ds h => by match ds, h with | [d0, d1], _ => rfl) law
set_option maxRecDepth 100000 in
theorem over : Rows.numTwoRow.holds Tryd.pinned (OpenSpec.ofChange Rows.numTwoSpec) :=
  OpenClaim.holds_of_wide 7 Tryd.f7 rfl rfl rfl rfl rfl rfl rfl ⟨rfl, rfl, rfl, rfl, rfl⟩ rfl rfl rfl rfl rfl (by kernel_rfl) Tryd.func7 (by kernel_rfl)
    (of_decide_eq_true (by kernel_rfl)) (by unfold Func.isWrapper; first | (rw [if_pos (by decide +kernel)]; kernel_rfl) | (rw [if_neg (by decide +kernel)]; exact ⟨rfl, rfl⟩))
    (fun os started H enc _ => step os started H enc)
theorem proved : Rows.NumTwoCardSaid :=
  Claim7.holds_tied_plain_at .later [] Rows.numTwoCard.laidKinds true Rows.numTwoCard.stood.harness Rows.numTwoCard.stood.looks
    over (fun _ h => by cases h) (by kernel_rfl) (fun _ h => by cases h) numTwo_row_tie rfl ⟨rfl, rfl⟩ (by kernel_rfl) rfl
    (fun f fn hf hfn => by
      obtain rfl : f = 7 := Option.some.inj ((show Tryd.prog.funcNamed Rows.numTwoRow.func = some 7 by kernel_rfl).symm.trans hf) |>.symm
      obtain rfl : fn = Tryd.f7 := (Option.some.inj (Tryd.func7.symm.trans hfn)).symm
      exact ⟨by kernel_rfl, fun j t ht => by
        have hall : (Tryd.f7.params.toList.all fun u => !Tryd.prog.wantsStandIn u) = true := by kernel_rfl
        exact (show Tryd.prog.wantsStandIn t = false by simpa using List.all_eq_true.1 hall t (Array.mem_toList_iff.2 (Array.mem_of_getElem? ht)))⟩)
    (by kernel_rfl)
#print axioms proved

end Go.Proofs.YtbgakceljbigjaaDoor.NumTwo
