/- What must come of every program of this chapter. Condition: the table is in place. -/
import Derived.Test.YtddifbgdjdahfaaDoorRPart
import Derived.Test.YtddifbgdjdahfaaDoorTabL
import Derived.Test.YtddifbgdjdahfaaDoorMakA
import Derived.Test.YtddifbgdjdahfaaDoorSrtA
import Derived.Test.YtddifbgdjdahfaaDoorEnds
namespace Go.Proofs.YtddifbgdjdahfaaDoor.Real
open Go.ChangeShapes Go.WideShapes Go.ChangeAt Go.RowKit Go.Proofs.YtddifbgdjdahfaaDoor.Kit Go.Proofs.YtddifbgdjdahfaaDoor.Flt Go.Proofs.YtddifbgdjdahfaaDoor.Mem Go.Proofs.YtddifbgdjdahfaaDoor.Num Go.Deep
set_option linter.unusedVariables false
set_option linter.unusedSimpArgs false
theorem nan_any (w : World) : Calls Tryd.prog 28 #[] w fun e w' => e = .returned (.float .f64 9221120237041090561) ∧ w = w' := by
  go_enter Tryd.func28, Tryd.ntmps28
  go_wp2
  go_ret
  exact ⟨rfl, rfl⟩
theorem srow_lit (w : World) (l : List Nat) (t : TypeId) : SRow encF 1 (w.alloc (.cells (SV encF l).toArray t)) (w.heap.size + 1) (some ⟨w.heap.size, 0, none⟩) l.length l := by
  refine ⟨rfl, ?_⟩
  have h := row_new w (SV encF l) t
  rw [sv_len encF_len] at h
  exact h
theorem l_parts : partsV 4618441417868443648 = (3, 1) := by decide +kernel
theorem l_ends : endsV [4611686018427387904, 9221120237041090561, 9223372036854775808, 0] = (9223372036854775808, 4611686018427387904, 3) := by decide +kernel
theorem l_sort : (sortV [4607182418800017408, 18442240474082181120]).getD 1 0 = 4607182418800017408 := by decide +kernel
theorem l_make : word (decide ((3 : Int) < 0)) (rungOf (3 : Int).natAbs (-1)) = 4609434218613702656 := by decide +kernel
theorem l_class : classS 9218868437227405312 = 2 := by decide
theorem l_minus : (!nanB 13835058055282163712 && NEG 13835058055282163712) = true := by decide
theorem l_ahead : decide (rankV 4607182418800017408 < rankV 4611686018427387904) = true := by decide
theorem l_same : (rankV 9221120237041090561 == rankV 9221120237041090561) = true := by decide
theorem l_feq : feqB 4609434218613702656 4609434218613702656 = true ∧ feqB 4611686018427387904 4611686018427387904 = true ∧ feqB 4607182418800017408 4607182418800017408 = true := by decide
set_option maxHeartbeats 2000000 in
theorem lives_any (w : World) (h : TabW w) : Calls Tryd.prog 10 #[] w fun e w' => e = .returned (.bool true) ∧ Below w.heap.size w w' := by
  have cP := fun w h => parts_any 4618441417868443648 (by decide) w h
  have cI1 := fun (w : World) => inf_any 1 9218868437227405312 (.inl ⟨rfl, rfl⟩) w
  have cI2 := fun (w : World) => inf_any (-1) 18442240474082181120 (.inr ⟨rfl, rfl⟩) w
  have cN := fun w => nan_any w
  have cC := fun w => copy_neg 0 (by decide) w
  have cK := fun w => class_any 9218868437227405312 (by decide) w
  have cM := fun w => make_any 3 (-1) (by unfold In64; omega) w
  have cS := fun w => minus_any 13835058055282163712 (by decide) w
  have cA := fun w => ahead_any 4607182418800017408 4611686018427387904 (by decide) (by decide) w
  have cQ := fun w => same_any 9221120237041090561 9221120237041090561 (by decide) (by decide) w
  have cE := fun w t => ends_any (l := [4611686018427387904, 9221120237041090561, 9223372036854775808, 0]) (c := 4) (srow_lit w _ t) (by simp) (by decide) (by decide)
  have cT := fun w t => sort_any (l := [4607182418800017408, 18442240474082181120]) (c := 2) (srow_lit w _ t) (by simp) (by decide) (by decide)
  rw [l_parts] at cP
  simp only [l_ends] at cE
  rw [l_make] at cM
  rw [l_class] at cK
  rw [l_minus] at cS
  rw [l_ahead] at cA
  rw [l_same] at cQ
  obtain ⟨e1, e2, e3⟩ := l_feq
  have HT := hide h
  clear h
  go_enter Tryd.func10, Tryd.ntmps10
  go_wp2_with (first | (go_at_call 8; (with_reducible refine (cP _ (HT.out.below (B := w.heap.size) (by repeat' (first | (with_reducible exact Below.refl _ _) | (with_reducible refine below_drewN ?_ _) | (with_reducible refine Below.drew ?_) | (with_reducible refine Below.alloc ?_ ?_ _) | (with_reducible refine Below.setCell ?_ ?_ _) | (with_reducible refine below_step ?_ (by assumption) ?_) | (with_reducible refine below_step ?_ (below_regrown _ _ _) ?_) | go_size)) (by omega))).mono ?_); rintro e w1 ⟨rfl, rfl⟩) | (go_at_call 28; (with_reducible refine (cN _).mono ?_); rintro e w1 ⟨rfl, rfl⟩) | (go_at_call 29; (with_reducible refine (cC _).mono ?_); rintro e w1 ⟨rfl, rfl⟩) | ((with_reducible change Code.wp _ (Code.region _ _ _) _ _ _); refine wp_region_quiet_below (by kernel_rfl) (by kernel_rfl) ?_; (repeat (first | go_big_quiet_step ((first | (go_at_call 8; (with_reducible refine Calls.regrown_of (below_of_same (cP _ (HT.out.below (B := w.heap.size) (by repeat' (first | (with_reducible exact Below.refl _ _) | (with_reducible refine below_drewN ?_ _) | (with_reducible refine Below.drew ?_) | (with_reducible refine Below.alloc ?_ ?_ _) | (with_reducible refine Below.setCell ?_ ?_ _) | (with_reducible refine below_step ?_ (by assumption) ?_) | (with_reducible refine below_step ?_ (below_regrown _ _ _) ?_) | go_size)) (by omega)))));) | (go_at_call 28; (with_reducible refine Calls.regrown_of (below_of_same (cN _)));) | (go_at_call 29; (with_reducible refine Calls.regrown_of (below_of_same (cC _)));))) | quiet_step ((first | (go_at_call 8; (with_reducible refine Calls.regrown_of (below_of_same (cP _ (HT.out.below (B := w.heap.size) (by repeat' (first | (with_reducible exact Below.refl _ _) | (with_reducible refine below_drewN ?_ _) | (with_reducible refine Below.drew ?_) | (with_reducible refine Below.alloc ?_ ?_ _) | (with_reducible refine Below.setCell ?_ ?_ _) | (with_reducible refine below_step ?_ (by assumption) ?_) | (with_reducible refine below_step ?_ (below_regrown _ _ _) ?_) | go_size)) (by omega)))));) | (go_at_call 28; (with_reducible refine Calls.regrown_of (below_of_same (cN _)));) | (go_at_call 29; (with_reducible refine Calls.regrown_of (below_of_same (cC _)));))))); refine wpQuiet_nil ?_; intro w1 hw1; have hb := below_of_regrown hw1; clear hw1; obtain ⟨hS, hE, hz, hc, hf⟩ := bcell hb; (try simp only [go_sem] at hE); subst hE))
  refine (cE w 22).mono ?_
  rintro e wE ⟨rfl, hbE⟩
  obtain ⟨hSE, hEE, hzE, hcE, hfE⟩ := bcell hbE
  (try simp only [go_sem] at hEE)
  subst hEE
  go_wp2_with (first | (go_at_call 30; (with_reducible refine (cI2 _).mono ?_); rintro e w1 ⟨rfl, rfl⟩) | ((with_reducible change Code.wp _ (Code.region _ _ _) _ _ _); refine wp_region_quiet_below (by kernel_rfl) (by kernel_rfl) ?_; (repeat (first | go_big_quiet_step ((first | (go_at_call 30; (with_reducible refine Calls.regrown_of (below_of_same (cI2 _)));))) | quiet_step ((first | (go_at_call 30; (with_reducible refine Calls.regrown_of (below_of_same (cI2 _)));))))); refine wpQuiet_nil ?_; intro w1 hw1; have hb := below_of_regrown hw1; clear hw1; obtain ⟨hS, hE, hz, hc, hf⟩ := bcell hb; (try simp only [go_sem] at hE); subst hE))
  refine (cT wE 22).mono ?_
  rintro e w5 ⟨A5, c5, rfl, hown5, hb5⟩
  obtain ⟨hS5, hE5, hz5, hc5, hf5⟩ := bcell hb5
  (try simp only [go_sem] at hE5)
  subst hE5
  obtain ⟨b5, off5, rfl, hb5', hcell5⟩ := frow_cells (srow_of_own encF_len (by decide) hown5) (by decide)
  have d5 := hcell5 1 (by decide)
  rw [l_sort] at d5
  clear hcell5 hown5 cE cT
  go_wp2_with (first | (go_at_call 28; (with_reducible refine (cN _).mono ?_); rintro e w1 ⟨rfl, rfl⟩) | (go_at_call 30; (with_reducible refine (cI1 _).mono ?_); rintro e w1 ⟨rfl, rfl⟩) | (go_at_call 11; (with_reducible refine (cK _).mono ?_); rintro e w1 ⟨rfl, rfl⟩) | (go_at_call 16; (with_reducible refine (cM _).mono ?_); rintro e w1 ⟨rfl, rfl⟩) | (go_at_call 13; (with_reducible refine (cS _).mono ?_); rintro e w1 ⟨rfl, rfl⟩) | (go_at_call 19; (with_reducible refine (cA _).mono ?_); rintro e w1 ⟨rfl, rfl⟩) | (go_at_call 20; (with_reducible refine (cQ _).mono ?_); rintro e w1 ⟨rfl, rfl⟩) | ((with_reducible change Code.wp _ (Code.region _ _ _) _ _ _); refine wp_region_quiet_below (by kernel_rfl) (by kernel_rfl) ?_; (repeat (first | go_big_quiet_step ((first | (go_at_call 28; (with_reducible refine Calls.regrown_of (below_of_same (cN _)));) | (go_at_call 30; (with_reducible refine Calls.regrown_of (below_of_same (cI1 _)));) | (go_at_call 11; (with_reducible refine Calls.regrown_of (below_of_same (cK _)));) | (go_at_call 16; (with_reducible refine Calls.regrown_of (below_of_same (cM _)));) | (go_at_call 13; (with_reducible refine Calls.regrown_of (below_of_same (cS _)));) | (go_at_call 19; (with_reducible refine Calls.regrown_of (below_of_same (cA _)));) | (go_at_call 20; (with_reducible refine Calls.regrown_of (below_of_same (cQ _)));))) | quiet_step ((first | (go_at_call 28; (with_reducible refine Calls.regrown_of (below_of_same (cN _)));) | (go_at_call 30; (with_reducible refine Calls.regrown_of (below_of_same (cI1 _)));) | (go_at_call 11; (with_reducible refine Calls.regrown_of (below_of_same (cK _)));) | (go_at_call 16; (with_reducible refine Calls.regrown_of (below_of_same (cM _)));) | (go_at_call 13; (with_reducible refine Calls.regrown_of (below_of_same (cS _)));) | (go_at_call 19; (with_reducible refine Calls.regrown_of (below_of_same (cA _)));) | (go_at_call 20; (with_reducible refine Calls.regrown_of (below_of_same (cQ _)));))))); refine wpQuiet_nil ?_; intro w1 hw1; have hb := below_of_regrown hw1; clear hw1; obtain ⟨hS, hE, hz, hc, hf⟩ := bcell hb; (try simp only [go_sem] at hE); subst hE))
  go_ret
  exact ⟨rfl, (by repeat' (first | (with_reducible exact Below.refl _ _) | (with_reducible refine below_drewN ?_ _) | (with_reducible refine Below.drew ?_) | (with_reducible refine Below.alloc ?_ ?_ _) | (with_reducible refine Below.setCell ?_ ?_ _) | (with_reducible refine below_step ?_ (by assumption) ?_) | (with_reducible refine below_step ?_ (below_regrown _ _ _) ?_) | go_size))⟩
end Go.Proofs.YtddifbgdjdahfaaDoor.Real
