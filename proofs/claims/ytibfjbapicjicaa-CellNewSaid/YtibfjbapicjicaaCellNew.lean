/- For every capacity and volume the law 'CellNew' returns true. No condition. -/
import Derived.Test.YtibfjbapicjicaaCellD
namespace Go.Proofs.Ytibfjbapicjicaa.CellNew
open Go.ChangeShapes Go.WideShapes Go.ChangeAt Go.RowKit Go.Proofs.Ytibfjbapicjicaa.Kit Go.Proofs.Ytibfjbapicjicaa.Cell Go.Joins

set_option maxHeartbeats 1000000 in
theorem walk (m v : Int) (w : World) : Calls Try.prog 4 #[.int .i64 m, .int .i64 v] w fun e w' => e = .returned (.bool true) ∧ Below w.heap.size w w' := by
  by_cases h : rightB m v 0 = true
  · have hq : newF m v = (m, v, 0, 0) := by unfold newF; rw [if_pos h]
    go_enter Try.func4, Try.ntmps4
    go_wp2_with (first | (go_at_call 17; refine (new_any _ _ _).mono ?_; rintro e w1 ⟨rfl, hb⟩; obtain ⟨hc, hf⟩ := bcell hb; have hz := hb.size; (try simp only [World.size_alloc, World.size_setCell, World.size_drew, size_drewN] at hz)) | (go_at_call 13; refine (rright_any _ _ _ _).mono ?_; rintro e w1 ⟨rfl, hb⟩; obtain ⟨hc, hf⟩ := bcell hb; have hz := hb.size; (try simp only [World.size_alloc, World.size_setCell, World.size_drew, size_drewN] at hz)) | (go_at_call 14; refine (lives_any _).mono ?_; rintro e w1 ⟨rfl, hb⟩; obtain ⟨hc, hf⟩ := bcell hb; have hz := hb.size; (try simp only [World.size_alloc, World.size_setCell, World.size_drew, size_drewN] at hz)) | (refine wp_region_quiet_below (by kernel_rfl) (by kernel_rfl) ?_; (repeat (first | go_big_quiet_step ((first | (go_at_call 17; exact Calls.regrown_of (new_any _ _ _)) | (go_at_call 13; exact Calls.regrown_of (rright_any _ _ _ _)) | (go_at_call 14; exact Calls.regrown_of (lives_any _)))) | quiet_step ((first | (go_at_call 17; exact Calls.regrown_of (new_any _ _ _)) | (go_at_call 13; exact Calls.regrown_of (rright_any _ _ _ _)) | (go_at_call 14; exact Calls.regrown_of (lives_any _)))))); refine wpQuiet_nil ?_; intro w1 hw1; have hb := below_of_regrown hw1; clear hw1; obtain ⟨hc, hf⟩ := bcell hb; have hz := hb.size; (try simp only [World.size_alloc, World.size_setCell, World.size_drew, size_drewN] at hz)))
    go_ret
    exact ⟨rfl, (by repeat' (first | (with_reducible exact Below.refl _ _) | (with_reducible refine below_drewN ?_ _) | (with_reducible refine Below.drew ?_) | (with_reducible refine Below.alloc ?_ ?_ _) | (with_reducible refine Below.setCell ?_ ?_ _) | (with_reducible refine below_step ?_ (by assumption) ?_) | go_size))⟩
  · have hq : newF m v = (0, 0, 0, 100) := by unfold newF; rw [if_neg h]
    have hh : rightB m v 0 = false := by simpa using h
    go_enter Try.func4, Try.ntmps4
    go_wp2_with (first | (go_at_call 17; refine (new_any _ _ _).mono ?_; rintro e w1 ⟨rfl, hb⟩; obtain ⟨hc, hf⟩ := bcell hb; have hz := hb.size; (try simp only [World.size_alloc, World.size_setCell, World.size_drew, size_drewN] at hz)) | (go_at_call 13; refine (rright_any _ _ _ _).mono ?_; rintro e w1 ⟨rfl, hb⟩; obtain ⟨hc, hf⟩ := bcell hb; have hz := hb.size; (try simp only [World.size_alloc, World.size_setCell, World.size_drew, size_drewN] at hz)) | (go_at_call 14; refine (lives_any _).mono ?_; rintro e w1 ⟨rfl, hb⟩; obtain ⟨hc, hf⟩ := bcell hb; have hz := hb.size; (try simp only [World.size_alloc, World.size_setCell, World.size_drew, size_drewN] at hz)) | (refine wp_region_quiet_below (by kernel_rfl) (by kernel_rfl) ?_; (repeat (first | go_big_quiet_step ((first | (go_at_call 17; exact Calls.regrown_of (new_any _ _ _)) | (go_at_call 13; exact Calls.regrown_of (rright_any _ _ _ _)) | (go_at_call 14; exact Calls.regrown_of (lives_any _)))) | quiet_step ((first | (go_at_call 17; exact Calls.regrown_of (new_any _ _ _)) | (go_at_call 13; exact Calls.regrown_of (rright_any _ _ _ _)) | (go_at_call 14; exact Calls.regrown_of (lives_any _)))))); refine wpQuiet_nil ?_; intro w1 hw1; have hb := below_of_regrown hw1; clear hw1; obtain ⟨hc, hf⟩ := bcell hb; have hz := hb.size; (try simp only [World.size_alloc, World.size_setCell, World.size_drew, size_drewN] at hz)))
    go_ret
    exact ⟨rfl, (by repeat' (first | (with_reducible exact Below.refl _ _) | (with_reducible refine below_drewN ?_ _) | (with_reducible refine Below.drew ?_) | (with_reducible refine Below.alloc ?_ ?_ _) | (with_reducible refine Below.setCell ?_ ?_ _) | (with_reducible refine below_step ?_ (by assumption) ?_) | go_size))⟩

theorem law : Law Try.checked 4 Try.f4 := by
  intro H enc W base args ds ps hval hA _
  have hA1 : DataW.TrodAll enc Try.prog W 0 (fun _ => true) true Try.f4.params.toList args.toList ds ps := hA
  rw [Try.params4] at hA1 hval
  obtain ⟨v0, vs0, d0, ds0, p0, q0, hargs, rfl, rfl, h0, r0⟩ := trodAll_cons hA1
  obtain ⟨v1, vs1, d1, ds1, p1, q1, rfl, rfl, rfl, h1, r1⟩ := trodAll_cons r0
  obtain ⟨rfl, rfl, rfl⟩ := trodAll_nil r1
  obtain rfl : args = #[v0, v1] := by cases args; simp_all
  obtain ⟨m, rfl, rfl, rfl, wm⟩ := open_int Try.underlying3 (hval 0 _ v0 rfl rfl) h0
  obtain ⟨n, rfl, rfl, rfl, wn⟩ := open_int Try.underlying3 (hval 1 _ v1 rfl rfl) h1
  exact walk m n W

set_option maxRecDepth 100000 in
theorem step (os : Os) (started : os.Started) (H : Type) (enc : TypeId × Value → H) :
    ReturnsInHanded {} Try.checked os 4 .any (Rows.cellNewSpec.pre6 enc Try.prog Try.f4 Rows.cellNewRow.domain false) (Rows.cellNewSpec.post enc Try.prog Try.f4 false true false false) :=
  lifted (C := Try.checked) (s := Rows.cellNewSpec) own started (by kernel_rfl) Try.func4
    (ChangeSpec.witness6 (enc := enc) (C := Try.checked) false ⟨#[], #[.int .i64 0, .int .i64 0], []⟩ 8 (by kernel_rfl) (by kernel_rfl) (by kernel_rfl) (by kernel_rfl))
    laidOut (by kernel_rfl) (by kernel_rfl) Try.underlying4 rfl (fun ds h => by match ds, h with | [d0, d1], _ => rfl) law
set_option maxRecDepth 100000 in
theorem over : Rows.cellNewRow.holds Try.pinned (OpenSpec.ofChange Rows.cellNewSpec) :=
  OpenClaim.holds_of_wide 4 Try.f4 rfl rfl rfl rfl rfl rfl rfl ⟨rfl, rfl, rfl, rfl, rfl⟩ rfl rfl rfl rfl rfl (by kernel_rfl) Try.func4 (by kernel_rfl)
    (of_decide_eq_true (by kernel_rfl)) (by unfold Func.isWrapper; first | (rw [if_pos (by decide +kernel)]; kernel_rfl) | (rw [if_neg (by decide +kernel)]; exact ⟨rfl, rfl⟩))
    (fun os started H enc _ => step os started H enc)
theorem proved : Rows.CellNewSaid := over
#print axioms proved

end Go.Proofs.Ytibfjbapicjicaa.CellNew
