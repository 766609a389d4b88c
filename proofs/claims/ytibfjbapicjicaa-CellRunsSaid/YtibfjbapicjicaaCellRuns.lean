/- For every capacity, volume and list of changes the law 'CellRuns' returns true. No condition. -/
import Derived.Test.YtibfjbapicjicaaCellD
import Derived.Deep.RegionWith
namespace Go.Proofs.Ytibfjbapicjicaa.CellRuns
open Go.ChangeShapes Go.WideShapes Go.ChangeAt Go.RowKit Go.Proofs.Ytibfjbapicjicaa.Kit Go.Proofs.Ytibfjbapicjicaa.Cell Go.Joins

theorem chg_bad (c v r n : Int) (h : ¬ (chg c v r n).2.2.2 = 0) : (chg c v r n).1 = 0 ∧ (chg c v r n).2.1 = 0 ∧ (chg c v r n).2.2.1 = 0 := by
  revert h
  unfold chg
  repeat' split
  all_goals (intro h; first | (exfalso; exact h rfl) | exact ⟨rfl, rfl, rfl⟩)
theorem chg_good (c v r n : Int) (h : (chg c v r n).2.2.2 = 0) : rightB c (v + n) (r + 1) = true ∧ chg c v r n = (c, v + n, r + 1, 0) := by
  revert h
  unfold chg
  split
  · rename_i hr
    have hh := (rightB_iff c v r).1 hr
    repeat' split
    all_goals (intro h; first | (exfalso; revert h; decide) | exact ⟨(rightB_iff _ _ _).2 (by omega), rfl⟩)
  · intro h; exfalso; revert h; decide
section
variable (m v : Int) (A : Option Addr) (len cap : Nat) (zs : List Int) (w : World)
set_option maxHeartbeats 1000000
theorem walk_bad (h : ¬ rightB m v 0 = true) : Calls Try.prog 5 #[.int .i64 m, .int .i64 v, .slice A len cap] w fun e w' => e = .returned (.bool true) ∧ Below w.heap.size w w' := by
  have hq : newF m v = (0, 0, 0, 100) := by unfold newF; rw [if_neg h]
  go_enter Try.func5, Try.ntmps5
  go_wp2_with (first | (go_at_call 17; refine (new_any _ _ _).mono ?_; rintro e w1 ⟨rfl, hb⟩; obtain ⟨hS, hE, hz, hc, hf⟩ := bcell hb; (try simp only [go_sem] at hE); subst hE) | (go_at_call 14; refine (lives_any _).mono ?_; rintro e w1 ⟨rfl, hb⟩; obtain ⟨hS, hE, hz, hc, hf⟩ := bcell hb; (try simp only [go_sem] at hE); subst hE) | (refine wp_region_quiet_below (by kernel_rfl) (by kernel_rfl) ?_; (repeat (first | go_big_quiet_step ((first | (go_at_call 17; exact Calls.regrown_of (new_any _ _ _)) | (go_at_call 14; exact Calls.regrown_of (lives_any _)))) | quiet_step ((first | (go_at_call 17; exact Calls.regrown_of (new_any _ _ _)) | (go_at_call 14; exact Calls.regrown_of (lives_any _)))))); refine wpQuiet_nil ?_; intro w1 hw1; have hb := below_of_regrown hw1; clear hw1; obtain ⟨hS, hE, hz, hc, hf⟩ := bcell hb; (try simp only [go_sem] at hE); subst hE))
  go_ret
  exact ⟨rfl, (by repeat' (first | (with_reducible exact Below.refl _ _) | (with_reducible refine below_drewN ?_ _) | (with_reducible refine Below.drew ?_) | (with_reducible refine Below.alloc ?_ ?_ _) | (with_reducible refine Below.setCell ?_ ?_ _) | (with_reducible refine below_step ?_ (by assumption) ?_) | go_size))⟩
theorem walk_good (h : rightB m v 0 = true) (hlen : len ≤ 9223372036854775807) (hr : Row w w.heap.size A len (fun j => .int .i64 (zs.getD j 0))) (hz : ∀ j, -9223372036854775808 ≤ zs.getD j 0 ∧ zs.getD j 0 ≤ 9223372036854775807) : Calls Try.prog 5 #[.int .i64 m, .int .i64 v, .slice A len cap] w fun e w' => e = .returned (.bool true) ∧ Below w.heap.size w w' := by
  have hq : newF m v = (m, v, 0, 0) := by unfold newF; rw [if_pos h]
  have HR := hide hr
  have HZ := hide hz
  clear hr hz
  go_enter Try.func5, Try.ntmps5
  go_wp2_with (first | (go_at_call 17; refine (new_any _ _ _).mono ?_; rintro e w1a ⟨rfl, hba⟩; obtain ⟨hS, hE, hza, hca, hfa⟩ := bcell hba; (try simp only [go_sem] at hE); subst hE) | (go_at_call 14; refine (lives_any _).mono ?_; rintro e w1 ⟨rfl, hb⟩; obtain ⟨hS, hE, hz, hc, hf⟩ := bcell hb; (try simp only [go_sem] at hE); subst hE) | (refine wp_region_quiet_below (by kernel_rfl) (by kernel_rfl) ?_; (repeat (first | go_big_quiet_step ((first | (go_at_call 17; exact Calls.regrown_of (new_any _ _ _)) | (go_at_call 14; exact Calls.regrown_of (lives_any _)))) | quiet_step ((first | (go_at_call 17; exact Calls.regrown_of (new_any _ _ _)) | (go_at_call 14; exact Calls.regrown_of (lives_any _)))))); refine wpQuiet_nil ?_; intro w1 hw1; have hb := below_of_regrown hw1; clear hw1; obtain ⟨hS, hE, hz, hc, hf⟩ := bcell hb; (try simp only [go_sem] at hE); subst hE))
  have g0 : w1.cell? ⟨w1a.heap.size, 0, none⟩ = some (.int .i64 m) := by go_simp
  have g1 : w1.cell? ⟨w1a.heap.size, 1, none⟩ = some (.int .i64 v) := by go_simp
  have g2 : w1.cell? ⟨w1a.heap.size, 2, none⟩ = some (.int .i64 0) := by go_simp
  have f0 : w1.frozen? ⟨w1a.heap.size, 0, none⟩ = false := by go_simp
  have f1 : w1.frozen? ⟨w1a.heap.size, 1, none⟩ = false := by go_simp
  have f2 : w1.frozen? ⟨w1a.heap.size, 2, none⟩ = false := by go_simp
  have gb : Below w.heap.size w w1 := (by repeat' (first | (with_reducible exact Below.refl _ _) | (with_reducible refine below_drewN ?_ _) | (with_reducible refine Below.drew ?_) | (with_reducible refine Below.alloc ?_ ?_ _) | (with_reducible refine Below.setCell ?_ ?_ _) | (with_reducible refine below_step ?_ (by assumption) ?_) | go_size))
  have gl : w1a.heap.size < w1.heap.size := by omega
  have gB : w.heap.size ≤ w1a.heap.size := by omega
  clear hb hc hf hz hba hca hfa hza
  generalize w1a.heap.size = g at *
  go_loopw [9, 10, 11] (fun s n i wr => ∃ (k : Nat) (S C : Int), k ≤ len ∧ i = .int .i64 k ∧ s = .int .i64 S ∧ n = .int .i64 C ∧ rightB m S C = true ∧ g < wr.heap.size ∧ Below w.heap.size w wr ∧ wr.cell? ⟨g, 0, none⟩ = some (.int .i64 m) ∧ wr.cell? ⟨g, 1, none⟩ = some (.int .i64 S) ∧ wr.cell? ⟨g, 2, none⟩ = some (.int .i64 C) ∧ wr.frozen? ⟨g, 0, none⟩ = false ∧ wr.frozen? ⟨g, 1, none⟩ = false ∧ wr.frozen? ⟨g, 2, none⟩ = false) (fun _ _ i _ => len - (intOf i).toNat)
  case atStart => exact ⟨0, v, 0, Nat.zero_le _, rfl, rfl, rfl, h, gl, gb, g0, g1, g2, f0, f1, f2⟩
  case round =>
    obtain ⟨k, S, C, hk, rfl, rfl, rfl, hS, hl, hbw, c0, c1, c2, d0, d1, d2⟩ := hrel
    have hSS := (rightB_iff _ _ _).1 hS
    clear g0 g1 g2 f0 f1 f2 gb gl hq
    by_cases hlt : k < len
    · obtain ⟨b, off, rfl, hb0, hcell⟩ := HR.out (by omega)
      have hx := HZ.out k
      have hcw : wr.cell? ⟨b, off + k, none⟩ = some (.int .i64 (zs.getD k 0)) := (hbw.cell (p := ⟨b, off + k, none⟩) hb0).trans (hcell k hlt)
      clear hcell
      generalize zs.getD k 0 = x at *
      have hbl : b < wr.heap.size := Nat.lt_of_lt_of_le hb0 hbw.size
      by_cases hg : (chg m S C x).2.2.2 = 0
      · obtain ⟨hr1, hq1⟩ := chg_good m S C x hg
        have hS2 := (rightB_iff _ _ _).1 hr1
        have HQ := hide hr1
        clear hr1 hg
        go_wp2
        go_region_with (go_at_call 7; refine (change_any _ _ _ _ _).mono ?_; rintro e w1 ⟨rfl, hb⟩; obtain ⟨hS, hE, hz, hc, hf⟩ := bcell hb; (try simp only [go_sem] at hE); subst hE)
        all_goals go_wp2
        all_goals
          go_roundw
          case rel => exact ⟨k + 1, S + x, C + 1, by omega, by go_num, rfl, rfl, HQ.out, by (simp only [go_sem]; omega), (by repeat' (first | (with_reducible exact Below.refl _ _) | (with_reducible refine below_drewN ?_ _) | (with_reducible refine Below.drew ?_) | (with_reducible refine Below.alloc ?_ ?_ _) | (with_reducible refine Below.setCell ?_ ?_ _) | (with_reducible refine below_step ?_ (by assumption) ?_) | go_size)), by go_simp, by go_simp, by go_simp, by go_simp, by go_simp, by go_simp⟩
          case measure => simp [intOf]; omega
      · have hne : ((chg m S C x).2.2.2 != 0) = true := by simpa using hg
        obtain ⟨q1, q2, q3⟩ := chg_bad m S C x hg
        have HS := hide hS
        clear hS hg
        go_wp2
        go_region_with (go_at_call 7; refine (change_any _ _ _ _ _).mono ?_; rintro e w1 ⟨rfl, hb⟩; obtain ⟨hS, hE, hz, hc, hf⟩ := bcell hb; (try simp only [go_sem] at hE); subst hE)
        all_goals go_wp2
        all_goals
          go_roundw
          case rel => exact ⟨k + 1, S, C, by omega, by go_num, rfl, rfl, HS.out, by (simp only [go_sem]; omega), (by repeat' (first | (with_reducible exact Below.refl _ _) | (with_reducible refine below_drewN ?_ _) | (with_reducible refine Below.drew ?_) | (with_reducible refine Below.alloc ?_ ?_ _) | (with_reducible refine Below.setCell ?_ ?_ _) | (with_reducible refine below_step ?_ (by assumption) ?_) | go_size)), by go_simp, by go_simp, by go_simp, by go_simp, by go_simp, by go_simp⟩
          case measure => simp [intOf]; omega
    · go_wp2_with (first | (go_at_call 15; refine (right_any _ _ _ _).mono ?_; rintro e w1 ⟨rfl, hb⟩; obtain ⟨hS, hE, hz, hc, hf⟩ := bcell hb; (try simp only [go_sem] at hE); subst hE) | (refine wp_region_quiet_below (by kernel_rfl) (by kernel_rfl) ?_; (repeat (first | go_big_quiet_step ((first | (go_at_call 15; exact Calls.regrown_of (right_any _ _ _ _)))) | quiet_step ((first | (go_at_call 15; exact Calls.regrown_of (right_any _ _ _ _)))))); refine wpQuiet_nil ?_; intro w1 hw1; have hb := below_of_regrown hw1; clear hw1; obtain ⟨hS, hE, hz, hc, hf⟩ := bcell hb; (try simp only [go_sem] at hE); subst hE))
      go_ret
      exact ⟨rfl, (by repeat' (first | (with_reducible exact Below.refl _ _) | (with_reducible refine below_drewN ?_ _) | (with_reducible refine Below.drew ?_) | (with_reducible refine Below.alloc ?_ ?_ _) | (with_reducible refine Below.setCell ?_ ?_ _) | (with_reducible refine below_step ?_ (by assumption) ?_) | go_size))⟩
theorem walk (hlen : len ≤ 9223372036854775807) (hr : Row w w.heap.size A len (fun j => .int .i64 (zs.getD j 0))) (hz : ∀ j, -9223372036854775808 ≤ zs.getD j 0 ∧ zs.getD j 0 ≤ 9223372036854775807) : Calls Try.prog 5 #[.int .i64 m, .int .i64 v, .slice A len cap] w fun e w' => e = .returned (.bool true) ∧ Below w.heap.size w w' := by
  by_cases h : rightB m v 0 = true
  · exact walk_good m v A len cap zs w h hlen hr hz
  · exact walk_bad m v A len cap w h
end
theorem law : Law Try.checked 5 Try.f5 := by
  intro H enc W base args ds ps hval hA _
  have hA1 : DataW.TrodAll enc Try.prog W 0 (fun _ => true) true Try.f5.params.toList args.toList ds ps := hA
  rw [Try.params5] at hA1 hval
  obtain ⟨v0, vs0, d0, ds0, p0, q0, hargs, rfl, rfl, h0, r0⟩ := trodAll_cons hA1
  obtain ⟨v1, vs1, d1, ds1, p1, q1, rfl, rfl, rfl, h1, r1⟩ := trodAll_cons r0
  obtain ⟨v2, vs2, d2, ds2, p2, q2, rfl, rfl, rfl, h2, r2⟩ := trodAll_cons r1
  obtain ⟨rfl, rfl, rfl⟩ := trodAll_nil r2
  obtain rfl : args = #[v0, v1, v2] := by cases args; simp_all
  obtain ⟨m, rfl, rfl, rfl, -⟩ := open_int Try.underlying3 (hval 0 _ v0 rfl rfl) h0
  obtain ⟨v, rfl, rfl, rfl, -⟩ := open_int Try.underlying3 (hval 1 _ v1 rfl rfl) h1
  obtain ⟨A, len, cap, zs, rfl, hl, hm, hzl, hrow, hwf⟩ := arg_row Try.underlying33 Try.underlying3 (by kernel_rfl) (hval 2 _ v2 rfl rfl) h2
  unfold maxLen at hm
  exact walk m v A len cap zs W (by omega) hrow (fun j => by have := range_i64 hwf j; simpa using this)

set_option maxRecDepth 100000 in
theorem step (os : Os) (started : os.Started) (H : Type) (enc : TypeId × Value → H) :
    ReturnsInHanded {} Try.checked os 5 .any (Rows.cellRunsSpec.pre6 enc Try.prog Try.f5 Rows.cellRunsRow.domain false) (Rows.cellRunsSpec.post enc Try.prog Try.f5 false true false false) :=
  lifted (C := Try.checked) (s := Rows.cellRunsSpec) own started (by kernel_rfl) Try.func5
    (ChangeSpec.witness6 (enc := enc) (C := Try.checked) false ⟨#[], #[.int .i64 0, .int .i64 0, .slice none 0 0], []⟩ 8 (by kernel_rfl) (by kernel_rfl) (by kernel_rfl) (by kernel_rfl))
    laidOut (by kernel_rfl) (by kernel_rfl) Try.underlying4 rfl (fun ds h => by match ds, h with | [d0, d1, d2], _ => rfl) law
set_option maxRecDepth 100000 in
theorem over : Rows.cellRunsRow.holds Try.pinned (OpenSpec.ofChange Rows.cellRunsSpec) :=
  OpenClaim.holds_of_wide 5 Try.f5 rfl rfl rfl rfl rfl rfl rfl ⟨rfl, rfl, rfl, rfl, rfl⟩ rfl rfl rfl rfl rfl (by kernel_rfl) Try.func5 (by kernel_rfl)
    (of_decide_eq_true (by kernel_rfl)) (by unfold Func.isWrapper; first | (rw [if_pos (by decide +kernel)]; kernel_rfl) | (rw [if_neg (by decide +kernel)]; exact ⟨rfl, rfl⟩))
    (fun os started H enc _ => step os started H enc)
theorem proved : Rows.CellRunsSaid := over
#print axioms proved

end Go.Proofs.Ytibfjbapicjicaa.CellRuns
