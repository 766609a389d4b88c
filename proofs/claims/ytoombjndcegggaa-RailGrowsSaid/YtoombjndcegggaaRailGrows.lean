/- For all borders, every place and any two reaches the law 'RailGrows' returns true. No condition. -/
import Derived.Test.YtoombjndcegggaaRailG
namespace Go.Proofs.Ytoombjndcegggaa.RailGrows
open Go.ChangeShapes Go.WideShapes Go.ChangeAt Go.RowKit Go.Proofs.Ytoombjndcegggaa.Kit Go.Proofs.Ytoombjndcegggaa.Mem Go.Proofs.Ytoombjndcegggaa.Flt Go.Proofs.Ytoombjndcegggaa.Rail Go.Joins
set_option linter.unusedVariables false
set_option maxHeartbeats 2000000 in
theorem walk {l : List Nat} {A : Option Addr} {B0 : Nat} {w : World} (hr : FRow w B0 A l) (hB : B0 ≤ w.heap.size) (c : Nat) (hcap : l.length ≤ c) (x r s : Nat) (hx : x < 18446744073709551616) (hr64 : r < 18446744073709551616) (hs64 : s < 18446744073709551616) :
    Calls Try.prog 6 #[.slice A l.length c, .float .f64 x, .float .f64 r, .float .f64 s] w fun e w' => e = .returned (.bool true) ∧ Below w.heap.size w w' := by
  have hlen := hr.len
  by_cases h60 : 60 < l.length
  · go_enter Try.func6, Try.ntmps6
    go_wp2_with (first | (go_at_call 7; refine (lives_any _).mono ?_; rintro e w1 ⟨rfl, hb⟩; obtain ⟨hS, hE, hz, hc, hf⟩ := bcell hb; (try simp only [go_sem] at hE); subst hE) | (refine wp_region_quiet_below (by kernel_rfl) (by kernel_rfl) ?_; (repeat (first | go_big_quiet_step ((first | (go_at_call 7; exact Calls.regrown_of (lives_any _)))) | quiet_step ((first | (go_at_call 7; exact Calls.regrown_of (lives_any _)))))); refine wpQuiet_nil ?_; intro w1 hw1; have hb := below_of_regrown hw1; clear hw1; obtain ⟨hS, hE, hz, hc, hf⟩ := bcell hb; (try simp only [go_sem] at hE); subst hE))
    go_ret
    exact ⟨rfl, (by repeat' (first | (with_reducible exact Below.refl _ _) | (with_reducible refine below_drewN ?_ _) | (with_reducible refine Below.drew ?_) | (with_reducible refine Below.alloc ?_ ?_ _) | (with_reducible refine Below.setCell ?_ ?_ _) | (with_reducible refine below_step ?_ (by assumption) ?_) | go_size))⟩
  by_cases hrs : fleB r s = true
  · have hg := fun h => grows (l := l) (x := x) hrs h
    obtain ⟨p1, p2, p3, hp⟩ : ∃ p1 p2 p3, reachS l x r = (p1, p2, p3) := ⟨_, _, _, rfl⟩
    obtain ⟨q1, q2, q3, hq⟩ : ∃ p1 p2 p3, reachS l x s = (p1, p2, p3) := ⟨_, _, _, rfl⟩
    rw [hp, hq] at hg
    dsimp only at hg
    have a1 : ∀ {w1 : World}, Below w.heap.size w w1 → Calls Try.prog 15 #[.slice A l.length c, .float .f64 x, .float .f64 r] w1 fun en w' => en = .returned (.tuple #[.agg #[.int .i64 p1, .int .i64 p2], .int .i64 p3]) ∧ Below w1.heap.size w1 w' := fun hb => by have := reach_any (hr.below hb hB) (by have := hb.size; omega) c hcap x r hx hr64; rwa [hp] at this
    have a2 : ∀ {w1 : World}, Below w.heap.size w w1 → Calls Try.prog 15 #[.slice A l.length c, .float .f64 x, .float .f64 s] w1 fun en w' => en = .returned (.tuple #[.agg #[.int .i64 q1, .int .i64 q2], .int .i64 q3]) ∧ Below w1.heap.size w1 w' := fun hb => by have := reach_any (hr.below hb hB) (by have := hb.size; omega) c hcap x s hx hs64; rwa [hq] at this
    clear hp hq
    by_cases g1 : p3 = 0
    · subst g1
      obtain ⟨g2, g3⟩ := hg rfl
      have b1 : (q3 == 71) = false := by simpa using g2
      by_cases g4 : q3 = 0
      · subst g4
        obtain ⟨g5, g6⟩ := g3 rfl
        clear hg g3
        go_enter Try.func6, Try.ntmps6
        go_wp2_with ((go_at_call 15; (with_reducible refine (a1 (by repeat' (first | (with_reducible exact Below.refl _ _) | (with_reducible refine below_drewN ?_ _) | (with_reducible refine Below.drew ?_) | (with_reducible refine Below.alloc ?_ ?_ _) | (with_reducible refine Below.setCell ?_ ?_ _) | (with_reducible refine below_step ?_ (by assumption) ?_) | go_size))).mono ?_); rintro e w1 ⟨rfl, hb⟩; obtain ⟨hS, hE, hz, hc, hf⟩ := bcell hb; (try simp only [go_sem] at hE); subst hE))
        go_wp2_with ((go_at_call 15; (with_reducible refine (a2 (by repeat' (first | (with_reducible exact Below.refl _ _) | (with_reducible refine below_drewN ?_ _) | (with_reducible refine Below.drew ?_) | (with_reducible refine Below.alloc ?_ ?_ _) | (with_reducible refine Below.setCell ?_ ?_ _) | (with_reducible refine below_step ?_ (by assumption) ?_) | go_size))).mono ?_); rintro e w1 ⟨rfl, hb⟩; obtain ⟨hS, hE, hz, hc, hf⟩ := bcell hb; (try simp only [go_sem] at hE); subst hE))
        go_wp2_with ((go_at_call 7; refine (lives_any _).mono ?_; rintro e w1 ⟨rfl, hb⟩; obtain ⟨hS, hE, hz, hc, hf⟩ := bcell hb; (try simp only [go_sem] at hE); subst hE))
        go_ret
        exact ⟨rfl, (by repeat' (first | (with_reducible exact Below.refl _ _) | (with_reducible refine below_drewN ?_ _) | (with_reducible refine Below.drew ?_) | (with_reducible refine Below.alloc ?_ ?_ _) | (with_reducible refine Below.setCell ?_ ?_ _) | (with_reducible refine below_step ?_ (by assumption) ?_) | go_size))⟩
      · have b2 : (q3 != 0) = true := by simpa using g4
        clear hg g3
        go_enter Try.func6, Try.ntmps6
        go_wp2_with ((go_at_call 15; (with_reducible refine (a1 (by repeat' (first | (with_reducible exact Below.refl _ _) | (with_reducible refine below_drewN ?_ _) | (with_reducible refine Below.drew ?_) | (with_reducible refine Below.alloc ?_ ?_ _) | (with_reducible refine Below.setCell ?_ ?_ _) | (with_reducible refine below_step ?_ (by assumption) ?_) | go_size))).mono ?_); rintro e w1 ⟨rfl, hb⟩; obtain ⟨hS, hE, hz, hc, hf⟩ := bcell hb; (try simp only [go_sem] at hE); subst hE))
        go_wp2_with ((go_at_call 15; (with_reducible refine (a2 (by repeat' (first | (with_reducible exact Below.refl _ _) | (with_reducible refine below_drewN ?_ _) | (with_reducible refine Below.drew ?_) | (with_reducible refine Below.alloc ?_ ?_ _) | (with_reducible refine Below.setCell ?_ ?_ _) | (with_reducible refine below_step ?_ (by assumption) ?_) | go_size))).mono ?_); rintro e w1 ⟨rfl, hb⟩; obtain ⟨hS, hE, hz, hc, hf⟩ := bcell hb; (try simp only [go_sem] at hE); subst hE))
        go_wp2_with ((go_at_call 7; refine (lives_any _).mono ?_; rintro e w1 ⟨rfl, hb⟩; obtain ⟨hS, hE, hz, hc, hf⟩ := bcell hb; (try simp only [go_sem] at hE); subst hE))
        go_ret
        exact ⟨rfl, (by repeat' (first | (with_reducible exact Below.refl _ _) | (with_reducible refine below_drewN ?_ _) | (with_reducible refine Below.drew ?_) | (with_reducible refine Below.alloc ?_ ?_ _) | (with_reducible refine Below.setCell ?_ ?_ _) | (with_reducible refine below_step ?_ (by assumption) ?_) | go_size))⟩
    · have b2 : (p3 != 0) = true := by simpa using g1
      have b3 : (p3 == 0) = false := by simpa using g1
      clear hg
      go_enter Try.func6, Try.ntmps6
      go_wp2_with ((go_at_call 15; (with_reducible refine (a1 (by repeat' (first | (with_reducible exact Below.refl _ _) | (with_reducible refine below_drewN ?_ _) | (with_reducible refine Below.drew ?_) | (with_reducible refine Below.alloc ?_ ?_ _) | (with_reducible refine Below.setCell ?_ ?_ _) | (with_reducible refine below_step ?_ (by assumption) ?_) | go_size))).mono ?_); rintro e w1 ⟨rfl, hb⟩; obtain ⟨hS, hE, hz, hc, hf⟩ := bcell hb; (try simp only [go_sem] at hE); subst hE))
      go_wp2_with ((go_at_call 15; (with_reducible refine (a2 (by repeat' (first | (with_reducible exact Below.refl _ _) | (with_reducible refine below_drewN ?_ _) | (with_reducible refine Below.drew ?_) | (with_reducible refine Below.alloc ?_ ?_ _) | (with_reducible refine Below.setCell ?_ ?_ _) | (with_reducible refine below_step ?_ (by assumption) ?_) | go_size))).mono ?_); rintro e w1 ⟨rfl, hb⟩; obtain ⟨hS, hE, hz, hc, hf⟩ := bcell hb; (try simp only [go_sem] at hE); subst hE))
      go_wp2_with ((go_at_call 7; refine (lives_any _).mono ?_; rintro e w1 ⟨rfl, hb⟩; obtain ⟨hS, hE, hz, hc, hf⟩ := bcell hb; (try simp only [go_sem] at hE); subst hE))
      go_ret
      exact ⟨rfl, (by repeat' (first | (with_reducible exact Below.refl _ _) | (with_reducible refine below_drewN ?_ _) | (with_reducible refine Below.drew ?_) | (with_reducible refine Below.alloc ?_ ?_ _) | (with_reducible refine Below.setCell ?_ ?_ _) | (with_reducible refine below_step ?_ (by assumption) ?_) | go_size))⟩
  · rw [Bool.not_eq_true] at hrs
    go_enter Try.func6, Try.ntmps6
    go_wp2_with (first | (go_at_call 7; refine (lives_any _).mono ?_; rintro e w1 ⟨rfl, hb⟩; obtain ⟨hS, hE, hz, hc, hf⟩ := bcell hb; (try simp only [go_sem] at hE); subst hE) | (refine wp_region_quiet_below (by kernel_rfl) (by kernel_rfl) ?_; (repeat (first | go_big_quiet_step ((first | (go_at_call 7; exact Calls.regrown_of (lives_any _)))) | quiet_step ((first | (go_at_call 7; exact Calls.regrown_of (lives_any _)))))); refine wpQuiet_nil ?_; intro w1 hw1; have hb := below_of_regrown hw1; clear hw1; obtain ⟨hS, hE, hz, hc, hf⟩ := bcell hb; (try simp only [go_sem] at hE); subst hE))
    go_ret
    exact ⟨rfl, (by repeat' (first | (with_reducible exact Below.refl _ _) | (with_reducible refine below_drewN ?_ _) | (with_reducible refine Below.drew ?_) | (with_reducible refine Below.alloc ?_ ?_ _) | (with_reducible refine Below.setCell ?_ ?_ _) | (with_reducible refine below_step ?_ (by assumption) ?_) | go_size))⟩
theorem law : Law Try.checked 6 Try.f6 := by
  intro H enc W base args ds ps hval hA _
  have hA1 : DataW.TrodAll enc Try.prog W 0 (fun _ => true) true Try.f6.params.toList args.toList ds ps := hA
  rw [Try.params6] at hA1 hval
  obtain ⟨v0, vs0, d0, ds0, p0, q0, hargs, rfl, rfl, h0, r0⟩ := trodAll_cons hA1
  obtain ⟨v1, vs1, d1, ds1, p1, q1, rfl, rfl, rfl, h1, r1⟩ := trodAll_cons r0
  obtain ⟨v2, vs2, d2, ds2, p2, q2, rfl, rfl, rfl, h2, r2⟩ := trodAll_cons r1
  obtain ⟨v3, vs3, d3, ds3, p3, q3, rfl, rfl, rfl, h3, r3⟩ := trodAll_cons r2
  obtain ⟨rfl, rfl, rfl⟩ := trodAll_nil r3
  obtain rfl : args = #[v0, v1, v2, v3] := by cases args; simp_all
  obtain ⟨A, len, cap, l, rfl, hlc, hcm, rfl, hrow, hfit⟩ := arg_floats Try.underlying22 Try.underlying28 (by kernel_rfl) (hval 0 _ v0 rfl rfl) h0
  obtain ⟨x, rfl, rfl, rfl, wx⟩ := open_float Try.underlying28 (hval 1 _ v1 rfl rfl) h1
  obtain ⟨r, rfl, rfl, rfl, wr⟩ := open_float Try.underlying28 (hval 2 _ v2 rfl rfl) h2
  obtain ⟨s, rfl, rfl, rfl, ws⟩ := open_float Try.underlying28 (hval 3 _ v3 rfl rfl) h3
  exact walk (frow_arg hrow (by unfold maxLen at hcm; omega) hfit) (Nat.le_refl _) cap hlc x r s (wf_float wx) (wf_float wr) (wf_float ws)

set_option maxRecDepth 100000 in
theorem step (os : Os) (started : os.Started) (H : Type) (enc : TypeId × Value → H) :
    ReturnsInHanded {} Try.checked os 6 .any (Rows.railGrowsSpec.pre6 enc Try.prog Try.f6 Rows.railGrowsRow.domain false) (Rows.railGrowsSpec.post enc Try.prog Try.f6 false true false false) :=
  lifted (C := Try.checked) (s := Rows.railGrowsSpec) own started (by kernel_rfl) Try.func6
    (ChangeSpec.witness6 (enc := enc) (C := Try.checked) false ⟨#[], #[.slice none 0 0, .float .f64 0, .float .f64 0, .float .f64 0], []⟩ 8 (by kernel_rfl) (by kernel_rfl) (by kernel_rfl) (by kernel_rfl))
    laidOut (by kernel_rfl) (by kernel_rfl) Try.underlying4 rfl (fun ds h => by match ds, h with | [d0, d1, d2, d3], _ => rfl) law
set_option maxRecDepth 100000 in
theorem over : Rows.railGrowsRow.holds Try.pinned (OpenSpec.ofChange Rows.railGrowsSpec) :=
  OpenClaim.holds_of_wide 6 Try.f6 rfl rfl rfl rfl rfl rfl rfl ⟨rfl, rfl, rfl, rfl, rfl⟩ rfl rfl rfl rfl rfl (by kernel_rfl) Try.func6 (by kernel_rfl)
    (of_decide_eq_true (by kernel_rfl)) (by unfold Func.isWrapper; first | (rw [if_pos (by decide +kernel)]; kernel_rfl) | (rw [if_neg (by decide +kernel)]; exact ⟨rfl, rfl⟩))
    (fun os started H enc _ => step os started H enc)
theorem proved : Rows.RailGrowsSaid := over
#print axioms proved

end Go.Proofs.Ytoombjndcegggaa.RailGrows
