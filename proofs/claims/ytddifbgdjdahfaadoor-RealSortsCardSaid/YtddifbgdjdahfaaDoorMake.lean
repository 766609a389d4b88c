/- The float next to a number and a power of 2, by the program. No condition. -/
import Derived.Test.YtddifbgdjdahfaaDoorHalf
import Derived.Laws.FloatArith
namespace Go.Proofs.YtddifbgdjdahfaaDoor.Real
open Go.ChangeShapes Go.WideShapes Go.ChangeAt Go.RowKit Go.Proofs.YtddifbgdjdahfaaDoor.Kit Go.Proofs.YtddifbgdjdahfaaDoor.Flt Go.Proofs.YtddifbgdjdahfaaDoor.Num Go.Deep
set_option linter.unusedVariables false
set_option linter.unusedSimpArgs false
/-- The float of a sign. -/
def sF (b : Bool) : Nat := if b = true then 13830554455654793216 else 4607182418800017408
theorem sF_true : sF true = 13830554455654793216 := rfl
theorem sF_false : sF false = 4607182418800017408 := rfl
theorem copy_any (b : Bool) (r : Nat) (hr : r < 9223372036854775808) (w : World) : Calls Tryd.prog 29 #[.float .f64 r, .float .f64 (sF b)] w fun e w' => e = .returned (.float .f64 (word b r)) ∧ w = w' := by
  cases b
  · exact copy_pos r hr w
  · exact copy_neg r hr w
theorem int_pos : floatToIntVal .f64 4607182418800017408 .i64 = some 1 := by decide +kernel
theorem int_neg : floatToIntVal .f64 13830554455654793216 .i64 = some (-1) := by decide +kernel
theorem mk_null (e : Int) (w : World) : Calls Tryd.prog 16 #[.int .i64 0, .int .i64 e] w fun e w' => e = .returned (.float .f64 0) ∧ w = w' := by
  have cS := fun w => size_any 0 (by unfold In64; omega) w
  have cL := fun w => len_any 0 (by decide) w
  go_enter Tryd.func16, Tryd.ntmps16
  go_wp2_with (first | (go_at_call 32; refine (cS _).mono ?_; rintro e w1 ⟨rfl, rfl⟩) | (go_at_call 33; refine (cL _).mono ?_; rintro e w1 ⟨rfl, rfl⟩) | ((with_reducible change Code.wp _ (Code.region _ _ _) _ _ _); refine wp_region_quiet_below (by kernel_rfl) (by kernel_rfl) ?_; (repeat (first | go_big_quiet_step ((first | (go_at_call 32; exact Calls.regrown_of (below_of_same (cS _))) | (go_at_call 33; exact Calls.regrown_of (below_of_same (cL _))))) | quiet_step ((first | (go_at_call 32; exact Calls.regrown_of (below_of_same (cS _))) | (go_at_call 33; exact Calls.regrown_of (below_of_same (cL _))))))); refine wpQuiet_nil ?_; intro w1 hw1; have hb := below_of_regrown hw1; clear hw1; obtain ⟨hS, hE, hz, hc, hf⟩ := bcell hb; (try simp only [go_sem] at hE); subst hE))
  go_ret
  exact ⟨rfl, rfl⟩
theorem mk_low (m e : Int) (n L : Nat) (b : Bool) (hb : decide (m < 0) = b) (w : World) (cS : ∀ w, Calls Tryd.prog 32 #[.int .i64 m] w fun e w' => e = .returned (.int .u64 n) ∧ w = w') (cL : ∀ w, Calls Tryd.prog 33 #[.int .u64 n] w fun e w' => e = .returned (.int .i64 L) ∧ w = w')
    (b1 : (m == 0) = false) (b2 : decide (e < -2000) = true) : Calls Tryd.prog 16 #[.int .i64 m, .int .i64 e] w fun e w' => e = .returned (.float .f64 (word b 0)) ∧ w = w' := by
  have G := fun (w : World) => copy_any b 0 (by decide) w
  cases b
  all_goals
    simp only [sF_true, sF_false] at G
    go_enter Tryd.func16, Tryd.ntmps16
    go_wp2_with (first | (go_at_call 32; refine (cS _).mono ?_; rintro e w1 ⟨rfl, rfl⟩) | (go_at_call 33; refine (cL _).mono ?_; rintro e w1 ⟨rfl, rfl⟩) | (go_at_call 29; refine (G _).mono ?_; rintro e w1 ⟨rfl, rfl⟩) | ((with_reducible change Code.wp _ (Code.region _ _ _) _ _ _); refine wp_region_quiet_below (by kernel_rfl) (by kernel_rfl) ?_; (repeat (first | go_big_quiet_step ((first | (go_at_call 32; exact Calls.regrown_of (below_of_same (cS _))) | (go_at_call 33; exact Calls.regrown_of (below_of_same (cL _))) | (go_at_call 29; exact Calls.regrown_of (below_of_same (G _))))) | quiet_step ((first | (go_at_call 32; exact Calls.regrown_of (below_of_same (cS _))) | (go_at_call 33; exact Calls.regrown_of (below_of_same (cL _))) | (go_at_call 29; exact Calls.regrown_of (below_of_same (G _))))))); refine wpQuiet_nil ?_; intro w1 hw1; have hb := below_of_regrown hw1; clear hw1; obtain ⟨hS, hE, hz, hc, hf⟩ := bcell hb; (try simp only [go_sem] at hE); subst hE))
    go_ret
    exact ⟨rfl, rfl⟩
theorem mk_inf (m e : Int) (n L : Nat) (b : Bool) (hb : decide (m < 0) = b) (w : World) (cS : ∀ w, Calls Tryd.prog 32 #[.int .i64 m] w fun e w' => e = .returned (.int .u64 n) ∧ w = w') (cL : ∀ w, Calls Tryd.prog 33 #[.int .u64 n] w fun e w' => e = .returned (.int .i64 L) ∧ w = w')
    (b1 : (m == 0) = false) (b2 : decide (e < -2000) = false) (hL2 : L ≤ 64) (h : decide (2000 < e) = true ∨ (decide (2000 < e) = false ∧ -2000 ≤ e ∧ e ≤ 2000 ∧ decide (1024 < e + (L : Int)) = true)) :
    Calls Tryd.prog 16 #[.int .i64 m, .int .i64 e] w fun e w' => e = .returned (.float .f64 (word b 9218868437227405312)) ∧ w = w' := by
  cases b
  · have cI := fun (w : World) => inf_any 1 9218868437227405312 (.inl ⟨rfl, rfl⟩) w
    have hq := fun (w : World) => run_convert_float_int (P := Tryd.prog) w 22 3 .f64 .i64 _ _ (by rw [Tryd.underlying22]; rfl) Tryd.underlying3 int_pos
    rcases h with h | ⟨h, h2, h3, h4⟩
    all_goals
      go_enter Tryd.func16, Tryd.ntmps16
      go_wp2_with (first | (go_at_call 32; refine (cS _).mono ?_; rintro e w1 ⟨rfl, rfl⟩) | (go_at_call 33; refine (cL _).mono ?_; rintro e w1 ⟨rfl, rfl⟩) | (go_at_call 30; refine (cI _).mono ?_; rintro e w1 ⟨rfl, rfl⟩) | ((with_reducible change Code.wp _ (Code.region _ _ _) _ _ _); refine wp_region_quiet_below (by kernel_rfl) (by kernel_rfl) ?_; (repeat (first | go_big_quiet_step ((first | (go_at_call 32; exact Calls.regrown_of (below_of_same (cS _))) | (go_at_call 33; exact Calls.regrown_of (below_of_same (cL _))) | (go_at_call 30; exact Calls.regrown_of (below_of_same (cI _))))) | quiet_step ((first | (go_at_call 32; exact Calls.regrown_of (below_of_same (cS _))) | (go_at_call 33; exact Calls.regrown_of (below_of_same (cL _))) | (go_at_call 30; exact Calls.regrown_of (below_of_same (cI _))))))); refine wpQuiet_nil ?_; intro w1 hw1; have hb := below_of_regrown hw1; clear hw1; obtain ⟨hS, hE, hz, hc, hf⟩ := bcell hb; (try simp only [go_sem] at hE); subst hE))
      go_ret
      exact ⟨rfl, rfl⟩
  · have cI := fun (w : World) => inf_any (-1) 18442240474082181120 (.inr ⟨rfl, rfl⟩) w
    have hq := fun (w : World) => run_convert_float_int (P := Tryd.prog) w 22 3 .f64 .i64 _ _ (by rw [Tryd.underlying22]; rfl) Tryd.underlying3 int_neg
    rcases h with h | ⟨h, h2, h3, h4⟩
    all_goals
      go_enter Tryd.func16, Tryd.ntmps16
      go_wp2_with (first | (go_at_call 32; refine (cS _).mono ?_; rintro e w1 ⟨rfl, rfl⟩) | (go_at_call 33; refine (cL _).mono ?_; rintro e w1 ⟨rfl, rfl⟩) | (go_at_call 30; refine (cI _).mono ?_; rintro e w1 ⟨rfl, rfl⟩) | ((with_reducible change Code.wp _ (Code.region _ _ _) _ _ _); refine wp_region_quiet_below (by kernel_rfl) (by kernel_rfl) ?_; (repeat (first | go_big_quiet_step ((first | (go_at_call 32; exact Calls.regrown_of (below_of_same (cS _))) | (go_at_call 33; exact Calls.regrown_of (below_of_same (cL _))) | (go_at_call 30; exact Calls.regrown_of (below_of_same (cI _))))) | quiet_step ((first | (go_at_call 32; exact Calls.regrown_of (below_of_same (cS _))) | (go_at_call 33; exact Calls.regrown_of (below_of_same (cL _))) | (go_at_call 30; exact Calls.regrown_of (below_of_same (cI _))))))); refine wpQuiet_nil ?_; intro w1 hw1; have hb := below_of_regrown hw1; clear hw1; obtain ⟨hS, hE, hz, hc, hf⟩ := bcell hb; (try simp only [go_sem] at hE); subst hE))
      go_ret
      exact ⟨rfl, rfl⟩
/-- How the kept bits come: shifted to the left, or halved. -/
def keptH (n K : Nat) (d s : Int) : Prop := (∃ k : Nat, d = k ∧ IntKind.u64.wrap ((n : Int) * 2 ^ k) = (K : Int)) ∨ (d < 0 ∧ ∀ w, Calls Tryd.prog 34 #[.int .u64 n, .int .i64 s] w fun e w' => e = .returned (.int .u64 K) ∧ w = w')
set_option maxHeartbeats 4000000 in
theorem mk_fin (m e a d s : Int) (n L K j : Nat) (b : Bool) (hb : decide (m < 0) = b) (w : World) (cS : ∀ w, Calls Tryd.prog 32 #[.int .i64 m] w fun e w' => e = .returned (.int .u64 n) ∧ w = w') (cL : ∀ w, Calls Tryd.prog 33 #[.int .u64 n] w fun e w' => e = .returned (.int .i64 L) ∧ w = w')
    (b1 : (m == 0) = false) (b2 : decide (e < -2000) = false) (b3 : decide (2000 < e) = false) (b4 : decide (1024 < e + (L : Int)) = false) (he : -2000 ≤ e ∧ e ≤ 2000) (hL2 : L ≤ 64)
    (ha : max (e + (L : Int) - 52 - 1) (-1074) = a) (ha2 : -1074 ≤ a ∧ a ≤ 971) (haj : a - -1074 = (j : Int)) (hj : j ≤ 2045) (hd : e - a = d) (hs : a - e = s)
    (hK : keptH n K d s) (hT : (decide ((4503599627370496 : Int) ≤ K) = false ∧ j = 0) ∨ decide ((4503599627370496 : Int) ≤ K) = true) (hK2 : (K : Int) ≤ 9007199254740992) :
    Calls Tryd.prog 16 #[.int .i64 m, .int .i64 e] w fun e w' => e = .returned (.float .f64 (word b (j * 4503599627370496 + K))) ∧ w = w' := by
  have G := fun (v : Nat) (w : World) (hv : v = j * 4503599627370496 + K) => (show Calls Tryd.prog 29 #[.float .f64 v, .float .f64 (sF b)] w fun e w' => e = .returned (.float .f64 (word b (j * 4503599627370496 + K))) ∧ w = w' from by subst hv; exact copy_any b _ (by omega) w)
  generalize word b (j * 4503599627370496 + K) = W at *
  unfold keptH at hK
  have hds : d = -s := by omega
  have hG : ∃ f, f = sF b ∧ ((decide (m < 0) = true ∧ f = 13830554455654793216) ∨ (decide (m < 0) = false ∧ f = 4607182418800017408)) := ⟨_, rfl, by rw [hb]; cases b <;> simp [sF]⟩
  obtain ⟨f, hf, hm⟩ := hG
  rw [← hf] at G
  clear hf hb
  have c1 : (∃ k : Nat, decide (a ≤ e) = true ∧ d = k ∧ IntKind.u64.wrap ((n : Int) * 2 ^ k) = (K : Int)) ∨ (decide (a ≤ e) = false ∧ ∀ w, Calls Tryd.prog 34 #[.int .u64 n, .int .i64 s] w fun e w' => e = .returned (.int .u64 K) ∧ w = w') := by
    rcases hK with ⟨k, h1, h2⟩ | ⟨h1, h2⟩
    · exact .inl ⟨k, decide_eq_true (by omega), h1, h2⟩
    · exact .inr ⟨decide_eq_false (by omega), h2⟩
  clear hK
  clear hds
  rcases hm with ⟨hm, rfl⟩ | ⟨hm, rfl⟩
  all_goals
    rcases c1 with ⟨k, c1, rfl, k2⟩ | ⟨c1, k2⟩
  all_goals
    rcases hT with ⟨t1, rfl⟩ | t1
  all_goals
    go_enter Tryd.func16, Tryd.ntmps16
    go_wp2_with (first | (go_at_call 32; refine (cS _).mono ?_; rintro e w1 ⟨rfl, rfl⟩) | (go_at_call 33; refine (cL _).mono ?_; rintro e w1 ⟨rfl, rfl⟩) | (go_at_call 34; refine (k2 _).mono ?_; rintro e w1 ⟨rfl, rfl⟩) | (go_at_call 29; refine (G _ _ (by omega)).mono ?_; rintro e w1 ⟨rfl, rfl⟩) | ((with_reducible change Code.wp _ (Code.region _ _ _) _ _ _); refine wp_region_quiet_below (by kernel_rfl) (by kernel_rfl) ?_; (repeat (first | go_big_quiet_step ((first | (go_at_call 32; exact Calls.regrown_of (below_of_same (cS _))) | (go_at_call 33; exact Calls.regrown_of (below_of_same (cL _))) | (go_at_call 34; exact Calls.regrown_of (below_of_same (k2 _))) | (go_at_call 29; exact Calls.regrown_of (below_of_same (G _ _ (by omega)))))) | quiet_step ((first | (go_at_call 32; exact Calls.regrown_of (below_of_same (cS _))) | (go_at_call 33; exact Calls.regrown_of (below_of_same (cL _))) | (go_at_call 34; exact Calls.regrown_of (below_of_same (k2 _))) | (go_at_call 29; exact Calls.regrown_of (below_of_same (G _ _ (by omega)))))))); refine wpQuiet_nil ?_; intro w1 hw1; have hb := below_of_regrown hw1; clear hw1; obtain ⟨hS, hE, hz, hc, hf⟩ := bcell hb; (try simp only [go_sem] at hE); subst hE))
    go_ret
    exact ⟨rfl, rfl⟩
end Go.Proofs.YtddifbgdjdahfaaDoor.Real
