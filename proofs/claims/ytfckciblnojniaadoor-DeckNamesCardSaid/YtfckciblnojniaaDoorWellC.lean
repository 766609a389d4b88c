/- The name of a place, by the reference. No condition. -/
import Derived.Test.YtfckciblnojniaaDoorWellB
namespace Go.Proofs.YtfckciblnojniaaDoor.Well
open Go.ChangeShapes Go.WideShapes Go.ChangeAt Go.RowKit Go.Proofs.YtfckciblnojniaaDoor.Kit Go.Proofs.YtfckciblnojniaaDoor.Num Go.Deep
set_option linter.unusedVariables false
theorem name_none (r c : Int) (w : World) (h : rightP r c = false) : Calls Tryd.prog 52 #[.agg #[.int .i64 r, .int .i64 c]] w fun e w' => e = .returned (.string ⟨#[]⟩) ∧ Below w.heap.size w w' := by
  have R := fun w => rright_any r c w
  rw [h] at R
  go_enter Tryd.func52, Tryd.ntmps52
  go_wp2_with (first | (go_at_call 61; refine (R _).mono ?_; rintro e w1 ⟨rfl, hb⟩; obtain ⟨hS, hE, hz, hc, hf⟩ := bcell hb; (try simp only [go_sem] at hE); subst hE) | ((with_reducible change Code.wp _ (Code.region _ _ _) _ _ _); refine wp_region_quiet_below (by kernel_rfl) (by kernel_rfl) ?_; (repeat (first | go_big_quiet_step ((first | (go_at_call 61; exact Calls.regrown_of (R _)))) | quiet_step ((first | (go_at_call 61; exact Calls.regrown_of (R _)))))); refine wpQuiet_nil ?_; intro w1 hw1; have hb := below_of_regrown hw1; clear hw1; obtain ⟨hS, hE, hz, hc, hf⟩ := bcell hb; (try simp only [go_sem] at hE); subst hE))
  go_ret
  exact ⟨rfl, (by repeat' (first | (with_reducible exact Below.refl _ _) | (with_reducible refine below_drewN ?_ _) | (with_reducible refine Below.drew ?_) | (with_reducible refine Below.alloc ?_ ?_ _) | (with_reducible refine Below.setCell ?_ ?_ _) | (with_reducible refine below_step ?_ (by assumption) ?_) | (with_reducible refine below_step ?_ (below_regrown _ _ _) ?_) | go_size))⟩
theorem let_one (k : Nat) (h : k < 26) : ({ data := #[65, 66, 67, 68, 69, 70, 71, 72, 73, 74, 75, 76, 77, 78, 79, 80, 81, 82, 83, 84, 85, 86, 87, 88, 89, 90] } : ByteArray).extract k (k + 1) = ⟨(ltr k).toArray⟩ := by
  have e : k = 0 ∨ k = 1 ∨ k = 2 ∨ k = 3 ∨ k = 4 ∨ k = 5 ∨ k = 6 ∨ k = 7 ∨ k = 8 ∨ k = 9 ∨ k = 10 ∨ k = 11 ∨ k = 12 ∨ k = 13 ∨ k = 14 ∨ k = 15 ∨ k = 16 ∨ k = 17 ∨ k = 18 ∨ k = 19 ∨ k = 20 ∨ k = 21 ∨ k = 22 ∨ k = 23 ∨ k = 24 ∨ k = 25 := by omega
  rcases e with rfl | rfl | rfl | rfl | rfl | rfl | rfl | rfl | rfl | rfl | rfl | rfl | rfl | rfl | rfl | rfl | rfl | rfl | rfl | rfl | rfl | rfl | rfl | rfl | rfl | rfl <;> rfl
theorem rname_low (r c : Nat) (w : World) (h2 : r ≤ 25) (h4 : c ≤ 47) : Calls Tryd.prog 52 #[.agg #[.int .i64 r, .int .i64 c]] w fun e w' => e = .returned (.string ⟨(nameB r c).toArray⟩) ∧ Below w.heap.size w w' := by
  have R := fun w => rright_any r c w
  rw [show rightP r c = true from decide_eq_true (by omega)] at R
  have T := fun w => rtext_any ((c : Int) + 1) (by unfold In64; omega) w
  have en := let_one r (by omega)
  have ei : Lib.itoa ((c : Int) + 1) = Lib.decDigits (c + 1) := by
    unfold Lib.itoa
    rw [if_neg (by omega)]
    rfl
  have hsz := dec_size (c + 1) (by omega)
  have eb : nameB r c = ltr r ++ Lib.decDigits (c + 1) := by
    unfold nameB
    rw [if_neg (by omega), Nat.mod_eq_of_lt (by omega)]
    rfl
  have hap := mk_append (ltr r) (Lib.decDigits (c + 1))
  have hle : (⟨(ltr r).toArray⟩ : ByteArray).size = 1 := rfl
  have hem : (⟨#[]⟩ : ByteArray) ++ (⟨(ltr r).toArray⟩ : ByteArray) = ⟨(ltr r).toArray⟩ := mk_append [] (ltr r)
  rw [← eb] at hap
  rw [ei] at T
  have HAP := hide hap
  clear hap ei eb
  generalize (⟨(nameB r c).toArray⟩ : ByteArray) = N at *
  generalize (⟨(Lib.decDigits (c + 1)).toArray⟩ : ByteArray) = t at *
  generalize (⟨(ltr r).toArray⟩ : ByteArray) = L at *
  go_enter Tryd.func52, Tryd.ntmps52
  go_wp2_with (first | (go_at_call 61; refine (R _).mono ?_; rintro e w1 ⟨rfl, hb⟩; obtain ⟨hS, hE, hz, hc, hf⟩ := bcell hb; (try simp only [go_sem] at hE); subst hE) | (go_at_call 51; refine (T _).mono ?_; rintro e w1 ⟨rfl, hb⟩; obtain ⟨hS, hE, hz, hc, hf⟩ := bcell hb; (try simp only [go_sem] at hE); subst hE) | ((with_reducible change Code.wp _ (Code.region _ _ _) _ _ _); refine wp_region_quiet_below (by kernel_rfl) (by kernel_rfl) ?_; (repeat (first | go_big_quiet_step ((first | (go_at_call 61; exact Calls.regrown_of (R _)) | (go_at_call 51; exact Calls.regrown_of (T _)))) | quiet_step ((first | (go_at_call 61; exact Calls.regrown_of (R _)) | (go_at_call 51; exact Calls.regrown_of (T _)))))); refine wpQuiet_nil ?_; intro w1 hw1; have hb := below_of_regrown hw1; clear hw1; obtain ⟨hS, hE, hz, hc, hf⟩ := bcell hb; (try simp only [go_sem] at hE); subst hE))
  go_ret
  exact ⟨by rw [← HAP.out]; rfl, (by repeat' (first | (with_reducible exact Below.refl _ _) | (with_reducible refine below_drewN ?_ _) | (with_reducible refine Below.drew ?_) | (with_reducible refine Below.alloc ?_ ?_ _) | (with_reducible refine Below.setCell ?_ ?_ _) | (with_reducible refine below_step ?_ (by assumption) ?_) | (with_reducible refine below_step ?_ (below_regrown _ _ _) ?_) | go_size))⟩
theorem rname_high (r c : Nat) (w : World) (h1 : 26 ≤ r) (h2 : r ≤ 31) (h4 : c ≤ 47) : Calls Tryd.prog 52 #[.agg #[.int .i64 r, .int .i64 c]] w fun e w' => e = .returned (.string ⟨(nameB r c).toArray⟩) ∧ Below w.heap.size w w' := by
  have R := fun w => rright_any r c w
  rw [show rightP r c = true from decide_eq_true (by omega)] at R
  have T := fun w => rtext_any ((c : Int) + 1) (by unfold In64; omega) w
  obtain ⟨q, hq⟩ : ∃ q, r = q + 26 := ⟨r - 26, by omega⟩
  have hq2 : IntKind.i64.wrap ((r : Int) - 26) = q := by rw [show (r : Int) - 26 = q by omega]; exact IntWalk.i64_in _ (by omega)
  have hq3 : q ≤ 25 := by omega
  have ei : Lib.itoa ((c : Int) + 1) = Lib.decDigits (c + 1) := by
    unfold Lib.itoa
    rw [if_neg (by omega)]
    rfl
  have hsz := dec_size (c + 1) (by omega)
  have eb : nameB r c = ([65] ++ ltr q) ++ Lib.decDigits (c + 1) := by
    unfold nameB
    rw [if_pos (by omega), show r % 26 = q by omega]
  obtain ⟨L, L2, N, en, hcat, hs1, hs2, hN, HAP⟩ : ∃ L L2 N : ByteArray, ({ data := #[65, 66, 67, 68, 69, 70, 71, 72, 73, 74, 75, 76, 77, 78, 79, 80, 81, 82, 83, 84, 85, 86, 87, 88, 89, 90] } : ByteArray).extract q (q + 1) = L ∧ ({ data := #[65] } : ByteArray) ++ L = L2 ∧ L.size = 1 ∧ L2.size = 2 ∧ Hid ((⟨(nameB r c).toArray⟩ : ByteArray) = N) ∧ Hid (L2 ++ (⟨(Lib.decDigits (c + 1)).toArray⟩ : ByteArray) = N) :=
    ⟨_, _, _, let_one q (by omega), mk_append [65] (ltr q), rfl, rfl, hide rfl, hide (by rw [eb]; exact mk_append _ _)⟩
  rw [ei] at T
  clear ei eb hq
  go_enter Tryd.func52, Tryd.ntmps52
  go_wp2_with (first | (go_at_call 61; refine (R _).mono ?_; rintro e w1 ⟨rfl, hb⟩; obtain ⟨hS, hE, hz, hc, hf⟩ := bcell hb; (try simp only [go_sem] at hE); subst hE) | (go_at_call 51; refine (T _).mono ?_; rintro e w1 ⟨rfl, hb⟩; obtain ⟨hS, hE, hz, hc, hf⟩ := bcell hb; (try simp only [go_sem] at hE); subst hE) | ((with_reducible change Code.wp _ (Code.region _ _ _) _ _ _); refine wp_region_quiet_below (by kernel_rfl) (by kernel_rfl) ?_; (repeat (first | go_big_quiet_step ((first | (go_at_call 61; exact Calls.regrown_of (R _)) | (go_at_call 51; exact Calls.regrown_of (T _)))) | quiet_step ((first | (go_at_call 61; exact Calls.regrown_of (R _)) | (go_at_call 51; exact Calls.regrown_of (T _)))))); refine wpQuiet_nil ?_; intro w1 hw1; have hb := below_of_regrown hw1; clear hw1; obtain ⟨hS, hE, hz, hc, hf⟩ := bcell hb; (try simp only [go_sem] at hE); subst hE))
  go_ret
  exact ⟨by rw [hN.out, ← HAP.out]; rfl, (by repeat' (first | (with_reducible exact Below.refl _ _) | (with_reducible refine below_drewN ?_ _) | (with_reducible refine Below.drew ?_) | (with_reducible refine Below.alloc ?_ ?_ _) | (with_reducible refine Below.setCell ?_ ?_ _) | (with_reducible refine below_step ?_ (by assumption) ?_) | (with_reducible refine below_step ?_ (below_regrown _ _ _) ?_) | go_size))⟩
end Go.Proofs.YtfckciblnojniaaDoor.Well
