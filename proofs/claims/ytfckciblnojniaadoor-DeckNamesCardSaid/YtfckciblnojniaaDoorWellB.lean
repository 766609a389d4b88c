/- The name of a place, by this layer. Condition: the library's table of powers of ten is in place. -/
import Derived.Test.YtfckciblnojniaaDoorWellA
import Derived.Lib.RuneBytes
namespace Go.Proofs.YtfckciblnojniaaDoor.Well
open Go.ChangeShapes Go.WideShapes Go.ChangeAt Go.RowKit Go.Proofs.YtfckciblnojniaaDoor.Kit Go.Proofs.YtfckciblnojniaaDoor.Num Go.Deep
set_option linter.unusedVariables false
def ltr (m : Nat) : List UInt8 := [UInt8.ofNat (65 + m)]
theorem enc_letter (k : Nat) (h : k < 26) : Utf8.encode (65 + (k : Int)) = ⟨(ltr k).toArray⟩ := by
  have e : k = 0 ∨ k = 1 ∨ k = 2 ∨ k = 3 ∨ k = 4 ∨ k = 5 ∨ k = 6 ∨ k = 7 ∨ k = 8 ∨ k = 9 ∨ k = 10 ∨ k = 11 ∨ k = 12 ∨ k = 13 ∨ k = 14 ∨ k = 15 ∨ k = 16 ∨ k = 17 ∨ k = 18 ∨ k = 19 ∨ k = 20 ∨ k = 21 ∨ k = 22 ∨ k = 23 ∨ k = 24 ∨ k = 25 := by omega
  rcases e with rfl | rfl | rfl | rfl | rfl | rfl | rfl | rfl | rfl | rfl | rfl | rfl | rfl | rfl | rfl | rfl | rfl | rfl | rfl | rfl | rfl | rfl | rfl | rfl | rfl | rfl <;> rfl
/-- The name of a place that is one. -/
def nameB (r c : Nat) : List UInt8 := (if 25 < r then [65] else []) ++ ltr (r % 26) ++ Lib.decDigits (c + 1)
theorem name_low (r c : Nat) (w : World) (h : Pow w) (h2 : r ≤ 25) (h4 : c ≤ 47) : Calls Tryd.prog 38 #[.agg #[.int .i64 r, .int .i64 c]] w fun e w' => e = .returned (.string ⟨(nameB r c).toArray⟩) ∧ Below w.heap.size w w' := by
  have HP := hide h
  have R := fun w => right_any r c w
  rw [show rightP r c = true from decide_eq_true (by omega)] at R
  have T := fun w h => text_any ((c : Int) + 1) (by unfold In64; omega) w h
  have m1 : Int.tmod (r : Int) 26 = r := by rw [Int.tmod_eq_emod_of_nonneg (by omega)]; omega
  have q1 : Int.tdiv (r : Int) 26 = 0 := by rw [Int.tdiv_eq_ediv_of_nonneg (by omega)]; omega
  have w1' : IntKind.i32.wrap (65 + (r : Int)) = 65 + r := by rw [IntKind.wrap_i32]; omega
  have en := enc_letter r (by omega)
  have ei : Lib.itoa ((c : Int) + 1) = Lib.decDigits (c + 1) := by
    unfold Lib.itoa
    rw [if_neg (by omega)]
    rfl
  have hsz := dec_size (c + 1) (by omega)
  have eb : nameB r c = ltr r ++ Lib.decDigits (c + 1) := by
    unfold nameB
    rw [if_neg (by omega), Nat.mod_eq_of_lt (by omega)]
    rfl
  have hap := mk_append (ltr r) (Lib.decDigits (c + 1))
  have hle : (⟨(ltr r).toArray⟩ : ByteArray).size = 1 := rfl
  rw [← eb] at hap
  rw [ei] at T
  have HAP := hide hap
  clear h hap ei eb
  generalize (⟨(nameB r c).toArray⟩ : ByteArray) = N at *
  generalize (⟨(Lib.decDigits (c + 1)).toArray⟩ : ByteArray) = t at *
  generalize (⟨(ltr r).toArray⟩ : ByteArray) = L at *
  go_enter Tryd.func38, Tryd.ntmps38
  go_wp2_with (first | (go_at_call 50; refine (R _).mono ?_; rintro e w1 ⟨rfl, hb⟩; obtain ⟨hS, hE, hz, hc, hf⟩ := bcell hb; (try simp only [go_sem] at hE); subst hE) | (go_at_call 37; refine (T _ (HP.out.below (B := w.heap.size) (by repeat' (first | (with_reducible exact Below.refl _ _) | (with_reducible refine below_drewN ?_ _) | (with_reducible refine Below.drew ?_) | (with_reducible refine Below.alloc ?_ ?_ _) | (with_reducible refine Below.setCell ?_ ?_ _) | (with_reducible refine below_step ?_ (by assumption) ?_) | (with_reducible refine below_step ?_ (below_regrown _ _ _) ?_) | go_size)) (by omega))).mono ?_; rintro e w1 ⟨rfl, hb⟩; obtain ⟨hS, hE, hz, hc, hf⟩ := bcell hb; (try simp only [go_sem] at hE); subst hE) | ((with_reducible change Code.wp _ (Code.region _ _ _) _ _ _); refine wp_region_quiet_below (by kernel_rfl) (by kernel_rfl) ?_; (repeat (first | go_big_quiet_step ((first | (go_at_call 50; exact Calls.regrown_of (R _)) | (go_at_call 37; exact Calls.regrown_of (T _ (HP.out.below (B := w.heap.size) (by repeat' (first | (with_reducible exact Below.refl _ _) | (with_reducible refine below_drewN ?_ _) | (with_reducible refine Below.drew ?_) | (with_reducible refine Below.alloc ?_ ?_ _) | (with_reducible refine Below.setCell ?_ ?_ _) | (with_reducible refine below_step ?_ (by assumption) ?_) | (with_reducible refine below_step ?_ (below_regrown _ _ _) ?_) | go_size)) (by omega)))))) | quiet_step ((first | (go_at_call 50; exact Calls.regrown_of (R _)) | (go_at_call 37; exact Calls.regrown_of (T _ (HP.out.below (B := w.heap.size) (by repeat' (first | (with_reducible exact Below.refl _ _) | (with_reducible refine below_drewN ?_ _) | (with_reducible refine Below.drew ?_) | (with_reducible refine Below.alloc ?_ ?_ _) | (with_reducible refine Below.setCell ?_ ?_ _) | (with_reducible refine below_step ?_ (by assumption) ?_) | (with_reducible refine below_step ?_ (below_regrown _ _ _) ?_) | go_size)) (by omega)))))))); refine wpQuiet_nil ?_; intro w1 hw1; have hb := below_of_regrown hw1; clear hw1; obtain ⟨hS, hE, hz, hc, hf⟩ := bcell hb; (try simp only [go_sem] at hE); subst hE))
  go_ret
  exact ⟨by rw [← HAP.out]; rfl, (by repeat' (first | (with_reducible exact Below.refl _ _) | (with_reducible refine below_drewN ?_ _) | (with_reducible refine Below.drew ?_) | (with_reducible refine Below.alloc ?_ ?_ _) | (with_reducible refine Below.setCell ?_ ?_ _) | (with_reducible refine below_step ?_ (by assumption) ?_) | (with_reducible refine below_step ?_ (below_regrown _ _ _) ?_) | go_size))⟩
theorem name_high (r c : Nat) (w : World) (h : Pow w) (h1 : 26 ≤ r) (h2 : r ≤ 31) (h4 : c ≤ 47) : Calls Tryd.prog 38 #[.agg #[.int .i64 r, .int .i64 c]] w fun e w' => e = .returned (.string ⟨(nameB r c).toArray⟩) ∧ Below w.heap.size w w' := by
  have HP := hide h
  have R := fun w => right_any r c w
  rw [show rightP r c = true from decide_eq_true (by omega)] at R
  have T := fun w h => text_any ((c : Int) + 1) (by unfold In64; omega) w h
  obtain ⟨q, hq⟩ : ∃ q, r = q + 26 := ⟨r - 26, by omega⟩
  have m1 : Int.tmod (r : Int) 26 = q := by rw [Int.tmod_eq_emod_of_nonneg (by omega)]; omega
  have q1 : Int.tdiv (r : Int) 26 = 1 := by rw [Int.tdiv_eq_ediv_of_nonneg (by omega)]; omega
  have w1' : IntKind.i32.wrap (65 + (q : Int)) = 65 + q := by rw [IntKind.wrap_i32]; omega
  have ei : Lib.itoa ((c : Int) + 1) = Lib.decDigits (c + 1) := by
    unfold Lib.itoa
    rw [if_neg (by omega)]
    rfl
  have hsz := dec_size (c + 1) (by omega)
  have eb : nameB r c = ([65] ++ ltr q) ++ Lib.decDigits (c + 1) := by
    unfold nameB
    rw [if_pos (by omega), show r % 26 = q by omega]
  obtain ⟨L0, L, L2, N, en0, en, hcat, hs0, hs1, hs2, hN, HAP⟩ : ∃ L0 L L2 N : ByteArray, Utf8.encode 65 = L0 ∧ Utf8.encode (65 + (q : Int)) = L ∧ L0 ++ L = L2 ∧ L0.size = 1 ∧ L.size = 1 ∧ L2.size = 2 ∧ Hid ((⟨(nameB r c).toArray⟩ : ByteArray) = N) ∧ Hid (L2 ++ (⟨(Lib.decDigits (c + 1)).toArray⟩ : ByteArray) = N) :=
    ⟨_, _, _, _, rfl, enc_letter q (by omega), mk_append [65] (ltr q), rfl, rfl, rfl, hide rfl, hide (by rw [eb]; exact mk_append _ _)⟩
  rw [ei] at T
  obtain ⟨x, hx⟩ : ∃ x : Int, 65 + (q : Int) = x := ⟨_, rfl⟩
  rw [hx] at w1' en
  have x1 : 65 ≤ x := by omega
  have x2 : x ≤ 90 := by omega
  clear hq
  clear h ei eb
  go_enter Tryd.func38, Tryd.ntmps38
  go_wp2_with (first | (go_at_call 50; refine (R _).mono ?_; rintro e w1 ⟨rfl, hb⟩; obtain ⟨hS, hE, hz, hc, hf⟩ := bcell hb; (try simp only [go_sem] at hE); subst hE) | (go_at_call 37; refine (T _ (HP.out.below (B := w.heap.size) (by repeat' (first | (with_reducible exact Below.refl _ _) | (with_reducible refine below_drewN ?_ _) | (with_reducible refine Below.drew ?_) | (with_reducible refine Below.alloc ?_ ?_ _) | (with_reducible refine Below.setCell ?_ ?_ _) | (with_reducible refine below_step ?_ (by assumption) ?_) | (with_reducible refine below_step ?_ (below_regrown _ _ _) ?_) | go_size)) (by omega))).mono ?_; rintro e w1 ⟨rfl, hb⟩; obtain ⟨hS, hE, hz, hc, hf⟩ := bcell hb; (try simp only [go_sem] at hE); subst hE) | ((with_reducible change Code.wp _ (Code.region _ _ _) _ _ _); refine wp_region_quiet_below (by kernel_rfl) (by kernel_rfl) ?_; (repeat (first | go_big_quiet_step ((first | (go_at_call 50; exact Calls.regrown_of (R _)) | (go_at_call 37; exact Calls.regrown_of (T _ (HP.out.below (B := w.heap.size) (by repeat' (first | (with_reducible exact Below.refl _ _) | (with_reducible refine below_drewN ?_ _) | (with_reducible refine Below.drew ?_) | (with_reducible refine Below.alloc ?_ ?_ _) | (with_reducible refine Below.setCell ?_ ?_ _) | (with_reducible refine below_step ?_ (by assumption) ?_) | (with_reducible refine below_step ?_ (below_regrown _ _ _) ?_) | go_size)) (by omega)))))) | quiet_step ((first | (go_at_call 50; exact Calls.regrown_of (R _)) | (go_at_call 37; exact Calls.regrown_of (T _ (HP.out.below (B := w.heap.size) (by repeat' (first | (with_reducible exact Below.refl _ _) | (with_reducible refine below_drewN ?_ _) | (with_reducible refine Below.drew ?_) | (with_reducible refine Below.alloc ?_ ?_ _) | (with_reducible refine Below.setCell ?_ ?_ _) | (with_reducible refine below_step ?_ (by assumption) ?_) | (with_reducible refine below_step ?_ (below_regrown _ _ _) ?_) | go_size)) (by omega)))))))); refine wpQuiet_nil ?_; intro w1 hw1; have hb := below_of_regrown hw1; clear hw1; obtain ⟨hS, hE, hz, hc, hf⟩ := bcell hb; (try simp only [go_sem] at hE); subst hE))
  go_ret
  exact ⟨by rw [hN.out, ← HAP.out]; rfl, (by repeat' (first | (with_reducible exact Below.refl _ _) | (with_reducible refine below_drewN ?_ _) | (with_reducible refine Below.drew ?_) | (with_reducible refine Below.alloc ?_ ?_ _) | (with_reducible refine Below.setCell ?_ ?_ _) | (with_reducible refine below_step ?_ (by assumption) ?_) | (with_reducible refine below_step ?_ (below_regrown _ _ _) ?_) | go_size))⟩
end Go.Proofs.YtfckciblnojniaaDoor.Well
