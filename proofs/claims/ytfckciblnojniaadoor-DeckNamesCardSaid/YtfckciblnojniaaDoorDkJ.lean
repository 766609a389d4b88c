/- How far along in boxes a part stands. No condition. -/
import Derived.Test.YtfckciblnojniaaDoorDkH
import Derived.Test.YtfckciblnojniaaDoorBox4
namespace Go.Proofs.YtfckciblnojniaaDoor.Dk
open Go.ChangeShapes Go.WideShapes Go.ChangeAt Go.RowKit Go.Proofs.YtfckciblnojniaaDoor.Kit Go.Proofs.YtfckciblnojniaaDoor.Flt Go.Proofs.YtfckciblnojniaaDoor.Mem Go.Proofs.YtfckciblnojniaaDoor.Rail Go.Proofs.YtfckciblnojniaaDoor.Mix Go.Deep
set_option linter.unusedVariables false
set_option linter.unusedSimpArgs false
theorem srow_take {α : Type} {enc : α → List Value} {k n m B : Nat} {w : World} {A : Option Addr} {xs : List α} (h : SRow enc k w B A n xs) (hk : ∀ x, (enc x).length = k) (hm : m ≤ n) : SRow enc k w B A m (xs.take m) := by
  obtain ⟨h1, h2⟩ := h
  refine ⟨by rw [List.length_take]; omega, fun h0 => ?_⟩
  have hmn := Nat.mul_le_mul_right k hm
  obtain ⟨b, off, hA, hb, hc⟩ := h2 (by omega)
  refine ⟨b, off, hA, hb, fun j hj => ?_⟩
  rw [hc j (by omega)]
  have e : SV enc xs = SV enc (xs.take m) ++ SV enc (xs.drop m) := by rw [sv_append, List.take_append_drop]
  have hl : (SV enc (xs.take m)).length = m * k := by rw [sv_len hk, List.length_take]; congr 1; omega
  simp only [List.getD_eq_getElem?_getD]
  rw [e, List.getElem?_append_left (by omega)]
theorem allmay_take {l : List Bx} (h : AllMay l) (m : Nat) : AllMay (l.take m) := by
  intro k hk
  rw [List.length_take] at hk
  have := h k (by omega)
  rwa [List.getD_eq_getElem?_getD, List.getElem?_take_of_lt (by omega), ← List.getD_eq_getElem?_getD]
theorem along_val {s0 r b9 cc : Nat} (h : s0 + r * b9 + cc ≤ 1000000) : Ending.returned (.int .i64 (wrap64 (wrap64 ((s0 : Int) + wrap64 ((r : Int) * (b9 : Int))) + (cc : Int)))) = Ending.returned (.int .i64 ((s0 + r * b9 + cc : Nat) : Int)) := by
  have e : (r : Int) * (b9 : Int) = ((r * b9 : Nat) : Int) := by rw [Int.natCast_mul]
  rw [e]
  generalize r * b9 = q at *
  rw [IntWalk.wrap64_in (q : Int) ⟨by omega, by omega⟩, IntWalk.wrap64_in ((s0 : Int) + q) ⟨by omega, by omega⟩, IntWalk.wrap64_in _ ⟨by omega, by omega⟩]
  norm_cast
set_option maxHeartbeats 8000000 in
set_option maxRecDepth 20000 in
theorem along_any {w : World} {B0 n c : Nat} {A : Option Addr} {l : List Bx} (hr : SRow encB 2 w B0 A n l) (hB : B0 ≤ w.heap.size) (hn : n ≤ 4) (hc : n ≤ c) (hm : AllMay l) (p : Pt) :
    Calls Tryd.prog 36 #[.slice A n c, p.val] w fun e w' => e = .returned (.int .i64 (alongF l p)) ∧ Below w.heap.size w w' := by
  have e1 := hr.1
  subst e1
  have HR := hide hr
  have HM := hide hm
  clear hr hm
  obtain ⟨k, u, r, cc⟩ := p
  unfold Pt.val
  dsimp only
  by_cases h1 : u < 0
  · have hS : Hid (alongF l ⟨k, u, r, cc⟩ = -1) := hide (by unfold alongF; rw [if_pos (.inl h1)])
    go_enter Tryd.func36, Tryd.ntmps36
    go_wp2_with (first | ((with_reducible change Code.wp _ (Code.region _ _ _) _ _ _); refine wp_region_quiet_below (by kernel_rfl) (by kernel_rfl) ?_; (repeat (first | go_big_quiet_step (fail) | quiet_step (fail))); refine wpQuiet_nil ?_; intro w1 hw1; have hb := below_of_regrown hw1; clear hw1; obtain ⟨hS, hE, hz, hc, hf⟩ := bcell hb; (try simp only [go_sem] at hE); subst hE))
    go_ret
    exact ⟨by rw [hS.out]; rfl, (by repeat' (first | (with_reducible exact Below.refl _ _) | (with_reducible refine below_drewN ?_ _) | (with_reducible refine Below.drew ?_) | (with_reducible refine Below.alloc ?_ ?_ _) | (with_reducible refine Below.setCell ?_ ?_ _) | (with_reducible refine below_step ?_ (by assumption) ?_) | (with_reducible refine below_step ?_ (below_regrown _ _ _) ?_) | go_size))⟩
  obtain ⟨u, rfl⟩ := Int.eq_ofNat_of_zero_le (show 0 ≤ u by omega)
  clear h1
  by_cases h2 : l.length ≤ u
  · have hS : Hid (alongF l ⟨k, u, r, cc⟩ = -1) := hide (by unfold alongF; rw [if_pos (.inr (by dsimp only; omega))])
    go_enter Tryd.func36, Tryd.ntmps36
    go_wp2_with (first | ((with_reducible change Code.wp _ (Code.region _ _ _) _ _ _); refine wp_region_quiet_below (by kernel_rfl) (by kernel_rfl) ?_; (repeat (first | go_big_quiet_step (fail) | quiet_step (fail))); refine wpQuiet_nil ?_; intro w1 hw1; have hb := below_of_regrown hw1; clear hw1; obtain ⟨hS, hE, hz, hc, hf⟩ := bcell hb; (try simp only [go_sem] at hE); subst hE))
    go_ret
    exact ⟨by rw [hS.out]; rfl, (by repeat' (first | (with_reducible exact Below.refl _ _) | (with_reducible refine below_drewN ?_ _) | (with_reducible refine Below.drew ?_) | (with_reducible refine Below.alloc ?_ ?_ _) | (with_reducible refine Below.setCell ?_ ?_ _) | (with_reducible refine below_step ?_ (by assumption) ?_) | (with_reducible refine below_step ?_ (below_regrown _ _ _) ?_) | go_size))⟩
  have hlt : u < l.length := by omega
  obtain ⟨b, off, rfl, hbB, hcell⟩ := box_cells HR.out (by omega) default
  obtain ⟨d0, d1⟩ := hcell u hlt
  have hm := may_iff.1 (HM.out u hlt)
  have hbr : b < w.heap.size := by omega
  have HV : Hid (alongF l ⟨k, u, r, cc⟩ = if r < 0 ∨ (l.getD u default).1 ≤ r ∨ cc < 0 ∨ (l.getD u default).2 ≤ cc then -1 else ((sumN (l.take u) + r.toNat * (l.getD u default).2.toNat + cc.toNat : Nat) : Int)) :=
    hide (by unfold alongF; dsimp only; rw [if_neg (by omega), Int.toNat_natCast])
  have hs4 := sumN_le (allmay_take HM.out u)
  rw [List.length_take, Nat.min_eq_left (by omega)] at hs4
  have cS : ∀ W, Below w.heap.size w W → Calls Tryd.prog 25 #[.slice (some ⟨b, off, none⟩) u c] W fun e w' => e = .returned (.int .i64 (sumN (l.take u) : Nat)) ∧ Below W.heap.size W w' :=
    fun W hb => sum_any (srow_take (srow_below HR.out hb hB) encB_len (by omega)) (by have := hb.size; omega) (by omega) (allmay_take HM.out u)
  clear hcell
  generalize l.getD u default = bx at *
  obtain ⟨a, b9⟩ := bx
  dsimp only at d0 d1 hm HV
  obtain ⟨m1, m2, m3, m4⟩ := hm
  obtain ⟨a, rfl⟩ := Int.eq_ofNat_of_zero_le (show 0 ≤ a by omega)
  obtain ⟨b9, rfl⟩ := Int.eq_ofNat_of_zero_le (show 0 ≤ b9 by omega)
  rw [Int.toNat_natCast] at HV
  generalize sumN (l.take u) = s0 at *
  clear h2
  by_cases h3 : r < 0
  · have hS : Hid (alongF l ⟨k, u, r, cc⟩ = -1) := hide (by rw [HV.out, if_pos (.inl h3)])
    clear HV
    go_enter Tryd.func36, Tryd.ntmps36
    go_wp2_with (first | ((with_reducible change Code.wp _ (Code.region _ _ _) _ _ _); refine wp_region_quiet_below (by kernel_rfl) (by kernel_rfl) ?_; (repeat (first | go_big_quiet_step (fail) | quiet_step (fail))); refine wpQuiet_nil ?_; intro w1 hw1; have hb := below_of_regrown hw1; clear hw1; obtain ⟨hS, hE, hz, hc, hf⟩ := bcell hb; (try simp only [go_sem] at hE); subst hE))
    go_ret
    exact ⟨by rw [hS.out]; rfl, (by repeat' (first | (with_reducible exact Below.refl _ _) | (with_reducible refine below_drewN ?_ _) | (with_reducible refine Below.drew ?_) | (with_reducible refine Below.alloc ?_ ?_ _) | (with_reducible refine Below.setCell ?_ ?_ _) | (with_reducible refine below_step ?_ (by assumption) ?_) | (with_reducible refine below_step ?_ (below_regrown _ _ _) ?_) | go_size))⟩
  obtain ⟨r, rfl⟩ := Int.eq_ofNat_of_zero_le (show 0 ≤ r by omega)
  clear h3
  by_cases h4 : a ≤ r
  · have hS : Hid (alongF l ⟨k, u, r, cc⟩ = -1) := hide (by rw [HV.out, if_pos (.inr (.inl (by omega)))])
    clear HV
    go_enter Tryd.func36, Tryd.ntmps36
    go_wp2_with (first | ((with_reducible change Code.wp _ (Code.region _ _ _) _ _ _); refine wp_region_quiet_below (by kernel_rfl) (by kernel_rfl) ?_; (repeat (first | go_big_quiet_step (fail) | quiet_step (fail))); refine wpQuiet_nil ?_; intro w1 hw1; have hb := below_of_regrown hw1; clear hw1; obtain ⟨hS, hE, hz, hc, hf⟩ := bcell hb; (try simp only [go_sem] at hE); subst hE))
    go_ret
    exact ⟨by rw [hS.out]; rfl, (by repeat' (first | (with_reducible exact Below.refl _ _) | (with_reducible refine below_drewN ?_ _) | (with_reducible refine Below.drew ?_) | (with_reducible refine Below.alloc ?_ ?_ _) | (with_reducible refine Below.setCell ?_ ?_ _) | (with_reducible refine below_step ?_ (by assumption) ?_) | (with_reducible refine below_step ?_ (below_regrown _ _ _) ?_) | go_size))⟩
  by_cases h5 : cc < 0
  · have hS : Hid (alongF l ⟨k, u, r, cc⟩ = -1) := hide (by rw [HV.out, if_pos (.inr (.inr (.inl h5)))])
    clear HV
    go_enter Tryd.func36, Tryd.ntmps36
    go_wp2_with (first | ((with_reducible change Code.wp _ (Code.region _ _ _) _ _ _); refine wp_region_quiet_below (by kernel_rfl) (by kernel_rfl) ?_; (repeat (first | go_big_quiet_step (fail) | quiet_step (fail))); refine wpQuiet_nil ?_; intro w1 hw1; have hb := below_of_regrown hw1; clear hw1; obtain ⟨hS, hE, hz, hc, hf⟩ := bcell hb; (try simp only [go_sem] at hE); subst hE))
    go_ret
    exact ⟨by rw [hS.out]; rfl, (by repeat' (first | (with_reducible exact Below.refl _ _) | (with_reducible refine below_drewN ?_ _) | (with_reducible refine Below.drew ?_) | (with_reducible refine Below.alloc ?_ ?_ _) | (with_reducible refine Below.setCell ?_ ?_ _) | (with_reducible refine below_step ?_ (by assumption) ?_) | (with_reducible refine below_step ?_ (below_regrown _ _ _) ?_) | go_size))⟩
  obtain ⟨cc, rfl⟩ := Int.eq_ofNat_of_zero_le (show 0 ≤ cc by omega)
  clear h5
  by_cases h6 : b9 ≤ cc
  · have hS : Hid (alongF l ⟨k, u, r, cc⟩ = -1) := hide (by rw [HV.out, if_pos (.inr (.inr (.inr (by omega))))])
    clear HV
    go_enter Tryd.func36, Tryd.ntmps36
    go_wp2_with (first | ((with_reducible change Code.wp _ (Code.region _ _ _) _ _ _); refine wp_region_quiet_below (by kernel_rfl) (by kernel_rfl) ?_; (repeat (first | go_big_quiet_step (fail) | quiet_step (fail))); refine wpQuiet_nil ?_; intro w1 hw1; have hb := below_of_regrown hw1; clear hw1; obtain ⟨hS, hE, hz, hc, hf⟩ := bcell hb; (try simp only [go_sem] at hE); subst hE))
    go_ret
    exact ⟨by rw [hS.out]; rfl, (by repeat' (first | (with_reducible exact Below.refl _ _) | (with_reducible refine below_drewN ?_ _) | (with_reducible refine Below.drew ?_) | (with_reducible refine Below.alloc ?_ ?_ _) | (with_reducible refine Below.setCell ?_ ?_ _) | (with_reducible refine below_step ?_ (by assumption) ?_) | (with_reducible refine below_step ?_ (below_regrown _ _ _) ?_) | go_size))⟩
  have hS : Hid (alongF l ⟨k, u, r, cc⟩ = ((s0 + r * b9 + cc : Nat) : Int)) := hide (by rw [HV.out, if_neg (by omega), Int.toNat_natCast, Int.toNat_natCast])
  have hrb : r * b9 ≤ 32 * 48 := Nat.mul_le_mul (by omega) (by omega)
  have HE : Hid (s0 + r * b9 + cc ≤ 1000000) := hide (by omega)
  clear HV hrb
  go_enter Tryd.func36, Tryd.ntmps36
  go_wp2_with (first | (go_at_call 25; (with_reducible refine (cS _ (by repeat' (first | (with_reducible exact Below.refl _ _) | (with_reducible refine below_drewN ?_ _) | (with_reducible refine Below.drew ?_) | (with_reducible refine Below.alloc ?_ ?_ _) | (with_reducible refine Below.setCell ?_ ?_ _) | (with_reducible refine below_step ?_ (by assumption) ?_) | (with_reducible refine below_step ?_ (below_regrown _ _ _) ?_) | go_size))).mono ?_); rintro e w1 ⟨rfl, hb⟩; obtain ⟨hS, hE, hz, hc, hf⟩ := bcell hb; (try simp only [go_sem] at hE); subst hE) | ((with_reducible change Code.wp _ (Code.region _ _ _) _ _ _); refine wp_region_quiet_below (by kernel_rfl) (by kernel_rfl) ?_; (repeat (first | go_big_quiet_step ((first | (go_at_call 25; (with_reducible refine Calls.regrown_of (cS _ (by repeat' (first | (with_reducible exact Below.refl _ _) | (with_reducible refine below_drewN ?_ _) | (with_reducible refine Below.drew ?_) | (with_reducible refine Below.alloc ?_ ?_ _) | (with_reducible refine Below.setCell ?_ ?_ _) | (with_reducible refine below_step ?_ (by assumption) ?_) | (with_reducible refine below_step ?_ (below_regrown _ _ _) ?_) | go_size))));))) | quiet_step ((first | (go_at_call 25; (with_reducible refine Calls.regrown_of (cS _ (by repeat' (first | (with_reducible exact Below.refl _ _) | (with_reducible refine below_drewN ?_ _) | (with_reducible refine Below.drew ?_) | (with_reducible refine Below.alloc ?_ ?_ _) | (with_reducible refine Below.setCell ?_ ?_ _) | (with_reducible refine below_step ?_ (by assumption) ?_) | (with_reducible refine below_step ?_ (below_regrown _ _ _) ?_) | go_size))));))))); refine wpQuiet_nil ?_; intro w1 hw1; have hb := below_of_regrown hw1; clear hw1; obtain ⟨hS, hE, hz, hc, hf⟩ := bcell hb; (try simp only [go_sem] at hE); subst hE))
  go_ret
  exact ⟨by rw [hS.out]; exact along_val HE.out, (by repeat' (first | (with_reducible exact Below.refl _ _) | (with_reducible refine below_drewN ?_ _) | (with_reducible refine Below.drew ?_) | (with_reducible refine Below.alloc ?_ ?_ _) | (with_reducible refine Below.setCell ?_ ?_ _) | (with_reducible refine below_step ?_ (by assumption) ?_) | (with_reducible refine below_step ?_ (below_regrown _ _ _) ?_) | go_size))⟩
end Go.Proofs.YtfckciblnojniaaDoor.Dk
