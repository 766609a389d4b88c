/- The part that stands so far along in boxes, by the program. No condition. -/
import Derived.Test.YtfckciblnojniaaDoorDkH
import Derived.Test.YtfckciblnojniaaDoorBox4
namespace Go.Proofs.YtfckciblnojniaaDoor.Dk
open Go.ChangeShapes Go.WideShapes Go.ChangeAt Go.RowKit Go.Proofs.YtfckciblnojniaaDoor.Kit Go.Proofs.YtfckciblnojniaaDoor.Flt Go.Proofs.YtfckciblnojniaaDoor.Mem Go.Proofs.YtfckciblnojniaaDoor.Rail Go.Proofs.YtfckciblnojniaaDoor.Mix Go.Deep
set_option linter.unusedVariables false
set_option linter.unusedSimpArgs false
theorem place_out {kind : Int} {u n : Nat} {b : Bx} {t : List Bx} (h : n < b.1.toNat * b.2.toNat) : placeL kind u (b :: t) n = ptAt kind u b.2.toNat n := by rw [placeL, if_pos h]
theorem place_on {kind : Int} {u n : Nat} {b : Bx} {t : List Bx} (h : ¬ n < b.1.toNat * b.2.toNat) : placeL kind u (b :: t) n = placeL kind (u + 1) t (n - b.1.toNat * b.2.toNat) := by rw [placeL, if_neg h]
theorem drop_at (l : List Bx) (k : Nat) (h : k < l.length) : l.drop k = l.getD k default :: l.drop (k + 1) := by
  rw [List.drop_eq_getElem_cons h, List.getD_eq_getElem?_getD, List.getElem?_eq_getElem h]; rfl
set_option maxHeartbeats 8000000 in
set_option maxRecDepth 20000 in
theorem place_any {w : World} {B0 n c : Nat} {A : Option Addr} {l : List Bx} (hr : SRow encB 2 w B0 A n l) (hB : B0 ≤ w.heap.size) (hn : n ≤ 8) (hm : AllMay l) (kind : Int) (m : Nat) (hlt : m < sumN l) :
    Calls Tryd.prog 35 #[.slice A n c, .int .i64 kind, .int .i64 m] w fun e w' => e = .returned (placeL kind 0 l m).val ∧ Below w.heap.size w w' := by
  have e1 := hr.1
  subst e1
  have HR := hide hr
  have HM := hide hm
  have hms : sumN l ≤ 1536 * l.length := sumN_le hm
  have hm6 : m ≤ 100000 := by omega
  clear hr hm hms
  have HV : Hid (∀ v, placeL kind 0 l m = v → placeL kind 0 l m = v) := hide (fun _ h => h)
  generalize hX : placeL kind 0 l m = X at HV ⊢
  have HX := hide hX
  clear hX HV
  go_enter Tryd.func35, Tryd.ntmps35
  go_wp2_with fail
  go_step3
  go_wp2_with fail
  go_step3
  go_wp2_with fail
  have HB0 : Hid (Below w.heap.size w ((w.alloc (.cells #[.int .i64 0, .int .i64 0, .int .i64 0, .int .i64 0] 34)).alloc (.cells #[.int .i64 kind, .int .i64 0, .int .i64 0, .int .i64 0] 34))) := hide (by repeat' (first | (with_reducible exact Below.refl _ _) | (with_reducible refine below_drewN ?_ _) | (with_reducible refine Below.drew ?_) | (with_reducible refine Below.alloc ?_ ?_ _) | (with_reducible refine Below.setCell ?_ ?_ _) | (with_reducible refine below_step ?_ (by assumption) ?_) | (with_reducible refine below_step ?_ (below_regrown _ _ _) ?_) | go_size))
  have HC : ((w.alloc (.cells #[.int .i64 0, .int .i64 0, .int .i64 0, .int .i64 0] 34)).alloc (.cells #[.int .i64 kind, .int .i64 0, .int .i64 0, .int .i64 0] 34)).cell? ⟨w.heap.size + 1, 0, none⟩ = some (.int .i64 kind) := by go_simp
  obtain ⟨w0, hw0⟩ : ∃ w0 : World, w0 = ((w.alloc (.cells #[.int .i64 0, .int .i64 0, .int .i64 0, .int .i64 0] 34)).alloc (.cells #[.int .i64 kind, .int .i64 0, .int .i64 0, .int .i64 0] 34)) := ⟨_, rfl⟩
  have hz0 : w.heap.size + 2 = w0.heap.size := by rw [hw0]; simp
  go_loopw [2, 14] (fun t i wr => ∃ k m2 : Nat, k < l.length ∧ t = .int .i64 m2 ∧ i = .int .i64 k ∧ Hid (placeL kind k (l.drop k) m2 = X) ∧ Hid (m2 < sumN (l.drop k)) ∧ m2 ≤ m ∧ Below ((w.alloc (.cells #[.int .i64 0, .int .i64 0, .int .i64 0, .int .i64 0] 34)).alloc (.cells #[.int .i64 kind, .int .i64 0, .int .i64 0, .int .i64 0] 34)).heap.size ((w.alloc (.cells #[.int .i64 0, .int .i64 0, .int .i64 0, .int .i64 0] 34)).alloc (.cells #[.int .i64 kind, .int .i64 0, .int .i64 0, .int .i64 0] 34)) wr) (fun _ i _ => l.length - (intOf i).toNat)
  case atStart => exact ⟨0, m, by rcases l with _ | ⟨b, t⟩ <;> simp_all [sumN], rfl, rfl, HX, hide hlt, Nat.le_refl _, Below.refl _ _⟩
  case round =>
    obtain ⟨k, m2, hk, rfl, rfl, HP, HS, hmm, hbw⟩ := hrel
    have hzr := hbw.size
    obtain ⟨b, off, rfl, hbB, hcell⟩ := box_cells HR.out (by omega) default
    obtain ⟨p0, p1⟩ := hcell k hk
    have HBW : Hid (Below w.heap.size w wr) := hide (HB0.out.trans (hbw.mono HB0.out.size))
    have d0 := (HBW.out.cell (p := ⟨b, off + k * 2, none⟩) (by dsimp only; omega)).trans p0
    have d1 := (HBW.out.cell (p := ⟨b, off + k * 2 + 1, none⟩) (by dsimp only; omega)).trans p1
    have hg1 : wr.heap[w.heap.size]? = some (.cells #[.int .i64 0, .int .i64 0, .int .i64 0, .int .i64 0] 34) := (hbw.block _ (by simp only [World.size_alloc]; omega)).trans ((heap_old _ _ (by simp)).trans (heap_new _ _))
    have hg2 : wr.heap[w.heap.size + 1]? = some (.cells #[.int .i64 kind, .int .i64 0, .int .i64 0, .int .i64 0] 34) := (hbw.block _ (by simp)).trans (by have h := heap_new (w.alloc (.cells #[.int .i64 0, .int .i64 0, .int .i64 0, .int .i64 0] 34)) (.cells #[.int .i64 kind, .int .i64 0, .int .i64 0, .int .i64 0] 34); rw [World.size_alloc] at h; exact h)
    obtain ⟨c0, c1, c2, c3, z0, z1, z2, z3⟩ := box4_cells hg1
    obtain ⟨x0, x1, x2, x3, y0, y1, y2, y3⟩ := box4_cells hg2
    have hsW : w.heap.size + 2 = ((w.alloc (.cells #[.int .i64 0, .int .i64 0, .int .i64 0, .int .i64 0] 34)).alloc (.cells #[.int .i64 kind, .int .i64 0, .int .i64 0, .int .i64 0] 34)).heap.size := by simp
    have hwr1 : w.heap.size + 2 ≤ wr.heap.size := by omega
    have hm := may_iff.1 (HM.out k hk)
    have hbr : b < wr.heap.size := by omega
    have HP2 := hide (HP.out)
    have HS2 := hide (HS.out)
    rw [drop_at l k hk] at HP2 HS2
    have HBR := hide hbw
    clear hcell p0 p1 hbw HP HS hg1 hg2 hw0 hz0 w0 HC
    generalize l.getD k default = bx at *
    obtain ⟨r, cc⟩ := bx
    dsimp only at d0 d1 hm
    obtain ⟨m1, m2', m3, m4⟩ := hm
    obtain ⟨a, rfl⟩ := Int.eq_ofNat_of_zero_le (show 0 ≤ r by omega)
    obtain ⟨b9, rfl⟩ := Int.eq_ofNat_of_zero_le (show 0 ≤ cc by omega)
    have hab : a * b9 ≤ 32 * 48 := Nat.mul_le_mul (by omega) (by omega)
    have cS := fun w => size_any a b9 (a * b9) rfl (by omega) w
    have HS3 : Hid (m2 < a * b9 + sumN (l.drop (k + 1))) := hide (by have := HS2.out; rwa [sumN_cons] at this)
    by_cases hls : m2 < a * b9
    · have HX2 : Hid (ptAt kind k b9 m2 = X) := hide (by rw [← HP2.out, place_out (by simpa using hls)]; rfl)
      have hb0 : ¬ b9 = 0 := by omega
      have hq : IntKind.i64.wrap ((m2 : Int) / (b9 : Int)) = ((m2 / b9 : Nat) : Int) := by
        have h := Nat.div_le_self m2 b9
        rw [show (m2 : Int) / (b9 : Int) = ((m2 / b9 : Nat) : Int) from rfl]
        generalize m2 / b9 = q at *
        exact IntWalk.i64_in _ (by omega)
      have hmd : IntKind.i64.wrap ((m2 : Int) % (b9 : Int)) = ((m2 % b9 : Nat) : Int) := by
        have h := Nat.mod_le m2 b9
        rw [show (m2 : Int) % (b9 : Int) = ((m2 % b9 : Nat) : Int) from rfl]
        generalize m2 % b9 = q at *
        exact IntWalk.i64_in _ (by omega)
      clear HP2 HS2 HS3
      generalize a * b9 = s at *
      go_wp2_with (first | (go_at_call 45; refine (cS _).mono ?_; rintro e w1 ⟨rfl, hb⟩; obtain ⟨hS, hE, hz, hc, hf⟩ := bcell hb; (try simp only [go_sem] at hE); subst hE))
      refine wp_region_mix 14 [0, 1, 2, 3, 4, 5, 6, 7, 8, 9] [10, 11, 12, 13] (fun w' => w'.cell? ⟨wr.heap.size, 1, none⟩ = some (.int .i64 b9)) (by kernel_rfl) (by kernel_rfl) (by go_simp) ?_
      simp only [opsOf, List.filterMap_cons, List.filterMap_nil, List.getElem?_toArray, List.getElem?_cons_zero, List.getElem?_cons_succ]
      repeat (refine wpPure_any (fun K hK => ?_); go_simp; refine hK _ ?_; clear hK K)
      (refine wpPure_val (.int .i64 b9) rfl (fun w' hw => by go_simp) ?_)
      repeat (refine wpPure_any (fun K hK => ?_); go_simp; refine hK _ ?_; clear hK K)
      (refine wpPure_val (.int .i64 b9) rfl (fun w' hw => by go_simp) ?_)
      repeat (refine wpPure_any (fun K hK => ?_); go_simp; refine hK _ ?_; clear hK K)
      refine wpPure_nil ?_
      (refine wpMid_step (fun K2 hK1 hK2 => ?_) (by go_simp); go_simp)
      refine hK1 _ _ (by go_simp) ?_
      (refine wpMid_step (fun K2 hK1 hK2 => ?_) (by go_simp); go_simp)
      refine hK2 _ ?_
      (refine wpMid_step (fun K2 hK1 hK2 => ?_) (by go_simp); go_simp)
      refine hK1 _ _ (by go_simp) ?_
      (refine wpMid_step (fun K2 hK1 hK2 => ?_) (by go_simp); go_simp)
      refine hK2 _ ?_
      refine wpMid_nil ?_
      simp only [List.drop_succ_cons, List.drop_zero]
      go_wp2_with fail
      (try rw [Exit.noGoto_ret])
      refine bodyPost_ret (v := .agg #[.int .i64 kind, .int .i64 k, .int .i64 (m2 / b9 : Nat), .int .i64 (m2 % b9 : Nat)]) ?_ rfl ⟨by rw [← HX2.out]; rfl, HBW.out.trans (by repeat' (first | (with_reducible exact Below.refl _ _) | (with_reducible refine below_drewN ?_ _) | (with_reducible refine Below.drew ?_) | (with_reducible refine Below.alloc ?_ ?_ _) | (with_reducible refine Below.setCell ?_ ?_ _) | (with_reducible refine below_step ?_ (by assumption) ?_) | (with_reducible refine below_step ?_ (below_regrown _ _ _) ?_) | go_size))⟩
      simp only [results, Tryd.results35]
      go_simp
    · have HX2 : Hid (placeL kind (k + 1) (l.drop (k + 1)) (m2 - a * b9) = X) := hide (by rw [← HP2.out, place_on (by simpa using hls)]; rfl)
      have HS4 : Hid (m2 - a * b9 < sumN (l.drop (k + 1))) := hide (by have := HS3.out; omega)
      have hk1 : k + 1 < l.length := by
        by_cases h : k + 1 < l.length
        · exact h
        · have := HS4.out
          rw [List.drop_eq_nil_of_le (by omega)] at this
          simp [sumN] at this
      clear HP2 HS2 HS3
      generalize a * b9 = s at *
      go_wp2_with (first | (go_at_call 45; refine (cS _).mono ?_; rintro e w1 ⟨rfl, hb⟩; obtain ⟨hS, hE, hz, hc, hf⟩ := bcell hb; (try simp only [go_sem] at hE); subst hE) | ((with_reducible change Code.wp _ (Code.region _ _ _) _ _ _); refine wp_region_quiet_below (by kernel_rfl) (by kernel_rfl) ?_; (repeat (first | go_big_quiet_step ((first | (go_at_call 45; exact Calls.regrown_of (cS _)))) | quiet_step ((first | (go_at_call 45; exact Calls.regrown_of (cS _)))))); refine wpQuiet_nil ?_; intro w1 hw1; have hb := below_of_regrown hw1; clear hw1; obtain ⟨hS, hE, hz, hc, hf⟩ := bcell hb; (try simp only [go_sem] at hE); subst hE))
      exact ⟨⟨k + 1, m2 - s, hk1, by go_num, by go_num, HX2, HS4, by omega, HBR.out.trans (by repeat' (first | (with_reducible exact Below.refl _ _) | (with_reducible refine below_drewN ?_ _) | (with_reducible refine Below.drew ?_) | (with_reducible refine Below.alloc ?_ ?_ _) | (with_reducible refine Below.setCell ?_ ?_ _) | (with_reducible refine below_step ?_ (by assumption) ?_) | (with_reducible refine below_step ?_ (below_regrown _ _ _) ?_) | go_size))⟩, by simp [intOf]; omega⟩
end Go.Proofs.YtfckciblnojniaaDoor.Dk
