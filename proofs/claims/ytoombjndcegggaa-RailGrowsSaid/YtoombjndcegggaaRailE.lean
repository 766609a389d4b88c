/- What the reference says that a tool touches. No condition. -/
import Derived.Test.YtoombjndcegggaaRailD
import Derived.Outline
namespace Go.Proofs.Ytoombjndcegggaa.Rail
open Go.ChangeShapes Go.WideShapes Go.ChangeAt Go.RowKit Go.Proofs.Ytoombjndcegggaa.Kit Go.Proofs.Ytoombjndcegggaa.Mem Go.Proofs.Ytoombjndcegggaa.Flt
set_option linter.unusedVariables false
section
variable {l : List Nat} {A : Option Addr} {B0 : Nat} {w : World}
theorem inL_le (l : List Nat) (a b n : Nat) : (inL l a b n).length ≤ n := by
  unfold inL
  have := List.length_filter_le (fun k => touchB l k a b) (List.range n)
  simpa using this
def nI (l : List Nat) : List Int := l.map fun i : Nat => (i : Int)
theorem nI_snoc (l : List Nat) (k : Nat) : nI (l ++ [k]) = nI l ++ [(k : Int)] := by simp [nI]
theorem nI_len (l : List Nat) : (nI l).length = l.length := by simp [nI]
set_option maxHeartbeats 2000000 in
theorem rreach_any (hr : FRow w B0 A l) (hB : B0 ≤ w.heap.size) (c : Nat) (x r : Nat) (hx : x < 18446744073709551616) (hr64 : r < 18446744073709551616) :
    Calls Try.prog 16 #[.slice A l.length c, .float .f64 x, .float .f64 r] w fun e w' => e = .returned (.tuple #[.agg #[.int .i64 (reachS l x r).1, .int .i64 (reachS l x r).2.1], .int .i64 (reachS l x r).2.2]) ∧ Below w.heap.size w w' := by
  have hlen := hr.len
  by_cases h0 : chkS l = 0
  · have H0 := hide h0
    by_cases n1 : nanB x = true
    · have HS : Hid (reachS l x r = (0, 0, 20)) := hide (by unfold reachS; rw [if_neg (by simp [h0]), if_pos (.inl n1)])
      clear h0
      go_enter Try.func16, Try.ntmps16
      go_wp2_with (first | (go_at_call 9; refine (rcheck_ok (hr.alloc hB _) (by simp; omega) c H0.out).mono ?_; rintro e w1 ⟨rfl, hb⟩; obtain ⟨hS, hE, hz, hc, hf⟩ := bcell hb; (try simp only [go_sem] at hE); subst hE) | (go_at_call 20; refine (rnone_any _ hx _).mono ?_; rintro e w1 ⟨rfl, rfl⟩) | (refine wp_region_quiet_below (by kernel_rfl) (by kernel_rfl) ?_; (repeat (first | go_big_quiet_step ((first | (go_at_call 9; exact Calls.regrown_of (rcheck_ok (hr.alloc hB _) (by simp; omega) c H0.out)) | (go_at_call 20; exact Calls.regrown_of (below_of_same (rnone_any _ hx _))))) | quiet_step ((first | (go_at_call 9; exact Calls.regrown_of (rcheck_ok (hr.alloc hB _) (by simp; omega) c H0.out)) | (go_at_call 20; exact Calls.regrown_of (below_of_same (rnone_any _ hx _))))))); refine wpQuiet_nil ?_; intro w1 hw1; have hb := below_of_regrown hw1; clear hw1; obtain ⟨hS, hE, hz, hc, hf⟩ := bcell hb; (try simp only [go_sem] at hE); subst hE))
      (refine bodyPost_ret (v := .tuple #[.agg #[.int .i64 (0), .int .i64 (0)], .int .i64 (20)]) ?_ rfl ⟨by rw [HS.out], (by repeat' (first | (with_reducible exact Below.refl _ _) | (with_reducible refine below_drewN ?_ _) | (with_reducible refine Below.drew ?_) | (with_reducible refine Below.alloc ?_ ?_ _) | (with_reducible refine Below.setCell ?_ ?_ _) | (with_reducible refine below_step ?_ (by assumption) ?_) | go_size))⟩; (simp only [results, Try.results16]; go_simp))
    rw [Bool.not_eq_true] at n1
    by_cases n2 : nanB r = true
    · have HS : Hid (reachS l x r = (0, 0, 20)) := hide (by unfold reachS; rw [if_neg (by simp [h0]), if_pos (.inr n2)])
      clear h0
      go_enter Try.func16, Try.ntmps16
      go_wp2_with (first | (go_at_call 9; refine (rcheck_ok (hr.alloc hB _) (by simp; omega) c H0.out).mono ?_; rintro e w1 ⟨rfl, hb⟩; obtain ⟨hS, hE, hz, hc, hf⟩ := bcell hb; (try simp only [go_sem] at hE); subst hE) | (go_at_call 20; refine (rnone_any _ (by assumption) _).mono ?_; rintro e w1 ⟨rfl, rfl⟩) | (refine wp_region_quiet_below (by kernel_rfl) (by kernel_rfl) ?_; (repeat (first | go_big_quiet_step ((first | (go_at_call 9; exact Calls.regrown_of (rcheck_ok (hr.alloc hB _) (by simp; omega) c H0.out)) | (go_at_call 20; exact Calls.regrown_of (below_of_same (rnone_any _ (by assumption) _))))) | quiet_step ((first | (go_at_call 9; exact Calls.regrown_of (rcheck_ok (hr.alloc hB _) (by simp; omega) c H0.out)) | (go_at_call 20; exact Calls.regrown_of (below_of_same (rnone_any _ (by assumption) _))))))); refine wpQuiet_nil ?_; intro w1 hw1; have hb := below_of_regrown hw1; clear hw1; obtain ⟨hS, hE, hz, hc, hf⟩ := bcell hb; (try simp only [go_sem] at hE); subst hE))
      (refine bodyPost_ret (v := .tuple #[.agg #[.int .i64 (0), .int .i64 (0)], .int .i64 (20)]) ?_ rfl ⟨by rw [HS.out], (by repeat' (first | (with_reducible exact Below.refl _ _) | (with_reducible refine below_drewN ?_ _) | (with_reducible refine Below.drew ?_) | (with_reducible refine Below.alloc ?_ ?_ _) | (with_reducible refine Below.setCell ?_ ?_ _) | (with_reducible refine below_step ?_ (by assumption) ?_) | go_size))⟩; (simp only [results, Try.results16]; go_simp))
    rw [Bool.not_eq_true] at n2
    by_cases n3 : fltB r 0 = true
    · have HS : Hid (reachS l x r = (0, 0, 22)) := hide (by unfold reachS; rw [if_neg (by simp [h0]), if_neg (by simp [n1, n2]), if_pos n3])
      clear h0
      go_enter Try.func16, Try.ntmps16
      go_wp2_with (first | (go_at_call 9; refine (rcheck_ok (hr.alloc hB _) (by simp; omega) c H0.out).mono ?_; rintro e w1 ⟨rfl, hb⟩; obtain ⟨hS, hE, hz, hc, hf⟩ := bcell hb; (try simp only [go_sem] at hE); subst hE) | (go_at_call 20; refine (rnone_any _ (by assumption) _).mono ?_; rintro e w1 ⟨rfl, rfl⟩) | (refine wp_region_quiet_below (by kernel_rfl) (by kernel_rfl) ?_; (repeat (first | go_big_quiet_step ((first | (go_at_call 9; exact Calls.regrown_of (rcheck_ok (hr.alloc hB _) (by simp; omega) c H0.out)) | (go_at_call 20; exact Calls.regrown_of (below_of_same (rnone_any _ (by assumption) _))))) | quiet_step ((first | (go_at_call 9; exact Calls.regrown_of (rcheck_ok (hr.alloc hB _) (by simp; omega) c H0.out)) | (go_at_call 20; exact Calls.regrown_of (below_of_same (rnone_any _ (by assumption) _))))))); refine wpQuiet_nil ?_; intro w1 hw1; have hb := below_of_regrown hw1; clear hw1; obtain ⟨hS, hE, hz, hc, hf⟩ := bcell hb; (try simp only [go_sem] at hE); subst hE))
      (refine bodyPost_ret (v := .tuple #[.agg #[.int .i64 (0), .int .i64 (0)], .int .i64 (22)]) ?_ rfl ⟨by rw [HS.out], (by repeat' (first | (with_reducible exact Below.refl _ _) | (with_reducible refine below_drewN ?_ _) | (with_reducible refine Below.drew ?_) | (with_reducible refine Below.alloc ?_ ?_ _) | (with_reducible refine Below.setCell ?_ ?_ _) | (with_reducible refine below_step ?_ (by assumption) ?_) | go_size))⟩; (simp only [results, Try.results16]; go_simp))
    obtain ⟨M1, M2, M3⟩ := reachS_mid h0 n1 n2 n3
    have hkr : 0 ≤ key r := by have := flt_zero r n2; rw [this] at n3; simp at n3; omega
    rw [Bool.not_eq_true] at n3
    have hg := good_of l h0
    clear h0
    rcases hsub : Ieee.double.sub x r with _ | a
    · have HS : Hid (reachS l x r = (0, 0, 20)) := hide (M1 hsub)
      have k1 := fun t w => run_bad_sub (P := Try.prog) hsub t w
      clear M1 M2 M3 hsub
      rcases hadd : Ieee.double.add x r with _ | b
      · have k2 := fun t w => run_bad_add (P := Try.prog) hadd t w
        clear hadd
        go_enter Try.func16, Try.ntmps16
        go_wp2_with (first | (go_at_call 9; refine (rcheck_ok (hr.alloc hB _) (by simp; omega) c H0.out).mono ?_; rintro e w1 ⟨rfl, hb⟩; obtain ⟨hS, hE, hz, hc, hf⟩ := bcell hb; (try simp only [go_sem] at hE); subst hE) | (go_at_call 20; refine (rnone_any _ (by first | assumption | exact nanZ_lt _ _ _) _).mono ?_; rintro e w1 ⟨rfl, rfl⟩) | (refine wp_region_quiet_below (by kernel_rfl) (by kernel_rfl) ?_; (repeat (first | go_big_quiet_step ((first | (go_at_call 9; exact Calls.regrown_of (rcheck_ok (hr.alloc hB _) (by simp; omega) c H0.out)) | (go_at_call 20; exact Calls.regrown_of (below_of_same (rnone_any _ (by first | assumption | exact nanZ_lt _ _ _) _))))) | quiet_step ((first | (go_at_call 9; exact Calls.regrown_of (rcheck_ok (hr.alloc hB _) (by simp; omega) c H0.out)) | (go_at_call 20; exact Calls.regrown_of (below_of_same (rnone_any _ (by first | assumption | exact nanZ_lt _ _ _) _))))))); refine wpQuiet_nil ?_; intro w1 hw1; have hb := below_of_regrown hw1; clear hw1; obtain ⟨hS, hE, hz, hc, hf⟩ := bcell hb; (try simp only [go_sem] at hE); subst hE))
        (refine bodyPost_ret (v := .tuple #[.agg #[.int .i64 (0), .int .i64 (0)], .int .i64 (20)]) ?_ rfl ⟨by rw [HS.out], (by repeat' (first | (with_reducible exact Below.refl _ _) | (with_reducible refine below_drewN ?_ _) | (with_reducible refine Below.drew ?_) | (with_reducible refine Below.alloc ?_ ?_ _) | (with_reducible refine Below.setCell ?_ ?_ _) | (with_reducible refine below_step ?_ (by assumption) ?_) | go_size))⟩; (simp only [results, Try.results16]; go_simp))
      · have k2 := fun t w => run_ok_add (P := Try.prog) hadd t w
        clear hadd
        go_enter Try.func16, Try.ntmps16
        go_wp2_with (first | (go_at_call 9; refine (rcheck_ok (hr.alloc hB _) (by simp; omega) c H0.out).mono ?_; rintro e w1 ⟨rfl, hb⟩; obtain ⟨hS, hE, hz, hc, hf⟩ := bcell hb; (try simp only [go_sem] at hE); subst hE) | (go_at_call 20; refine (rnone_any _ (by first | assumption | exact nanZ_lt _ _ _) _).mono ?_; rintro e w1 ⟨rfl, rfl⟩) | (refine wp_region_quiet_below (by kernel_rfl) (by kernel_rfl) ?_; (repeat (first | go_big_quiet_step ((first | (go_at_call 9; exact Calls.regrown_of (rcheck_ok (hr.alloc hB _) (by simp; omega) c H0.out)) | (go_at_call 20; exact Calls.regrown_of (below_of_same (rnone_any _ (by first | assumption | exact nanZ_lt _ _ _) _))))) | quiet_step ((first | (go_at_call 9; exact Calls.regrown_of (rcheck_ok (hr.alloc hB _) (by simp; omega) c H0.out)) | (go_at_call 20; exact Calls.regrown_of (below_of_same (rnone_any _ (by first | assumption | exact nanZ_lt _ _ _) _))))))); refine wpQuiet_nil ?_; intro w1 hw1; have hb := below_of_regrown hw1; clear hw1; obtain ⟨hS, hE, hz, hc, hf⟩ := bcell hb; (try simp only [go_sem] at hE); subst hE))
        (refine bodyPost_ret (v := .tuple #[.agg #[.int .i64 (0), .int .i64 (0)], .int .i64 (20)]) ?_ rfl ⟨by rw [HS.out], (by repeat' (first | (with_reducible exact Below.refl _ _) | (with_reducible refine below_drewN ?_ _) | (with_reducible refine Below.drew ?_) | (with_reducible refine Below.alloc ?_ ?_ _) | (with_reducible refine Below.setCell ?_ ?_ _) | (with_reducible refine below_step ?_ (by assumption) ?_) | go_size))⟩; (simp only [results, Try.results16]; go_simp))
    · have k1 := fun t w => run_ok_sub (P := Try.prog) hsub t w
      have na := (sub_ok hsub).nz
      have ha : a < 18446744073709551616 := Ieee.Format.sub_lt _ hsub
      rcases hadd : Ieee.double.add x r with _ | b
      · have HS : Hid (reachS l x r = (0, 0, 20)) := hide (M2 hadd)
        have k2 := fun t w => run_bad_add (P := Try.prog) hadd t w
        clear hadd M1 M2 M3 hsub
        go_enter Try.func16, Try.ntmps16
        go_wp2_with (first | (go_at_call 9; refine (rcheck_ok (hr.alloc hB _) (by simp; omega) c H0.out).mono ?_; rintro e w1 ⟨rfl, hb⟩; obtain ⟨hS, hE, hz, hc, hf⟩ := bcell hb; (try simp only [go_sem] at hE); subst hE) | (go_at_call 20; refine (rnone_any _ (by first | assumption | exact nanZ_lt _ _ _) _).mono ?_; rintro e w1 ⟨rfl, rfl⟩) | (refine wp_region_quiet_below (by kernel_rfl) (by kernel_rfl) ?_; (repeat (first | go_big_quiet_step ((first | (go_at_call 9; exact Calls.regrown_of (rcheck_ok (hr.alloc hB _) (by simp; omega) c H0.out)) | (go_at_call 20; exact Calls.regrown_of (below_of_same (rnone_any _ (by first | assumption | exact nanZ_lt _ _ _) _))))) | quiet_step ((first | (go_at_call 9; exact Calls.regrown_of (rcheck_ok (hr.alloc hB _) (by simp; omega) c H0.out)) | (go_at_call 20; exact Calls.regrown_of (below_of_same (rnone_any _ (by first | assumption | exact nanZ_lt _ _ _) _))))))); refine wpQuiet_nil ?_; intro w1 hw1; have hb := below_of_regrown hw1; clear hw1; obtain ⟨hS, hE, hz, hc, hf⟩ := bcell hb; (try simp only [go_sem] at hE); subst hE))
        (refine bodyPost_ret (v := .tuple #[.agg #[.int .i64 (0), .int .i64 (0)], .int .i64 (20)]) ?_ rfl ⟨by rw [HS.out], (by repeat' (first | (with_reducible exact Below.refl _ _) | (with_reducible refine below_drewN ?_ _) | (with_reducible refine Below.drew ?_) | (with_reducible refine Below.alloc ?_ ?_ _) | (with_reducible refine Below.setCell ?_ ?_ _) | (with_reducible refine below_step ?_ (by assumption) ?_) | go_size))⟩; (simp only [results, Try.results16]; go_simp))
      · have k2 := fun t w => run_ok_add (P := Try.prog) hadd t w
        have nb := (add_ok hadd).nz
        have hb64 : b < 18446744073709551616 := Ieee.Format.add_lt _ hadd
        have HE : Hid (reachS l x r = if fltB b (B l 0) = true ∨ fltB (B l (l.length - 1)) a = true then (0, 0, 71) else ((loS l a : Int), (hiS l b : Int), 0)) := hide (M3 a b hsub hadd)
        have hab := sub_le_add hsub hadd hkr
        have htwo := hg.two
        have hfew := hg.few
        clear M1 M2 M3 hsub hadd
        go_enter Try.func16, Try.ntmps16
        go_wp2_with (first | (go_at_call 9; refine (rcheck_ok (hr.alloc hB _) (by simp; omega) c H0.out).mono ?_; rintro e w1 ⟨rfl, hb⟩; obtain ⟨hS, hE, hz, hc, hf⟩ := bcell hb; (try simp only [go_sem] at hE); subst hE) | (go_at_call 20; refine (rnone_any _ (by first | assumption | exact nanZ_lt _ _ _) _).mono ?_; rintro e w1 ⟨rfl, rfl⟩) | (refine wp_region_quiet_below (by kernel_rfl) (by kernel_rfl) ?_; (repeat (first | go_big_quiet_step ((first | (go_at_call 9; exact Calls.regrown_of (rcheck_ok (hr.alloc hB _) (by simp; omega) c H0.out)) | (go_at_call 20; exact Calls.regrown_of (below_of_same (rnone_any _ (by first | assumption | exact nanZ_lt _ _ _) _))))) | quiet_step ((first | (go_at_call 9; exact Calls.regrown_of (rcheck_ok (hr.alloc hB _) (by simp; omega) c H0.out)) | (go_at_call 20; exact Calls.regrown_of (below_of_same (rnone_any _ (by first | assumption | exact nanZ_lt _ _ _) _))))))); refine wpQuiet_nil ?_; intro w1 hw1; have hb := below_of_regrown hw1; clear hw1; obtain ⟨hS, hE, hz, hc, hf⟩ := bcell hb; (try simp only [go_sem] at hE); subst hE))
        have hr1 := (hr.alloc hB (.cells #[.int .i64 0, .int .i64 0] 35)).below hb (by simp; omega)
        have hw1 : Below w.heap.size w w1 := ((Below.refl _ _).alloc (Nat.le_refl _) _).trans (hb.mono (by simp))
        have HB := hide hb
        clear hr hb
        go_loopw [11, 12] (fun o i wr => ∃ (k : Nat) (A2 : Option Addr) (c2 : Nat), k ≤ l.length - 1 ∧ i = .int .i64 k ∧ o = .slice A2 (inL l a b k).length c2 ∧ wr.ownsRow w1.heap.size 3 1 (.slice A2 (inL l a b k).length c2) (inL l a b k).length (IV (nI (inL l a b k))) ∧ Below w1.heap.size w1 wr ∧ (inL l a b k).length ≤ c2 ∧ c2 ≤ maxLen) (fun _ i _ => l.length - (intOf i).toNat)
        case atStart => exact ⟨0, none, 0, Nat.zero_le _, rfl, rfl, World.ownsRow_nil _ _ _ _, Below.refl _ _, Nat.le_refl _, Nat.zero_le _⟩
        case round =>
          obtain ⟨k, A2, c2, hk, rfl, rfl, ho, hbw, hc2, hm2⟩ := hrel
          have hr2 := hr1.below hbw (by omega)
          have hll := inL_le l a b k
          have hsz := hbw.size
          by_cases hlt : k < l.length - 1
          · have hsucc := inL_succ l a b k
            by_cases ht : touchB l k a b = true
            · rw [if_pos ht] at hsucc
              have HSU := hide hsucc
              clear hsucc
              generalize hL : inL l a b k = L at *
              have HL := hide hL
              clear hL
              go_wp2_with (first | (go_at_call 17; refine (touches_any hr2 c k a b (by omega)).mono ?_; rintro e w2 ⟨rfl, hb2⟩; have ho2 := own_below ho hb2; have hs2 := hb2.size) | (at_builtin; refine app_i64 rfl _ _ rfl w1.heap.size A2 _ c2 _ rfl (ho2.alloc _) _ _ 1 1 [(k : Int)] rfl (ints_one w2 _ 3) (by omega) (by simp only [World.size_alloc]; omega) ?_; intro A3 c3 w3 ho3 hgrow hbel hcap hcm))
              go_roundw
              case rel =>
                refine ⟨k + 1, A3, c3, by omega, by go_num, ?_, ?_, ((hbw.trans (hb2.mono hsz)).alloc (by omega) _).trans hbel, ?_, hcm⟩
                · rw [HSU.out]; simp
                · rw [HSU.out, nI_snoc]; simpa using ho3
                · rw [HSU.out]; simpa using hcap
              case measure => simp [intOf]; omega
            · rw [if_neg ht, List.append_nil] at hsucc
              rw [Bool.not_eq_true] at ht
              have HSU := hide hsucc
              clear hsucc
              go_wp2_with (go_at_call 17; refine (touches_any hr2 c k a b (by omega)).mono ?_; rintro e w2 ⟨rfl, hb2⟩; have ho2 := own_below ho hb2; have hs2 := hb2.size)
              go_roundw
              case rel => exact ⟨k + 1, A2, c2, by omega, by go_num, by rw [HSU.out], by rw [HSU.out]; exact ho2, hbw.trans (hb2.mono hsz), by rw [HSU.out]; exact hc2, hm2⟩
              case measure => simp [intOf]; omega
          · obtain rfl : k = l.length - 1 := by omega
            by_cases ho71 : fltB b (B l 0) = true ∨ fltB (B l (l.length - 1)) a = true
            · have HS : Hid (reachS l x r = (0, 0, 71)) := hide (by rw [HE.out, if_pos ho71])
              have hnil := inL_none hg na nb hab ho71
              have hAll := HB.out.trans (hbw.mono (by have := HB.out.size; exact this))
              clear hw1 HB
              have HW : Hid (Below w.heap.size w wr) := hide (((Below.refl _ _).alloc (Nat.le_refl _) _).trans (hAll.mono (by simp)))
              obtain ⟨hS, hE, hz, hc, hf⟩ := bcell hAll
              simp only [go_sem] at hE
              subst hE
              clear hAll hbw hr1
              generalize inL l a b (l.length - 1) = L at *
              subst hnil
              go_wp2
              refine bodyPost_ret (v := .tuple #[.agg #[.int .i64 0, .int .i64 0], .int .i64 71]) ?_ rfl ⟨by rw [HS.out], by refine Below.setCell (Below.setCell HW.out ?_ _) ?_ _ <;> exact Nat.le_refl _⟩
              simp only [results, Try.results16]
              go_simp
            · have HS : Hid (reachS l x r = ((loS l a : Int), (hiS l b : Int), 0)) := hide (by rw [HE.out, if_neg ho71])
              have hall := inL_all hg na nb hab (fun h => ho71 (.inl h)) (fun h => ho71 (.inr h))
              have hlh := lo_hi hg na nb hab (fun h => ho71 (.inl h))
              have hAll := HB.out.trans (hbw.mono (by have := HB.out.size; exact this))
              clear hw1 HB
              have HW : Hid (Below w.heap.size w wr) := hide (((Below.refl _ _).alloc (Nat.le_refl _) _).trans (hAll.mono (by simp)))
              obtain ⟨hS, hE, hz, hc, hf⟩ := bcell hAll
              simp only [go_sem] at hE
              subst hE
              clear hAll hbw hr1
              have hlen2 : (inL l a b (l.length - 1)).length = hiS l b + 1 - loS l a := by rw [hall]; simp
              have g0 : (nI (inL l a b (l.length - 1))).getD 0 0 = loS l a := by
                rw [hall]
                obtain ⟨d, hd⟩ : ∃ d, hiS l b + 1 - loS l a = d + 1 := ⟨hiS l b - loS l a, by omega⟩
                rw [hd, List.range'_succ]
                rfl
              have g1 : (nI (inL l a b (l.length - 1))).getD (hiS l b + 1 - loS l a - 1) 0 = hiS l b := by
                rw [hall]
                unfold nI
                rw [List.getD_eq_getElem?_getD, List.getElem?_map, List.getElem?_range' (by omega)]
                simp
                omega
              rw [hlen2] at ho hc2 ⊢
              obtain ⟨b2, off2, rfl, hb2, hcell⟩ := row_of_own ho (by omega)
              have c0 : wr.cell? ⟨b2, off2, none⟩ = some (.int .i64 (loS l a)) := (hcell 0 (by omega)).trans (by
                show some ((IV (nI (inL l a b (l.length - 1)))).getD 0 undef) = _
                rw [iv_get _ _ (by rw [nI_len, hlen2]; omega), g0])
              have c1 : wr.cell? ⟨b2, off2 + (hiS l b + 1 - loS l a - 1), none⟩ = some (.int .i64 (hiS l b)) := (hcell (hiS l b + 1 - loS l a - 1) (by omega)).trans (by
                show some ((IV (nI (inL l a b (l.length - 1)))).getD (hiS l b + 1 - loS l a - 1) undef) = _
                rw [iv_get _ _ (by rw [nI_len, hlen2]; omega), g1])
              clear hcell g0 g1 hall hlen2 ho
              have H1 := hide hlh
              obtain ⟨n, hn⟩ : ∃ n, n = hiS l b + 1 - loS l a := ⟨_, rfl⟩
              have hn0 : 0 < n := by omega
              have hn25 : n ≤ 25 := by omega
              rw [← hn] at c1 hc2 ⊢
              have HN := hide hn
              clear hn hlh H1
              generalize loS l a = lo at *
              generalize hiS l b = hi at *
              have hne : ((n : Int) == 0) = false := by simp; omega
              have en : ((n : Int) - 1).toNat = n - 1 := by omega
              go_wp2
              have z1 : IntKind.i64.wrap ((n : Int) - 1) = (n : Int) - 1 := IntWalk.i64_in _ (by omega)
              have z2 : 0 ≤ (n : Int) - 1 := by omega
              have z3 : (n : Int) - 1 < n := by omega
              go_region
              all_goals
                clear z1 z2 z3
                go_wp2
                refine bodyPost_ret (v := .tuple #[.agg #[.int .i64 lo, .int .i64 hi], .int .i64 0]) ?_ rfl ⟨by rw [HS.out], ?_⟩
                · simp only [results, Try.results16]
                  go_simp
                · have hW := HW.out
                  exact (by repeat' (first | (with_reducible exact Below.refl _ _) | (with_reducible refine below_drewN ?_ _) | (with_reducible refine Below.drew ?_) | (with_reducible refine Below.alloc ?_ ?_ _) | (with_reducible refine Below.setCell ?_ ?_ _) | (with_reducible refine below_step ?_ (by assumption) ?_) | go_size))
  · have HS : Hid (reachS l x r = (0, 0, chkS l)) := hide (by unfold reachS; rw [if_pos h0])
    have hb : (chkS l != 0) = true := by simpa using h0
    go_enter Try.func16, Try.ntmps16
    go_wp2_with (first | (go_at_call 9; refine (rcheck_any (hr.alloc hB _) (by simp; omega) c).mono ?_; rintro e w1 ⟨rfl, hb⟩; obtain ⟨hS, hE, hz, hc, hf⟩ := bcell hb; (try simp only [go_sem] at hE); subst hE) | (refine wp_region_quiet_below (by kernel_rfl) (by kernel_rfl) ?_; (repeat (first | go_big_quiet_step ((first | (go_at_call 9; exact Calls.regrown_of (rcheck_any (hr.alloc hB _) (by simp; omega) c)))) | quiet_step ((first | (go_at_call 9; exact Calls.regrown_of (rcheck_any (hr.alloc hB _) (by simp; omega) c)))))); refine wpQuiet_nil ?_; intro w1 hw1; have hb := below_of_regrown hw1; clear hw1; obtain ⟨hS, hE, hz, hc, hf⟩ := bcell hb; (try simp only [go_sem] at hE); subst hE))
    (refine bodyPost_ret (v := .tuple #[.agg #[.int .i64 (0), .int .i64 (0)], .int .i64 (chkS l)]) ?_ rfl ⟨by rw [HS.out], (by repeat' (first | (with_reducible exact Below.refl _ _) | (with_reducible refine below_drewN ?_ _) | (with_reducible refine Below.drew ?_) | (with_reducible refine Below.alloc ?_ ?_ _) | (with_reducible refine Below.setCell ?_ ?_ _) | (with_reducible refine below_step ?_ (by assumption) ?_) | go_size))⟩; (simp only [results, Try.results16]; go_simp))
end
end Go.Proofs.Ytoombjndcegggaa.Rail
