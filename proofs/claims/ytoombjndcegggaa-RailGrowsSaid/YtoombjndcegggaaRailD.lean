/- What a tool touches, by the program and by the reference; how wide lanes are. No condition. -/
import Derived.Test.YtoombjndcegggaaRailC
import Derived.Test.YtoombjndcegggaaFltS
import Derived.Test.YtoombjndcegggaaAppI
namespace Go.Proofs.Ytoombjndcegggaa.Rail
open Go.ChangeShapes Go.WideShapes Go.ChangeAt Go.RowKit Go.Proofs.Ytoombjndcegggaa.Kit Go.Proofs.Ytoombjndcegggaa.Mem Go.Proofs.Ytoombjndcegggaa.Flt
set_option linter.unusedVariables false
section
variable {l : List Nat} {A : Option Addr} {B0 : Nat} {w : World}
theorem touches_any (hr : FRow w B0 A l) (c k a b : Nat) (hk : k + 1 < l.length) : Calls Try.prog 17 #[.slice A l.length c, .int .i64 k, .float .f64 a, .float .f64 b] w fun e w' => e = .returned (.bool (touchB l k a b)) ∧ Below w.heap.size w w' := by
  have hlen := hr.len
  obtain ⟨b0, off, rfl, hblk, hcell⟩ := hr.row (by omega)
  have c0 : w.cell? ⟨b0, off + k, none⟩ = some (.float .f64 (B l k)) := hcell k (by omega)
  have c1 : w.cell? ⟨b0, off + (k + 1), none⟩ = some (.float .f64 (B l (k + 1))) := hcell _ (by omega)
  have ek : ((k : Int) + 1).toNat = k + 1 := by omega
  have HT : Hid (touchB l k a b = if k + 2 = l.length then fleB a (B l (k + 1)) && fleB (B l k) b else fltB a (B l (k + 1)) && fleB (B l k) b) := hide rfl
  clear hcell
  generalize B l (k + 1) = y at *
  generalize B l k = x at *
  by_cases h2 : k + 2 = l.length
  · have hb : (((k : Int) + 2) == (l.length : Int)) = true := by simp; omega
    have H2 := hide h2
    clear h2
    by_cases h3 : fleB a y = true
    · go_enter Try.func17, Try.ntmps17
      go_wp2_with (first | (refine wp_region_quiet_below (by kernel_rfl) (by kernel_rfl) ?_; (repeat (first | go_big_quiet_step (fail) | quiet_step (fail))); refine wpQuiet_nil ?_; intro w1 hw1; have hb := below_of_regrown hw1; clear hw1; obtain ⟨hS, hE, hz, hc, hf⟩ := bcell hb; (try simp only [go_sem] at hE); subst hE))
      go_ret
      exact ⟨ret_bool (by rw [HT.out, if_pos H2.out, h3]; simp), (by repeat' (first | (with_reducible exact Below.refl _ _) | (with_reducible refine below_drewN ?_ _) | (with_reducible refine Below.drew ?_) | (with_reducible refine Below.alloc ?_ ?_ _) | (with_reducible refine Below.setCell ?_ ?_ _) | (with_reducible refine below_step ?_ (by assumption) ?_) | go_size))⟩
    · rw [Bool.not_eq_true] at h3
      go_enter Try.func17, Try.ntmps17
      go_wp2_with (first | (refine wp_region_quiet_below (by kernel_rfl) (by kernel_rfl) ?_; (repeat (first | go_big_quiet_step (fail) | quiet_step (fail))); refine wpQuiet_nil ?_; intro w1 hw1; have hb := below_of_regrown hw1; clear hw1; obtain ⟨hS, hE, hz, hc, hf⟩ := bcell hb; (try simp only [go_sem] at hE); subst hE))
      go_ret
      exact ⟨ret_bool (by rw [HT.out, if_pos H2.out, h3]; simp), (by repeat' (first | (with_reducible exact Below.refl _ _) | (with_reducible refine below_drewN ?_ _) | (with_reducible refine Below.drew ?_) | (with_reducible refine Below.alloc ?_ ?_ _) | (with_reducible refine Below.setCell ?_ ?_ _) | (with_reducible refine below_step ?_ (by assumption) ?_) | go_size))⟩
  · have hb : (((k : Int) + 2) == (l.length : Int)) = false := by simp; omega
    have H2 := hide h2
    clear h2
    by_cases h3 : fltB a y = true
    · go_enter Try.func17, Try.ntmps17
      go_wp2_with (first | (refine wp_region_quiet_below (by kernel_rfl) (by kernel_rfl) ?_; (repeat (first | go_big_quiet_step (fail) | quiet_step (fail))); refine wpQuiet_nil ?_; intro w1 hw1; have hb := below_of_regrown hw1; clear hw1; obtain ⟨hS, hE, hz, hc, hf⟩ := bcell hb; (try simp only [go_sem] at hE); subst hE))
      go_ret
      exact ⟨ret_bool (by rw [HT.out, if_neg H2.out, h3]; simp), (by repeat' (first | (with_reducible exact Below.refl _ _) | (with_reducible refine below_drewN ?_ _) | (with_reducible refine Below.drew ?_) | (with_reducible refine Below.alloc ?_ ?_ _) | (with_reducible refine Below.setCell ?_ ?_ _) | (with_reducible refine below_step ?_ (by assumption) ?_) | go_size))⟩
    · rw [Bool.not_eq_true] at h3
      go_enter Try.func17, Try.ntmps17
      go_wp2_with (first | (refine wp_region_quiet_below (by kernel_rfl) (by kernel_rfl) ?_; (repeat (first | go_big_quiet_step (fail) | quiet_step (fail))); refine wpQuiet_nil ?_; intro w1 hw1; have hb := below_of_regrown hw1; clear hw1; obtain ⟨hS, hE, hz, hc, hf⟩ := bcell hb; (try simp only [go_sem] at hE); subst hE))
      go_ret
      exact ⟨ret_bool (by rw [HT.out, if_neg H2.out, h3]; simp), (by repeat' (first | (with_reducible exact Below.refl _ _) | (with_reducible refine below_drewN ?_ _) | (with_reducible refine Below.drew ?_) | (with_reducible refine Below.alloc ?_ ?_ _) | (with_reducible refine Below.setCell ?_ ?_ _) | (with_reducible refine below_step ?_ (by assumption) ?_) | go_size))⟩

/-- The lanes that are touched by what reaches so far. -/
def reachS (l : List Nat) (x r : Nat) : Int × Int × Int :=
  if chkS l ≠ 0 then (0, 0, chkS l) else if nanB x = true ∨ nanB r = true then (0, 0, 20) else if fltB r 0 = true then (0, 0, 22) else
  match Ieee.double.sub x r, Ieee.double.add x r with
  | some a, some b => if fltB b (B l 0) = true ∨ fltB (B l (l.length - 1)) a = true then (0, 0, 71) else ((loS l a : Int), (hiS l b : Int), 0)
  | _, _ => (0, 0, 20)
theorem reachS_mid {l : List Nat} {x r : Nat} (h0 : chkS l = 0) (n1 : nanB x = false) (n2 : nanB r = false) (n3 : ¬ fltB r 0 = true) :
    (Ieee.double.sub x r = none → reachS l x r = (0, 0, 20)) ∧ (Ieee.double.add x r = none → reachS l x r = (0, 0, 20)) ∧
    ∀ a b, Ieee.double.sub x r = some a → Ieee.double.add x r = some b → reachS l x r = if fltB b (B l 0) = true ∨ fltB (B l (l.length - 1)) a = true then (0, 0, 71) else ((loS l a : Int), (hiS l b : Int), 0) := by
  unfold reachS
  rw [if_neg (by simp [h0]), if_neg (by simp [n1, n2]), if_neg n3]
  refine ⟨fun h => by rw [h], fun h => by rw [h]; cases Ieee.double.sub x r <;> rfl, fun a b h1 h2 => by rw [h1, h2]⟩
set_option maxHeartbeats 1000000 in
theorem reach_any (hr : FRow w B0 A l) (hB : B0 ≤ w.heap.size) (c : Nat) (hcap : l.length ≤ c) (x r : Nat) (hx : x < 18446744073709551616) (hr64 : r < 18446744073709551616) :
    Calls Try.prog 15 #[.slice A l.length c, .float .f64 x, .float .f64 r] w fun e w' => e = .returned (.tuple #[.agg #[.int .i64 (reachS l x r).1, .int .i64 (reachS l x r).2.1], .int .i64 (reachS l x r).2.2]) ∧ Below w.heap.size w w' := by
  have hlen := hr.len
  by_cases h0 : chkS l = 0
  · have H0 := hide h0
    by_cases n1 : nanB x = true
    · have HS : Hid (reachS l x r = (0, 0, 20)) := hide (by unfold reachS; rw [if_neg (by simp [h0]), if_pos (.inl n1)])
      clear h0
      go_enter Try.func15, Try.ntmps15
      go_wp2_with (first | (go_at_call 8; refine (check_ok (hr.alloc hB _) c H0.out).mono ?_; rintro e w1 ⟨rfl, rfl⟩) | (go_at_call 19; refine (none_any _ hx _).mono ?_; rintro e w1 ⟨rfl, rfl⟩) | (refine wp_region_quiet_below (by kernel_rfl) (by kernel_rfl) ?_; (repeat (first | go_big_quiet_step ((first | (go_at_call 8; exact Calls.regrown_of (below_of_same (check_ok (hr.alloc hB _) c H0.out))) | (go_at_call 19; exact Calls.regrown_of (below_of_same (none_any _ hx _))))) | quiet_step ((first | (go_at_call 8; exact Calls.regrown_of (below_of_same (check_ok (hr.alloc hB _) c H0.out))) | (go_at_call 19; exact Calls.regrown_of (below_of_same (none_any _ hx _))))))); refine wpQuiet_nil ?_; intro w1 hw1; have hb := below_of_regrown hw1; clear hw1; obtain ⟨hS, hE, hz, hc, hf⟩ := bcell hb; (try simp only [go_sem] at hE); subst hE))
      (refine bodyPost_ret (v := .tuple #[.agg #[.int .i64 (0), .int .i64 (0)], .int .i64 (20)]) ?_ rfl ⟨by rw [HS.out], (by repeat' (first | (with_reducible exact Below.refl _ _) | (with_reducible refine below_drewN ?_ _) | (with_reducible refine Below.drew ?_) | (with_reducible refine Below.alloc ?_ ?_ _) | (with_reducible refine Below.setCell ?_ ?_ _) | (with_reducible refine below_step ?_ (by assumption) ?_) | go_size))⟩; (simp only [results, Try.results15]; go_simp))
    rw [Bool.not_eq_true] at n1
    by_cases n2 : nanB r = true
    · have HS : Hid (reachS l x r = (0, 0, 20)) := hide (by unfold reachS; rw [if_neg (by simp [h0]), if_pos (.inr n2)])
      clear h0
      go_enter Try.func15, Try.ntmps15
      go_wp2_with (first | (go_at_call 8; refine (check_ok (hr.alloc hB _) c H0.out).mono ?_; rintro e w1 ⟨rfl, rfl⟩) | (go_at_call 19; refine (none_any _ (by assumption) _).mono ?_; rintro e w1 ⟨rfl, rfl⟩) | (refine wp_region_quiet_below (by kernel_rfl) (by kernel_rfl) ?_; (repeat (first | go_big_quiet_step ((first | (go_at_call 8; exact Calls.regrown_of (below_of_same (check_ok (hr.alloc hB _) c H0.out))) | (go_at_call 19; exact Calls.regrown_of (below_of_same (none_any _ (by assumption) _))))) | quiet_step ((first | (go_at_call 8; exact Calls.regrown_of (below_of_same (check_ok (hr.alloc hB _) c H0.out))) | (go_at_call 19; exact Calls.regrown_of (below_of_same (none_any _ (by assumption) _))))))); refine wpQuiet_nil ?_; intro w1 hw1; have hb := below_of_regrown hw1; clear hw1; obtain ⟨hS, hE, hz, hc, hf⟩ := bcell hb; (try simp only [go_sem] at hE); subst hE))
      (refine bodyPost_ret (v := .tuple #[.agg #[.int .i64 (0), .int .i64 (0)], .int .i64 (20)]) ?_ rfl ⟨by rw [HS.out], (by repeat' (first | (with_reducible exact Below.refl _ _) | (with_reducible refine below_drewN ?_ _) | (with_reducible refine Below.drew ?_) | (with_reducible refine Below.alloc ?_ ?_ _) | (with_reducible refine Below.setCell ?_ ?_ _) | (with_reducible refine below_step ?_ (by assumption) ?_) | go_size))⟩; (simp only [results, Try.results15]; go_simp))
    rw [Bool.not_eq_true] at n2
    by_cases n3 : fltB r 0 = true
    · have HS : Hid (reachS l x r = (0, 0, 22)) := hide (by unfold reachS; rw [if_neg (by simp [h0]), if_neg (by simp [n1, n2]), if_pos n3])
      clear h0
      go_enter Try.func15, Try.ntmps15
      go_wp2_with (first | (go_at_call 8; refine (check_ok (hr.alloc hB _) c H0.out).mono ?_; rintro e w1 ⟨rfl, rfl⟩) | (go_at_call 19; refine (none_any _ (by assumption) _).mono ?_; rintro e w1 ⟨rfl, rfl⟩) | (refine wp_region_quiet_below (by kernel_rfl) (by kernel_rfl) ?_; (repeat (first | go_big_quiet_step ((first | (go_at_call 8; exact Calls.regrown_of (below_of_same (check_ok (hr.alloc hB _) c H0.out))) | (go_at_call 19; exact Calls.regrown_of (below_of_same (none_any _ (by assumption) _))))) | quiet_step ((first | (go_at_call 8; exact Calls.regrown_of (below_of_same (check_ok (hr.alloc hB _) c H0.out))) | (go_at_call 19; exact Calls.regrown_of (below_of_same (none_any _ (by assumption) _))))))); refine wpQuiet_nil ?_; intro w1 hw1; have hb := below_of_regrown hw1; clear hw1; obtain ⟨hS, hE, hz, hc, hf⟩ := bcell hb; (try simp only [go_sem] at hE); subst hE))
      (refine bodyPost_ret (v := .tuple #[.agg #[.int .i64 (0), .int .i64 (0)], .int .i64 (22)]) ?_ rfl ⟨by rw [HS.out], (by repeat' (first | (with_reducible exact Below.refl _ _) | (with_reducible refine below_drewN ?_ _) | (with_reducible refine Below.drew ?_) | (with_reducible refine Below.alloc ?_ ?_ _) | (with_reducible refine Below.setCell ?_ ?_ _) | (with_reducible refine below_step ?_ (by assumption) ?_) | go_size))⟩; (simp only [results, Try.results15]; go_simp))
    have HD : Hid (reachS l x r = match Ieee.double.sub x r, Ieee.double.add x r with | some a, some b => if fltB b (B l 0) = true ∨ fltB (B l (l.length - 1)) a = true then (0, 0, 71) else ((loS l a : Int), (hiS l b : Int), 0) | _, _ => (0, 0, 20)) := hide (by
      unfold reachS; rw [if_neg (by simp [h0]), if_neg (by simp [n1, n2]), if_neg n3])
    rw [Bool.not_eq_true] at n3
    have hg := good_of l h0
    clear h0
    rcases hsub : Ieee.double.sub x r with _ | a
    · have HS : Hid (reachS l x r = (0, 0, 20)) := hide (by rw [HD.out, hsub])
      have k1 := fun t w => run_bad_sub (P := Try.prog) hsub t w
      clear HD hsub
      rcases hadd : Ieee.double.add x r with _ | b
      · have k2 := fun t w => run_bad_add (P := Try.prog) hadd t w
        clear hadd
        go_enter Try.func15, Try.ntmps15
        go_wp2_with (first | (go_at_call 8; refine (check_ok (hr.alloc hB _) c H0.out).mono ?_; rintro e w1 ⟨rfl, rfl⟩) | (go_at_call 19; refine (none_any _ (by first | assumption | exact nanZ_lt _ _ _) _).mono ?_; rintro e w1 ⟨rfl, rfl⟩) | (refine wp_region_quiet_below (by kernel_rfl) (by kernel_rfl) ?_; (repeat (first | go_big_quiet_step ((first | (go_at_call 8; exact Calls.regrown_of (below_of_same (check_ok (hr.alloc hB _) c H0.out))) | (go_at_call 19; exact Calls.regrown_of (below_of_same (none_any _ (by first | assumption | exact nanZ_lt _ _ _) _))))) | quiet_step ((first | (go_at_call 8; exact Calls.regrown_of (below_of_same (check_ok (hr.alloc hB _) c H0.out))) | (go_at_call 19; exact Calls.regrown_of (below_of_same (none_any _ (by first | assumption | exact nanZ_lt _ _ _) _))))))); refine wpQuiet_nil ?_; intro w1 hw1; have hb := below_of_regrown hw1; clear hw1; obtain ⟨hS, hE, hz, hc, hf⟩ := bcell hb; (try simp only [go_sem] at hE); subst hE))
        (refine bodyPost_ret (v := .tuple #[.agg #[.int .i64 (0), .int .i64 (0)], .int .i64 (20)]) ?_ rfl ⟨by rw [HS.out], (by repeat' (first | (with_reducible exact Below.refl _ _) | (with_reducible refine below_drewN ?_ _) | (with_reducible refine Below.drew ?_) | (with_reducible refine Below.alloc ?_ ?_ _) | (with_reducible refine Below.setCell ?_ ?_ _) | (with_reducible refine below_step ?_ (by assumption) ?_) | go_size))⟩; (simp only [results, Try.results15]; go_simp))
      · have k2 := fun t w => run_ok_add (P := Try.prog) hadd t w
        clear hadd
        go_enter Try.func15, Try.ntmps15
        go_wp2_with (first | (go_at_call 8; refine (check_ok (hr.alloc hB _) c H0.out).mono ?_; rintro e w1 ⟨rfl, rfl⟩) | (go_at_call 19; refine (none_any _ (by first | assumption | exact nanZ_lt _ _ _) _).mono ?_; rintro e w1 ⟨rfl, rfl⟩) | (refine wp_region_quiet_below (by kernel_rfl) (by kernel_rfl) ?_; (repeat (first | go_big_quiet_step ((first | (go_at_call 8; exact Calls.regrown_of (below_of_same (check_ok (hr.alloc hB _) c H0.out))) | (go_at_call 19; exact Calls.regrown_of (below_of_same (none_any _ (by first | assumption | exact nanZ_lt _ _ _) _))))) | quiet_step ((first | (go_at_call 8; exact Calls.regrown_of (below_of_same (check_ok (hr.alloc hB _) c H0.out))) | (go_at_call 19; exact Calls.regrown_of (below_of_same (none_any _ (by first | assumption | exact nanZ_lt _ _ _) _))))))); refine wpQuiet_nil ?_; intro w1 hw1; have hb := below_of_regrown hw1; clear hw1; obtain ⟨hS, hE, hz, hc, hf⟩ := bcell hb; (try simp only [go_sem] at hE); subst hE))
        (refine bodyPost_ret (v := .tuple #[.agg #[.int .i64 (0), .int .i64 (0)], .int .i64 (20)]) ?_ rfl ⟨by rw [HS.out], (by repeat' (first | (with_reducible exact Below.refl _ _) | (with_reducible refine below_drewN ?_ _) | (with_reducible refine Below.drew ?_) | (with_reducible refine Below.alloc ?_ ?_ _) | (with_reducible refine Below.setCell ?_ ?_ _) | (with_reducible refine below_step ?_ (by assumption) ?_) | go_size))⟩; (simp only [results, Try.results15]; go_simp))
    · have k1 := fun t w => run_ok_sub (P := Try.prog) hsub t w
      have na := (sub_ok hsub).nz
      have ha : a < 18446744073709551616 := Ieee.Format.sub_lt _ hsub
      rcases hadd : Ieee.double.add x r with _ | b
      · have HS : Hid (reachS l x r = (0, 0, 20)) := hide (by rw [HD.out, hsub, hadd])
        have k2 := fun t w => run_bad_add (P := Try.prog) hadd t w
        clear hadd HD hsub
        go_enter Try.func15, Try.ntmps15
        go_wp2_with (first | (go_at_call 8; refine (check_ok (hr.alloc hB _) c H0.out).mono ?_; rintro e w1 ⟨rfl, rfl⟩) | (go_at_call 19; refine (none_any _ (by first | assumption | exact nanZ_lt _ _ _) _).mono ?_; rintro e w1 ⟨rfl, rfl⟩) | (refine wp_region_quiet_below (by kernel_rfl) (by kernel_rfl) ?_; (repeat (first | go_big_quiet_step ((first | (go_at_call 8; exact Calls.regrown_of (below_of_same (check_ok (hr.alloc hB _) c H0.out))) | (go_at_call 19; exact Calls.regrown_of (below_of_same (none_any _ (by first | assumption | exact nanZ_lt _ _ _) _))))) | quiet_step ((first | (go_at_call 8; exact Calls.regrown_of (below_of_same (check_ok (hr.alloc hB _) c H0.out))) | (go_at_call 19; exact Calls.regrown_of (below_of_same (none_any _ (by first | assumption | exact nanZ_lt _ _ _) _))))))); refine wpQuiet_nil ?_; intro w1 hw1; have hb := below_of_regrown hw1; clear hw1; obtain ⟨hS, hE, hz, hc, hf⟩ := bcell hb; (try simp only [go_sem] at hE); subst hE))
        (refine bodyPost_ret (v := .tuple #[.agg #[.int .i64 (0), .int .i64 (0)], .int .i64 (20)]) ?_ rfl ⟨by rw [HS.out], (by repeat' (first | (with_reducible exact Below.refl _ _) | (with_reducible refine below_drewN ?_ _) | (with_reducible refine Below.drew ?_) | (with_reducible refine Below.alloc ?_ ?_ _) | (with_reducible refine Below.setCell ?_ ?_ _) | (with_reducible refine below_step ?_ (by assumption) ?_) | go_size))⟩; (simp only [results, Try.results15]; go_simp))
      · have k2 := fun t w => run_ok_add (P := Try.prog) hadd t w
        have nb := (add_ok hadd).nz
        have hb64 : b < 18446744073709551616 := Ieee.Format.add_lt _ hadd
        have HE : Hid (reachS l x r = if fltB b (B l 0) = true ∨ fltB (B l (l.length - 1)) a = true then (0, 0, 71) else ((loS l a : Int), (hiS l b : Int), 0)) := hide (by rw [HD.out, hsub, hadd])
        have hp := beh_pos hg nb
        have htwo := hg.two
        have hla := beh_le l a
        have hlb := beh_le l b
        clear HD hsub hadd
        obtain ⟨b0, off, rfl, hblk, hcell⟩ := hr.row (by omega)
        have c0 : w.cell? ⟨b0, off, none⟩ = some (.float .f64 (B l 0)) := by have := hcell 0 (by omega); rwa [Nat.add_zero] at this
        have c1 : w.cell? ⟨b0, off + (l.length - 1), none⟩ = some (.float .f64 (B l (l.length - 1))) := hcell _ (by omega)
        clear hcell
        generalize B l (l.length - 1) = z at *
        generalize B l 0 = y at *
        by_cases n4 : fltB b y = true
        · have HS : Hid (reachS l x r = (0, 0, 71)) := hide (by rw [HE.out, if_pos (.inl n4)])
          go_enter Try.func15, Try.ntmps15
          go_wp2_with (first | (go_at_call 8; refine (check_ok (hr.alloc hB _) c H0.out).mono ?_; rintro e w1 ⟨rfl, rfl⟩) | (go_at_call 19; refine (none_any _ (by assumption) _).mono ?_; rintro e w1 ⟨rfl, rfl⟩) | (go_at_call 22; refine (lanes_any _ _ _ (by omega) hlen _).mono ?_; rintro e w1 ⟨rfl, rfl⟩) | (refine wp_region_quiet_below (by kernel_rfl) (by kernel_rfl) ?_; (repeat (first | go_big_quiet_step ((first | (go_at_call 8; exact Calls.regrown_of (below_of_same (check_ok (hr.alloc hB _) c H0.out))) | (go_at_call 19; exact Calls.regrown_of (below_of_same (none_any _ (by assumption) _))) | (go_at_call 22; exact Calls.regrown_of (below_of_same (lanes_any _ _ _ (by omega) hlen _))))) | quiet_step ((first | (go_at_call 8; exact Calls.regrown_of (below_of_same (check_ok (hr.alloc hB _) c H0.out))) | (go_at_call 19; exact Calls.regrown_of (below_of_same (none_any _ (by assumption) _))) | (go_at_call 22; exact Calls.regrown_of (below_of_same (lanes_any _ _ _ (by omega) hlen _))))))); refine wpQuiet_nil ?_; intro w1 hw1; have hb := below_of_regrown hw1; clear hw1; obtain ⟨hS, hE, hz, hc, hf⟩ := bcell hb; (try simp only [go_sem] at hE); subst hE))
          (refine bodyPost_ret (v := .tuple #[.agg #[.int .i64 (0), .int .i64 (0)], .int .i64 (71)]) ?_ rfl ⟨by rw [HS.out], (by repeat' (first | (with_reducible exact Below.refl _ _) | (with_reducible refine below_drewN ?_ _) | (with_reducible refine Below.drew ?_) | (with_reducible refine Below.alloc ?_ ?_ _) | (with_reducible refine Below.setCell ?_ ?_ _) | (with_reducible refine below_step ?_ (by assumption) ?_) | go_size))⟩; (simp only [results, Try.results15]; go_simp))
        have hp := hp n4
        rw [Bool.not_eq_true] at n4
        by_cases n5 : fltB z a = true
        · have HS : Hid (reachS l x r = (0, 0, 71)) := hide (by rw [HE.out, if_pos (.inr n5)])
          go_enter Try.func15, Try.ntmps15
          go_wp2_with (first | (go_at_call 8; refine (check_ok (hr.alloc hB _) c H0.out).mono ?_; rintro e w1 ⟨rfl, rfl⟩) | (go_at_call 19; refine (none_any _ (by assumption) _).mono ?_; rintro e w1 ⟨rfl, rfl⟩) | (go_at_call 22; refine (lanes_any _ _ _ (by omega) hlen _).mono ?_; rintro e w1 ⟨rfl, rfl⟩) | (refine wp_region_quiet_below (by kernel_rfl) (by kernel_rfl) ?_; (repeat (first | go_big_quiet_step ((first | (go_at_call 8; exact Calls.regrown_of (below_of_same (check_ok (hr.alloc hB _) c H0.out))) | (go_at_call 19; exact Calls.regrown_of (below_of_same (none_any _ (by assumption) _))) | (go_at_call 22; exact Calls.regrown_of (below_of_same (lanes_any _ _ _ (by omega) hlen _))))) | quiet_step ((first | (go_at_call 8; exact Calls.regrown_of (below_of_same (check_ok (hr.alloc hB _) c H0.out))) | (go_at_call 19; exact Calls.regrown_of (below_of_same (none_any _ (by assumption) _))) | (go_at_call 22; exact Calls.regrown_of (below_of_same (lanes_any _ _ _ (by omega) hlen _))))))); refine wpQuiet_nil ?_; intro w1 hw1; have hb := below_of_regrown hw1; clear hw1; obtain ⟨hS, hE, hz, hc, hf⟩ := bcell hb; (try simp only [go_sem] at hE); subst hE))
          (refine bodyPost_ret (v := .tuple #[.agg #[.int .i64 (0), .int .i64 (0)], .int .i64 (71)]) ?_ rfl ⟨by rw [HS.out], (by repeat' (first | (with_reducible exact Below.refl _ _) | (with_reducible refine below_drewN ?_ _) | (with_reducible refine Below.drew ?_) | (with_reducible refine Below.alloc ?_ ?_ _) | (with_reducible refine Below.setCell ?_ ?_ _) | (with_reducible refine below_step ?_ (by assumption) ?_) | go_size))⟩; (simp only [results, Try.results15]; go_simp))
        rw [Bool.not_eq_true] at n5
        have HS : Hid (reachS l x r = (max (behS l a : Int) 1 - 1, (behS l b : Int) - 1, 0)) := hide (by rw [HE.out, if_neg (by simp [n4, n5])]; unfold loS hiS; congr 1 <;> (try congr 1) <;> omega)
        go_enter Try.func15, Try.ntmps15
        go_wp2_with (first | (go_at_call 8; refine (check_ok (hr.alloc hB _) c H0.out).mono ?_; rintro e w1 ⟨rfl, rfl⟩) | (go_at_call 19; refine (none_any _ (by assumption) _).mono ?_; rintro e w1 ⟨rfl, rfl⟩) | (go_at_call 22; refine (lanes_any _ _ _ (by omega) hlen _).mono ?_; rintro e w1 ⟨rfl, rfl⟩) | (go_at_call 23; refine (behind_any (hr.alloc hB _) htwo c hcap _).mono ?_; rintro e w1 ⟨rfl, rfl⟩) | (refine wp_region_quiet_below (by kernel_rfl) (by kernel_rfl) ?_; (repeat (first | go_big_quiet_step ((first | (go_at_call 8; exact Calls.regrown_of (below_of_same (check_ok (hr.alloc hB _) c H0.out))) | (go_at_call 19; exact Calls.regrown_of (below_of_same (none_any _ (by assumption) _))) | (go_at_call 22; exact Calls.regrown_of (below_of_same (lanes_any _ _ _ (by omega) hlen _))) | (go_at_call 23; exact Calls.regrown_of (below_of_same (behind_any (hr.alloc hB _) htwo c hcap _))))) | quiet_step ((first | (go_at_call 8; exact Calls.regrown_of (below_of_same (check_ok (hr.alloc hB _) c H0.out))) | (go_at_call 19; exact Calls.regrown_of (below_of_same (none_any _ (by assumption) _))) | (go_at_call 22; exact Calls.regrown_of (below_of_same (lanes_any _ _ _ (by omega) hlen _))) | (go_at_call 23; exact Calls.regrown_of (below_of_same (behind_any (hr.alloc hB _) htwo c hcap _))))))); refine wpQuiet_nil ?_; intro w1 hw1; have hb := below_of_regrown hw1; clear hw1; obtain ⟨hS, hE, hz, hc, hf⟩ := bcell hb; (try simp only [go_sem] at hE); subst hE))
        all_goals ((refine bodyPost_ret (v := .tuple #[.agg #[.int .i64 (max (behS l a : Int) 1 - 1), .int .i64 ((behS l b : Int) - 1)], .int .i64 (0)]) ?_ rfl ⟨by rw [HS.out], (by repeat' (first | (with_reducible exact Below.refl _ _) | (with_reducible refine below_drewN ?_ _) | (with_reducible refine Below.drew ?_) | (with_reducible refine Below.alloc ?_ ?_ _) | (with_reducible refine Below.setCell ?_ ?_ _) | (with_reducible refine below_step ?_ (by assumption) ?_) | go_size))⟩; (simp only [results, Try.results15]; go_simp)); all_goals omega)
  · have HS : Hid (reachS l x r = (0, 0, chkS l)) := hide (by unfold reachS; rw [if_pos h0])
    have hb : (chkS l != 0) = true := by simpa using h0
    go_enter Try.func15, Try.ntmps15
    go_wp2_with (first | (go_at_call 8; refine (check_any (hr.alloc hB _) c).mono ?_; rintro e w1 ⟨rfl, rfl⟩) | (refine wp_region_quiet_below (by kernel_rfl) (by kernel_rfl) ?_; (repeat (first | go_big_quiet_step ((first | (go_at_call 8; exact Calls.regrown_of (below_of_same (check_any (hr.alloc hB _) c))))) | quiet_step ((first | (go_at_call 8; exact Calls.regrown_of (below_of_same (check_any (hr.alloc hB _) c))))))); refine wpQuiet_nil ?_; intro w1 hw1; have hb := below_of_regrown hw1; clear hw1; obtain ⟨hS, hE, hz, hc, hf⟩ := bcell hb; (try simp only [go_sem] at hE); subst hE))
    (refine bodyPost_ret (v := .tuple #[.agg #[.int .i64 (0), .int .i64 (0)], .int .i64 (chkS l)]) ?_ rfl ⟨by rw [HS.out], (by repeat' (first | (with_reducible exact Below.refl _ _) | (with_reducible refine below_drewN ?_ _) | (with_reducible refine Below.drew ?_) | (with_reducible refine Below.alloc ?_ ?_ _) | (with_reducible refine Below.setCell ?_ ?_ _) | (with_reducible refine below_step ?_ (by assumption) ?_) | go_size))⟩; (simp only [results, Try.results15]; go_simp))
end
end Go.Proofs.Ytoombjndcegggaa.Rail
