/- One question to the reader and to its reference: both answer alike. No condition but sizes. -/
import Derived.Test.YtibfjbapicjicabRefD
import Derived.Test.YtibfjbapicjicabPackLives
import Derived.Deep.RegionWith
namespace Go.Proofs.Ytibfjbapicjicab.Pack
open Go.ChangeShapes Go.WideShapes Go.ChangeAt Go.RowKit Go.Proofs.Ytibfjbapicjicab.Kit Go.Proofs.Ytibfjbapicjicab.Mem
set_option linter.unusedVariables false
set_option linter.unusedSectionVars false
theorem rb_far {w : World} {g : Nat} {p e : Int} {A : Option Addr} {n c b : Nat} (h : RB w g p e A n c) (hb : g ≠ b) (j : Nat) (u : Value) : RB (w.setCell ⟨b, j, none⟩ u) g p e A n c := (Below.heap_setCell w ⟨b, j, none⟩ u g hb).trans h
theorem up_new {a w : World} {g b : Nat} (h : a.grownBy w (some g)) (hb : a.heap.size ≤ b) (j : Nat) (u : Value) : a.grownBy (w.setCell ⟨b, j, none⟩ u) (some g) :=
  ⟨h.os, h.tape, h.output, by simpa [World.setCell] using h.size, fun i hi hne => (Below.heap_setCell w ⟨b, j, none⟩ u i (fun e => by simp only at e; omega)).trans (h.block i hi hne)⟩
theorem up_then {a W w : World} {g : Nat} (h : a.grownBy W (some g)) (k : W.grownBy w (some g)) : a.grownBy w (some g) := h.trans k
theorem up_step {a W w : World} {g : Nat} (h : a.grownBy W (some g)) (hb : Below W.heap.size W w) (hB : a.heap.size ≤ W.heap.size) : a.grownBy w (some g) := up_below h hb hB
/-- The error behind End. -/
def endE (p e : Int) (n : Nat) : Int := if p < n then failE e 251 else e
theorem end_is (g : Nat) (p e : Int) (A : Option Addr) (l : List Int) (c : Nat) (w : World) (h : RB w g p e A l.length c) (hp : 0 ≤ p ∧ p ≤ l.length) (hn : l.length ≤ 1099511627776) :
    Calls Try.prog 18 #[.pointer (some ⟨g, 0, none⟩)] w fun en w' => en = .returned (.tuple #[]) ∧ RB w' g p (endE p e l.length) A l.length c ∧ w.grownBy w' (some g) := end_any g p e A l c w h hp hn
theorem rend_is (A : Option Addr) (n c : Nat) (p e : Int) (w : World) : Calls Try.prog 34 #[.agg #[.slice A n c, .int .i64 p, .int .i64 e]] w fun en w' => en = .returned (.agg #[.slice A n c, .int .i64 p, .int .i64 (endE p e n)]) ∧ Below w.heap.size w w' := rend_any A n c p e w
section
variable (g : Nat) (p e d m : Int) (A A0 : Option Addr) (l : List Int) (c c0 : Nat) (w : World)
  (h : RB w g p e A l.length c) (hb : Bytes w g A l.length l) (hb0 : Bytes w g A0 l.length l) (hr : ∀ x ∈ l, 0 ≤ x ∧ x ≤ 255) (hp : 0 ≤ p ∧ p ≤ l.length) (hn : l.length ≤ 1099511627776) (hc : l.length ≤ c) (hcm : c ≤ 9223372036854775807) (hc0 : l.length ≤ c0) (hcm0 : c0 ≤ 9223372036854775807) (hm : -9223372036854775808 ≤ m ∧ m ≤ 9223372036854775807)
include h hb hb0 hr hp hn hc hcm hc0 hcm0 hm
set_option maxHeartbeats 1000000
theorem ask0 : Calls Try.prog 16 #[.pointer (some ⟨g, 0, none⟩), .agg #[.slice A0 l.length c0, .int .i64 (p), .int .i64 (e)], .agg #[.int .i64 (0), .int .i64 m]] w fun en w' => en = .returned (.tuple #[.agg #[.slice A0 l.length c0, .int .i64 (uAt p e m l.length), .int .i64 (uErr p e m l.length)], .bool true]) ∧ RB w' g (uAt p e m l.length) (uErr p e m l.length) A l.length c ∧ w.grownBy w' (some g) := by
  have hgl := (rb_facts h).1
  have HR := hide hr
  have B0 : ∀ o1 o2 o3, Bytes (((w.alloc o1).alloc o2).alloc o3) (((w.alloc o1).alloc o2).alloc o3).heap.size A0 l.length l := fun o1 o2 o3 => bytes_more (bytes_alloc (bytes_alloc (bytes_alloc hb0 (by omega) o1) (by simp; omega) o2) (by simp; omega) o3) (by simp; omega)
  have B1 : ∀ o1 o2 o3, Bytes (((w.alloc o1).alloc o2).alloc o3) g A l.length l := fun o1 o2 o3 => bytes_alloc (bytes_alloc (bytes_alloc hb (by omega) o1) (by simp; omega) o2) (by simp; omega) o3
  have R1 : ∀ o1 o2 o3, RB (((w.alloc o1).alloc o2).alloc o3) g p e A l.length c := fun o1 o2 o3 => rb_alloc (rb_alloc (rb_alloc h o1) o2) o3
  have B0 := hide B0
  have B1 := hide B1
  have R1 := hide R1
  clear hr hb hb0 h
  go_enter Try.func16, Try.ntmps16
  go_wp2_with (go_at_call 31; refine (ru_any A0 l c0 p e m _ (B0.out _ _ _) HR.out hp hn hc0 hcm0).mono ?_; rintro en w1 ⟨rfl, hbel⟩; have hR2 := hide (rb_below (R1.out _ _ _) hbel (by simp; omega)); have hB2 := hide (bytes_below (B1.out _ _ _) hbel (by simp; omega)); obtain ⟨hS, hE, hz, hC, hF⟩ := bcell hbel; (try simp only [go_sem] at hE); subst hE)
  go_region_with (go_at_call 13; refine (u_any g p e m A l c _ (rb_drew (rb_alloc hR2.out _)) (bytes_alloc hB2.out (by omega) _) HR.out hp hn hc hcm hm).mono ?_; rintro en w2 ⟨rfl, hR3, hu⟩; have HR3 := hide hR3; clear hR3; obtain ⟨hS2, hE2, hz2, hC2, hF2⟩ := ucell hu; (try simp only [go_sem] at hE2); subst hE2)
  all_goals
    go_wp2
    refine bodyPost_ret (v := .tuple #[.agg #[.slice A0 l.length c0, .int .i64 (uAt p e m l.length), .int .i64 (uErr p e m l.length)], .bool true]) ?_ rfl ⟨rfl, (by (repeat (with_reducible refine rb_far ?_ (by omega) _ _)); exact HR3.out), (by repeat' (first | (with_reducible exact up_refl _ _) | (with_reducible refine up_new ?_ ?_ _ _) | (with_reducible refine up_alloc ?_ _) | (with_reducible refine up_drew ?_) | (with_reducible refine up_drewN ?_ _) | (with_reducible refine up_then ?_ (by assumption)) | (with_reducible refine up_step ?_ (by assumption) ?_) | go_size | (simp; omega)))⟩
    simp only [results, Try.results16]
    go_simp
theorem ask1 : Calls Try.prog 16 #[.pointer (some ⟨g, 0, none⟩), .agg #[.slice A0 l.length c0, .int .i64 (p), .int .i64 (e)], .agg #[.int .i64 (1), .int .i64 m]] w fun en w' => en = .returned (.tuple #[.agg #[.slice A0 l.length c0, .int .i64 (uAt p e m l.length), .int .i64 (uErr p e m l.length)], .bool true]) ∧ RB w' g (uAt p e m l.length) (uErr p e m l.length) A l.length c ∧ w.grownBy w' (some g) := by
  have hgl := (rb_facts h).1
  have HR := hide hr
  have B0 : ∀ o1 o2 o3, Bytes (((w.alloc o1).alloc o2).alloc o3) (((w.alloc o1).alloc o2).alloc o3).heap.size A0 l.length l := fun o1 o2 o3 => bytes_more (bytes_alloc (bytes_alloc (bytes_alloc hb0 (by omega) o1) (by simp; omega) o2) (by simp; omega) o3) (by simp; omega)
  have B1 : ∀ o1 o2 o3, Bytes (((w.alloc o1).alloc o2).alloc o3) g A l.length l := fun o1 o2 o3 => bytes_alloc (bytes_alloc (bytes_alloc hb (by omega) o1) (by simp; omega) o2) (by simp; omega) o3
  have R1 : ∀ o1 o2 o3, RB (((w.alloc o1).alloc o2).alloc o3) g p e A l.length c := fun o1 o2 o3 => rb_alloc (rb_alloc (rb_alloc h o1) o2) o3
  have B0 := hide B0
  have B1 := hide B1
  have R1 := hide R1
  clear hr hb hb0 h
  go_enter Try.func16, Try.ntmps16
  go_wp2_with (go_at_call 32; refine (ri_any A0 l c0 p e m _ (B0.out _ _ _) HR.out hp hn hc0 hcm0).mono ?_; rintro en w1 ⟨rfl, hbel⟩; have hR2 := hide (rb_below (R1.out _ _ _) hbel (by simp; omega)); have hB2 := hide (bytes_below (B1.out _ _ _) hbel (by simp; omega)); obtain ⟨hS, hE, hz, hC, hF⟩ := bcell hbel; (try simp only [go_sem] at hE); subst hE)
  go_region_with (go_at_call 20; refine (i_any g p e m A l c _ (rb_drew (rb_alloc hR2.out _)) (bytes_alloc hB2.out (by omega) _) HR.out hp hn hc hcm hm).mono ?_; rintro en w2 ⟨rfl, hR3, hu⟩; have HR3 := hide hR3; clear hR3; obtain ⟨hS2, hE2, hz2, hC2, hF2⟩ := ucell hu; (try simp only [go_sem] at hE2); subst hE2)
  all_goals
    go_wp2
    refine bodyPost_ret (v := .tuple #[.agg #[.slice A0 l.length c0, .int .i64 (uAt p e m l.length), .int .i64 (uErr p e m l.length)], .bool true]) ?_ rfl ⟨rfl, (by (repeat (with_reducible refine rb_far ?_ (by omega) _ _)); exact HR3.out), (by repeat' (first | (with_reducible exact up_refl _ _) | (with_reducible refine up_new ?_ ?_ _ _) | (with_reducible refine up_alloc ?_ _) | (with_reducible refine up_drew ?_) | (with_reducible refine up_drewN ?_ _) | (with_reducible refine up_then ?_ (by assumption)) | (with_reducible refine up_step ?_ (by assumption) ?_) | go_size | (simp; omega)))⟩
    simp only [results, Try.results16]
    go_simp
theorem ask2 : Calls Try.prog 16 #[.pointer (some ⟨g, 0, none⟩), .agg #[.slice A0 l.length c0, .int .i64 (p), .int .i64 (e)], .agg #[.int .i64 (2), .int .i64 m]] w fun en w' => en = .returned (.tuple #[.agg #[.slice A0 l.length c0, .int .i64 (atT p e m l.length), .int .i64 (errT p e m l.length)], .bool true]) ∧ RB w' g (atT p e m l.length) (errT p e m l.length) A l.length c ∧ w.grownBy w' (some g) := by
  have hgl := (rb_facts h).1
  have HR := hide hr
  have B0 : ∀ o1 o2 o3, Bytes (((w.alloc o1).alloc o2).alloc o3) (((w.alloc o1).alloc o2).alloc o3).heap.size A0 l.length l := fun o1 o2 o3 => bytes_more (bytes_alloc (bytes_alloc (bytes_alloc hb0 (by omega) o1) (by simp; omega) o2) (by simp; omega) o3) (by simp; omega)
  have B1 : ∀ o1 o2 o3, Bytes (((w.alloc o1).alloc o2).alloc o3) g A l.length l := fun o1 o2 o3 => bytes_alloc (bytes_alloc (bytes_alloc hb (by omega) o1) (by simp; omega) o2) (by simp; omega) o3
  have R1 : ∀ o1 o2 o3, RB (((w.alloc o1).alloc o2).alloc o3) g p e A l.length c := fun o1 o2 o3 => rb_alloc (rb_alloc (rb_alloc h o1) o2) o3
  have B0 := hide B0
  have B1 := hide B1
  have R1 := hide R1
  clear hr hb hb0 h
  go_enter Try.func16, Try.ntmps16
  go_wp2_with (go_at_call 33; refine (rtake_any A0 l c0 p e m _ (B0.out _ _ _) hp hn hc0 hcm0).mono ?_; rintro en w1 ⟨A2, c2, rfl, hown, hbel⟩; have hR2 := hide (rb_below (R1.out _ _ _) hbel (by simp; omega)); have hB2 := hide (bytes_below (B1.out _ _ _) hbel (by simp; omega)); obtain ⟨hS, hE, hz, hC, hF⟩ := bcell hbel; (try simp only [go_sem] at hE); subst hE)
  have SB := hide (sameB_self (takeT l p e m))
  go_region_with (first | (go_at_call 12; refine (take_any g p e m A l c _ (rb_drew (rb_alloc hR2.out _)) (bytes_alloc hB2.out (by omega) _) hp hn hc hcm hm).mono ?_; rintro en w2 ⟨A3, c3, rfl, hown3, hR3, hu, hc3⟩; have HR3 := hide hR3; clear hR3; have HY := hide (bytes_of_own (own_up ((hown.alloc _).drew) hu (by simp only [go_sem]; omega))); obtain ⟨hS2, hE2, hz2, hC2, hF2⟩ := ucell hu; (try simp only [go_sem] at hE2); subst hE2) | (go_at_call 9; refine (same_any (bytes_of_own hown3) HY.out).mono ?_; rw [SB.out]; rintro en w3 ⟨rfl, rfl⟩))
  all_goals
    go_wp2
    refine bodyPost_ret (v := .tuple #[.agg #[.slice A0 l.length c0, .int .i64 (atT p e m l.length), .int .i64 (errT p e m l.length)], .bool true]) ?_ rfl ⟨rfl, (by (repeat (with_reducible refine rb_far ?_ (by omega) _ _)); exact HR3.out), (by repeat' (first | (with_reducible exact up_refl _ _) | (with_reducible refine up_new ?_ ?_ _ _) | (with_reducible refine up_alloc ?_ _) | (with_reducible refine up_drew ?_) | (with_reducible refine up_drewN ?_ _) | (with_reducible refine up_then ?_ (by assumption)) | (with_reducible refine up_step ?_ (by assumption) ?_) | go_size | (simp; omega)))⟩
    simp only [results, Try.results16]
    go_simp
theorem ask3 : Calls Try.prog 16 #[.pointer (some ⟨g, 0, none⟩), .agg #[.slice A0 l.length c0, .int .i64 (p), .int .i64 (e)], .agg #[.int .i64 (3), .int .i64 m]] w fun en w' => en = .returned (.tuple #[.agg #[.slice A0 l.length c0, .int .i64 (p), .int .i64 (endE p e l.length)], .bool true]) ∧ RB w' g (p) (endE p e l.length) A l.length c ∧ w.grownBy w' (some g) := by
  have hgl := (rb_facts h).1
  have HR := hide hr
  have B0 : ∀ o1 o2 o3, Bytes (((w.alloc o1).alloc o2).alloc o3) (((w.alloc o1).alloc o2).alloc o3).heap.size A0 l.length l := fun o1 o2 o3 => bytes_more (bytes_alloc (bytes_alloc (bytes_alloc hb0 (by omega) o1) (by simp; omega) o2) (by simp; omega) o3) (by simp; omega)
  have B1 : ∀ o1 o2 o3, Bytes (((w.alloc o1).alloc o2).alloc o3) g A l.length l := fun o1 o2 o3 => bytes_alloc (bytes_alloc (bytes_alloc hb (by omega) o1) (by simp; omega) o2) (by simp; omega) o3
  have R1 : ∀ o1 o2 o3, RB (((w.alloc o1).alloc o2).alloc o3) g p e A l.length c := fun o1 o2 o3 => rb_alloc (rb_alloc (rb_alloc h o1) o2) o3
  have B0 := hide B0
  have B1 := hide B1
  have R1 := hide R1
  clear hr hb hb0 h
  go_enter Try.func16, Try.ntmps16
  go_wp2_with (first | (go_at_call 18; refine (end_is g p e A l c _ (R1.out _ _ _) hp hn).mono ?_; rintro en w1 ⟨rfl, hR3, hu⟩; have HR3 := hide hR3; clear hR3; obtain ⟨hS2, hE2, hz2, hC2, hF2⟩ := ucell hu; (try simp only [go_sem] at hE2); subst hE2) | (go_at_call 34; refine (rend_is A0 l.length c0 p e _).mono ?_; rintro en w2 ⟨rfl, hbel⟩; have HR4 := hide (rb_below HR3.out hbel (by omega)); clear HR3; have HR3 := HR4; obtain ⟨hS, hE, hz, hC, hF⟩ := bcell hbel; (try simp only [go_sem] at hE); subst hE))
  go_wp2
  refine bodyPost_ret (v := .tuple #[.agg #[.slice A0 l.length c0, .int .i64 (p), .int .i64 (endE p e l.length)], .bool true]) ?_ rfl ⟨rfl, (by (repeat (with_reducible refine rb_far ?_ (by omega) _ _)); exact HR3.out), (by repeat' (first | (with_reducible exact up_refl _ _) | (with_reducible refine up_new ?_ ?_ _ _) | (with_reducible refine up_alloc ?_ _) | (with_reducible refine up_drew ?_) | (with_reducible refine up_drewN ?_ _) | (with_reducible refine up_then ?_ (by assumption)) | (with_reducible refine up_step ?_ (by assumption) ?_) | go_size | (simp; omega)))⟩
  simp only [results, Try.results16]
  go_simp
theorem ask4 (hd0 : d ≠ 0) (hd1 : d ≠ 1) (hd2 : d ≠ 2) (hd3 : d ≠ 3) : Calls Try.prog 16 #[.pointer (some ⟨g, 0, none⟩), .agg #[.slice A0 l.length c0, .int .i64 (p), .int .i64 (e)], .agg #[.int .i64 (d), .int .i64 m]] w fun en w' => en = .returned (.tuple #[.agg #[.slice A0 l.length c0, .int .i64 (p), .int .i64 (failE e m)], .bool true]) ∧ RB w' g (p) (failE e m) A l.length c ∧ w.grownBy w' (some g) := by
  have t0 : (d == 0) = false := by simpa using hd0
  have t1 : (d == 1) = false := by simpa using hd1
  have t2 : (d == 2) = false := by simpa using hd2
  have t3 : (d == 3) = false := by simpa using hd3
  clear hd0 hd1 hd2 hd3
  have hgl := (rb_facts h).1
  have HR := hide hr
  have B0 : ∀ o1 o2 o3, Bytes (((w.alloc o1).alloc o2).alloc o3) (((w.alloc o1).alloc o2).alloc o3).heap.size A0 l.length l := fun o1 o2 o3 => bytes_more (bytes_alloc (bytes_alloc (bytes_alloc hb0 (by omega) o1) (by simp; omega) o2) (by simp; omega) o3) (by simp; omega)
  have B1 : ∀ o1 o2 o3, Bytes (((w.alloc o1).alloc o2).alloc o3) g A l.length l := fun o1 o2 o3 => bytes_alloc (bytes_alloc (bytes_alloc hb (by omega) o1) (by simp; omega) o2) (by simp; omega) o3
  have R1 : ∀ o1 o2 o3, RB (((w.alloc o1).alloc o2).alloc o3) g p e A l.length c := fun o1 o2 o3 => rb_alloc (rb_alloc (rb_alloc h o1) o2) o3
  have B0 := hide B0
  have B1 := hide B1
  have R1 := hide R1
  clear hr hb hb0 h
  go_enter Try.func16, Try.ntmps16
  go_wp2_with (first | (go_at_call 19; refine (fail_m g p e A l c _ m (R1.out _ _ _)).mono ?_; rintro en w1 ⟨rfl, hR3, hu⟩; have HR3 := hide hR3; clear hR3; obtain ⟨hS2, hE2, hz2, hC2, hF2⟩ := ucell hu; (try simp only [go_sem] at hE2); subst hE2) | (go_at_call 35; refine (rfail_any A0 l.length c0 p e m _).mono ?_; rintro en w2 ⟨rfl, hbel⟩; have HR4 := hide (rb_below HR3.out hbel (by omega)); clear HR3; have HR3 := HR4; obtain ⟨hS, hE, hz, hC, hF⟩ := bcell hbel; (try simp only [go_sem] at hE); subst hE))
  go_wp2
  refine bodyPost_ret (v := .tuple #[.agg #[.slice A0 l.length c0, .int .i64 (p), .int .i64 (failE e m)], .bool true]) ?_ rfl ⟨rfl, (by (repeat (with_reducible refine rb_far ?_ (by omega) _ _)); exact HR3.out), (by repeat' (first | (with_reducible exact up_refl _ _) | (with_reducible refine up_new ?_ ?_ _ _) | (with_reducible refine up_alloc ?_ _) | (with_reducible refine up_drew ?_) | (with_reducible refine up_drewN ?_ _) | (with_reducible refine up_then ?_ (by assumption)) | (with_reducible refine up_step ?_ (by assumption) ?_) | go_size | (simp; omega)))⟩
  simp only [results, Try.results16]
  go_simp
end
end Go.Proofs.Ytibfjbapicjicab.Pack
