/- What a plate holds, by the program and by the reference. No condition. -/
import Derived.Test.YtfckciblnojniaaDoorDkC
namespace Go.Proofs.YtfckciblnojniaaDoor.Dk
open Go.ChangeShapes Go.WideShapes Go.ChangeAt Go.RowKit Go.Proofs.YtfckciblnojniaaDoor.Kit Go.Proofs.YtfckciblnojniaaDoor.Flt Go.Proofs.YtfckciblnojniaaDoor.Mem Go.Proofs.YtfckciblnojniaaDoor.Rail Go.Deep
set_option linter.unusedVariables false
set_option linter.unusedSimpArgs false
def okN (cap n : Int) : Bool := decide (0 ≤ n) && decide (n ≤ cap)
/-- May what a plate holds be? -/
def holdsB (r c cap : Int) (l : List Int) : Bool := decide (1 ≤ cap) && decide (cap ≤ 1099511627776) && decide ((l.length : Int) ≤ r * c) && l.all (okN cap)
def Plt.val (p : Plt) : Value := .agg #[.int .i64 p.r, .int .i64 p.c, .float .f64 p.x, .float .f64 p.y, .float .f64 p.z, .int .i64 p.cap, .slice p.A p.l.length p.k]
theorem all_at (l : List Int) (f : Int → Bool) (k : Nat) (h : k < l.length) : (l.drop k).all f = (f (l.getD k 0) && (l.drop (k + 1)).all f) := by
  rw [List.drop_eq_getElem_cons h, List.all_cons, List.getD_eq_getElem?_getD, List.getElem?_eq_getElem h]
  rfl
set_option maxHeartbeats 4000000 in
set_option maxRecDepth 20000 in
theorem holds_walk {w : World} {B0 n : Nat} (a b q : Nat) (x y z : Nat) (cap : Int) (A : Option Addr) (kk : Nat) (l : List Int) (hr : Ints w B0 A n l) (hB : B0 ≤ w.heap.size) (hab : a * b = q) (hq : q ≤ 1536) (hl : l.length ≤ 100000) :
    Calls Tryd.prog 31 #[.agg #[.int .i64 a, .int .i64 b, .float .f64 x, .float .f64 y, .float .f64 z, .int .i64 cap, .slice A n kk]] w fun e w' => e = .returned (.bool (holdsB a b cap l)) ∧ Below w.heap.size w w' := by
  have e1 := hr.1
  subst e1
  have HR := hide hr
  clear hr
  have em : (a : Int) * (b : Int) = (q : Int) := by rw [← hab, Int.natCast_mul]
  have hw2 : wrap64 ((a : Int) * (b : Int)) = (q : Int) := by rw [em]; exact IntWalk.wrap64_in _ ⟨by omega, by omega⟩
  have HH : Hid (holdsB a b cap l = (decide (1 ≤ cap) && decide (cap ≤ 1099511627776) && decide ((l.length : Int) ≤ (q : Int)) && l.all (okN cap))) := hide (by unfold holdsB; rw [em])
  clear em hab
  by_cases h1 : 1 ≤ cap
  case neg =>
    have hv : Hid (holdsB a b cap l = false) := hide (by rw [HH.out, decide_eq_false h1]; rfl)
    go_enter Tryd.func31, Tryd.ntmps31
    go_wp2
    go_ret
    exact ⟨by rw [hv.out]; rfl, (by repeat' (first | (with_reducible exact Below.refl _ _) | (with_reducible refine below_drewN ?_ _) | (with_reducible refine Below.drew ?_) | (with_reducible refine Below.alloc ?_ ?_ _) | (with_reducible refine Below.setCell ?_ ?_ _) | (with_reducible refine below_step ?_ (by assumption) ?_) | (with_reducible refine below_step ?_ (below_regrown _ _ _) ?_) | go_size))⟩
  by_cases h2 : cap ≤ 1099511627776
  case neg =>
    have hv : Hid (holdsB a b cap l = false) := hide (by rw [HH.out, decide_eq_false h2]; simp)
    go_enter Tryd.func31, Tryd.ntmps31
    go_wp2
    go_ret
    exact ⟨by rw [hv.out]; rfl, (by repeat' (first | (with_reducible exact Below.refl _ _) | (with_reducible refine below_drewN ?_ _) | (with_reducible refine Below.drew ?_) | (with_reducible refine Below.alloc ?_ ?_ _) | (with_reducible refine Below.setCell ?_ ?_ _) | (with_reducible refine below_step ?_ (by assumption) ?_) | (with_reducible refine below_step ?_ (below_regrown _ _ _) ?_) | go_size))⟩
  by_cases h3 : (l.length : Int) ≤ (q : Int)
  case neg =>
    have hv : Hid (holdsB a b cap l = false) := hide (by rw [HH.out, decide_eq_false h3]; simp)
    go_enter Tryd.func31, Tryd.ntmps31
    go_wp2
    go_ret
    exact ⟨by rw [hv.out]; rfl, (by repeat' (first | (with_reducible exact Below.refl _ _) | (with_reducible refine below_drewN ?_ _) | (with_reducible refine Below.drew ?_) | (with_reducible refine Below.alloc ?_ ?_ _) | (with_reducible refine Below.setCell ?_ ?_ _) | (with_reducible refine below_step ?_ (by assumption) ?_) | (with_reducible refine below_step ?_ (below_regrown _ _ _) ?_) | go_size))⟩
  have hv : Hid (holdsB a b cap l = l.all (okN cap)) := hide (by rw [HH.out, decide_eq_true h1, decide_eq_true h2, decide_eq_true h3]; rfl)
  clear HH
  have f1 : decide (cap < 1) = false := decide_eq_false (by omega)
  have f2 : decide (1099511627776 < cap) = false := decide_eq_false (by omega)
  have f3 : decide (q < l.length) = false := decide_eq_false (by omega)
  go_enter Tryd.func31, Tryd.ntmps31
  go_wp2
  simp only [hw2]
  have HB0 : Hid (Below w.heap.size w (w.alloc (.cells #[.int .i64 a, .int .i64 b, .float .f64 x, .float .f64 y, .float .f64 z, .int .i64 cap, .slice A l.length kk] 47))) := hide ((Below.refl _ _).alloc (Nat.le_refl _) _)
  go_loopw [4, 27] (fun v4 i wr => ∃ k : Nat, k ≤ l.length ∧ i = .int .i64 k ∧ Hid (l.all (okN cap) = (l.drop k).all (okN cap)) ∧ wr = w.alloc (.cells #[.int .i64 a, .int .i64 b, .float .f64 x, .float .f64 y, .float .f64 z, .int .i64 cap, .slice A l.length kk] 47)) (fun v4 i _ => l.length - (intOf i).toNat)
  case atStart => exact ⟨0, Nat.zero_le _, rfl, hide rfl, rfl⟩
  case round =>
    obtain ⟨k, hk, rfl, HS, rfl⟩ := hrel
    by_cases hlt : k < l.length
    · obtain ⟨b5, off, rfl, hbB, hcell⟩ := HR.out.2 (by omega)
      have d0 : w.cell? ⟨b5, off + k, none⟩ = some (.int .i64 (l.getD k 0)) := hcell k hlt
      have HT := hide (HS.out.trans (all_at l (okN cap) k hlt))
      have hbr : b5 < w.heap.size := by omega
      clear hcell HS
      generalize l.getD k 0 = v at *
      by_cases g1 : 0 ≤ v
      · by_cases g2 : v ≤ cap
        · have HT2 : Hid (l.all (okN cap) = (l.drop (k + 1)).all (okN cap)) := hide (by rw [HT.out]; unfold okN; rw [decide_eq_true g1, decide_eq_true g2]; rfl)
          clear HT
          go_wp2
          exact ⟨⟨k + 1, by omega, by go_num, HT2, trivial⟩, by simp [intOf]; omega⟩
        · have HT2 : Hid (l.all (okN cap) = false) := hide (by rw [HT.out]; unfold okN; rw [decide_eq_false g2]; simp)
          clear HT
          go_wp2
          go_ret
          exact ⟨by rw [hv.out, HT2.out]; rfl, HB0.out⟩
      · have HT2 : Hid (l.all (okN cap) = false) := hide (by rw [HT.out]; unfold okN; rw [decide_eq_false g1]; simp)
        clear HT
        go_wp2
        go_ret
        exact ⟨by rw [hv.out, HT2.out]; rfl, HB0.out⟩
    · obtain rfl : k = l.length := by omega
      have HT2 : Hid (l.all (okN cap) = true) := hide (by rw [HS.out, List.drop_length]; rfl)
      go_wp2
      go_ret
      exact ⟨by rw [hv.out, HT2.out]; rfl, HB0.out⟩
theorem holds_any {w : World} {B0 : Nat} (p : Plt) (hr : Ints w B0 p.A p.l.length p.l) (hB : B0 ≤ w.heap.size) (hm : mayB p.r p.c = true) (hl : p.l.length ≤ 100000) : Calls Tryd.prog 31 #[p.val] w fun e w' => e = .returned (.bool (holdsB p.r p.c p.cap p.l)) ∧ Below w.heap.size w w' := by
  obtain ⟨r, c, x, y, z, cap, A, kk, l⟩ := p
  dsimp only at hr hm hl ⊢
  obtain ⟨m1, m2, m3, m4⟩ := may_iff.1 hm
  obtain ⟨a, rfl⟩ := Int.eq_ofNat_of_zero_le (show 0 ≤ r by omega)
  obtain ⟨b, rfl⟩ := Int.eq_ofNat_of_zero_le (show 0 ≤ c by omega)
  have hab : a * b ≤ 32 * 48 := Nat.mul_le_mul (by omega) (by omega)
  exact holds_walk a b (a * b) x y z cap A kk l hr hB rfl (by omega) hl
theorem rplate_not {w : World} (r c : Int) (x y z : Nat) (cap : Int) (A : Option Addr) (n kk : Nat) (hm : mayB r c = false) :
    Calls Tryd.prog 33 #[.agg #[.int .i64 r, .int .i64 c, .float .f64 x, .float .f64 y, .float .f64 z, .int .i64 cap, .slice A n kk]] w fun e w' => e = .returned (.bool false) ∧ Below w.heap.size w w' := by
  have cB := fun w => rbox_any r c w
  rw [hm] at cB
  go_enter Tryd.func33, Tryd.ntmps33
  go_wp2_with (first | (go_at_call 34; refine (cB _).mono ?_; rintro e w1 ⟨rfl, hb⟩; obtain ⟨hS, hE, hz, hc, hf⟩ := bcell hb; (try simp only [go_sem] at hE); subst hE) | ((with_reducible change Code.wp _ (Code.region _ _ _) _ _ _); refine wp_region_quiet_below (by kernel_rfl) (by kernel_rfl) ?_; (repeat (first | go_big_quiet_step ((first | (go_at_call 34; exact Calls.regrown_of (cB _)))) | quiet_step ((first | (go_at_call 34; exact Calls.regrown_of (cB _)))))); refine wpQuiet_nil ?_; intro w1 hw1; have hb := below_of_regrown hw1; clear hw1; obtain ⟨hS, hE, hz, hc, hf⟩ := bcell hb; (try simp only [go_sem] at hE); subst hE))
  go_ret
  exact ⟨rfl, (by repeat' (first | (with_reducible exact Below.refl _ _) | (with_reducible refine below_drewN ?_ _) | (with_reducible refine Below.drew ?_) | (with_reducible refine Below.alloc ?_ ?_ _) | (with_reducible refine Below.setCell ?_ ?_ _) | (with_reducible refine below_step ?_ (by assumption) ?_) | (with_reducible refine below_step ?_ (below_regrown _ _ _) ?_) | go_size))⟩
set_option maxHeartbeats 8000000 in
set_option maxRecDepth 20000 in
theorem rplate_walk {w : World} {B0 n : Nat} (a b q : Nat) (x y z : Nat) (cap : Int) (A : Option Addr) (kk : Nat) (l : List Int) (hr : Ints w B0 A n l) (hB : B0 ≤ w.heap.size) (hab : a * b = q) (hq : q ≤ 1536) (hl : l.length ≤ 100000) (hm : mayB a b = true) :
    Calls Tryd.prog 33 #[.agg #[.int .i64 a, .int .i64 b, .float .f64 x, .float .f64 y, .float .f64 z, .int .i64 cap, .slice A n kk]] w fun e w' => e = .returned (.bool (holdsB a b cap l)) ∧ Below w.heap.size w w' := by
  have e1 := hr.1
  subst e1
  have HR := hide hr
  clear hr
  have cB := fun w => rbox_any a b w
  rw [hm] at cB
  have em : (a : Int) * (b : Int) = (q : Int) := by rw [← hab, Int.natCast_mul]
  have hw2 : wrap64 ((a : Int) * (b : Int)) = (q : Int) := by rw [em]; exact IntWalk.wrap64_in _ ⟨by omega, by omega⟩
  have HH : Hid (holdsB a b cap l = (decide (1 ≤ cap) && decide (cap ≤ 1099511627776) && decide ((l.length : Int) ≤ (q : Int)) && l.all (okN cap))) := hide (by unfold holdsB; rw [em])
  clear em hab hm
  by_cases h1 : 1 ≤ cap
  case neg =>
    have hv : Hid (holdsB a b cap l = false) := hide (by rw [HH.out, decide_eq_false h1]; rfl)
    go_enter Tryd.func33, Tryd.ntmps33
    go_wp2_with (first | (go_at_call 34; refine (cB _).mono ?_; rintro e w1 ⟨rfl, hb⟩; obtain ⟨hS, hE, hz, hc, hf⟩ := bcell hb; (try simp only [go_sem] at hE); subst hE) | ((with_reducible change Code.wp _ (Code.region _ _ _) _ _ _); refine wp_region_quiet_below (by kernel_rfl) (by kernel_rfl) ?_; (repeat (first | go_big_quiet_step ((first | (go_at_call 34; exact Calls.regrown_of (cB _)))) | quiet_step ((first | (go_at_call 34; exact Calls.regrown_of (cB _)))))); refine wpQuiet_nil ?_; intro w1 hw1; have hb := below_of_regrown hw1; clear hw1; obtain ⟨hS, hE, hz, hc, hf⟩ := bcell hb; (try simp only [go_sem] at hE); subst hE))
    go_ret
    exact ⟨by rw [hv.out]; rfl, (by repeat' (first | (with_reducible exact Below.refl _ _) | (with_reducible refine below_drewN ?_ _) | (with_reducible refine Below.drew ?_) | (with_reducible refine Below.alloc ?_ ?_ _) | (with_reducible refine Below.setCell ?_ ?_ _) | (with_reducible refine below_step ?_ (by assumption) ?_) | (with_reducible refine below_step ?_ (below_regrown _ _ _) ?_) | go_size))⟩
  by_cases h2 : cap ≤ 1099511627776
  case neg =>
    have hv : Hid (holdsB a b cap l = false) := hide (by rw [HH.out, decide_eq_false h2]; simp)
    go_enter Tryd.func33, Tryd.ntmps33
    go_wp2_with (first | (go_at_call 34; refine (cB _).mono ?_; rintro e w1 ⟨rfl, hb⟩; obtain ⟨hS, hE, hz, hc, hf⟩ := bcell hb; (try simp only [go_sem] at hE); subst hE) | ((with_reducible change Code.wp _ (Code.region _ _ _) _ _ _); refine wp_region_quiet_below (by kernel_rfl) (by kernel_rfl) ?_; (repeat (first | go_big_quiet_step ((first | (go_at_call 34; exact Calls.regrown_of (cB _)))) | quiet_step ((first | (go_at_call 34; exact Calls.regrown_of (cB _)))))); refine wpQuiet_nil ?_; intro w1 hw1; have hb := below_of_regrown hw1; clear hw1; obtain ⟨hS, hE, hz, hc, hf⟩ := bcell hb; (try simp only [go_sem] at hE); subst hE))
    go_ret
    exact ⟨by rw [hv.out]; rfl, (by repeat' (first | (with_reducible exact Below.refl _ _) | (with_reducible refine below_drewN ?_ _) | (with_reducible refine Below.drew ?_) | (with_reducible refine Below.alloc ?_ ?_ _) | (with_reducible refine Below.setCell ?_ ?_ _) | (with_reducible refine below_step ?_ (by assumption) ?_) | (with_reducible refine below_step ?_ (below_regrown _ _ _) ?_) | go_size))⟩
  by_cases h3 : (l.length : Int) ≤ (q : Int)
  case neg =>
    have hv : Hid (holdsB a b cap l = false) := hide (by rw [HH.out, decide_eq_false h3]; simp)
    go_enter Tryd.func33, Tryd.ntmps33
    go_wp2_with (first | (go_at_call 34; refine (cB _).mono ?_; rintro e w1 ⟨rfl, hb⟩; obtain ⟨hS, hE, hz, hc, hf⟩ := bcell hb; (try simp only [go_sem] at hE); subst hE) | ((with_reducible change Code.wp _ (Code.region _ _ _) _ _ _); refine wp_region_quiet_below (by kernel_rfl) (by kernel_rfl) ?_; (repeat (first | go_big_quiet_step ((first | (go_at_call 34; exact Calls.regrown_of (cB _)))) | quiet_step ((first | (go_at_call 34; exact Calls.regrown_of (cB _)))))); refine wpQuiet_nil ?_; intro w1 hw1; have hb := below_of_regrown hw1; clear hw1; obtain ⟨hS, hE, hz, hc, hf⟩ := bcell hb; (try simp only [go_sem] at hE); subst hE))
    go_ret
    exact ⟨by rw [hv.out]; rfl, (by repeat' (first | (with_reducible exact Below.refl _ _) | (with_reducible refine below_drewN ?_ _) | (with_reducible refine Below.drew ?_) | (with_reducible refine Below.alloc ?_ ?_ _) | (with_reducible refine Below.setCell ?_ ?_ _) | (with_reducible refine below_step ?_ (by assumption) ?_) | (with_reducible refine below_step ?_ (below_regrown _ _ _) ?_) | go_size))⟩
  have hv : Hid (holdsB a b cap l = l.all (okN cap)) := hide (by rw [HH.out, decide_eq_true h1, decide_eq_true h2, decide_eq_true h3]; rfl)
  clear HH
  have f6 : decide (cap < 1) = false := decide_eq_false (by omega)
  have f7 : decide (1099511627776 < cap) = false := decide_eq_false (by omega)
  have f8 : decide (q < l.length) = false := decide_eq_false (by omega)
  go_enter Tryd.func33, Tryd.ntmps33
  go_wp2_with (first | (go_at_call 34; refine (cB _).mono ?_; rintro e w1 ⟨rfl, hb⟩; obtain ⟨hS, hE, hz, hc, hf⟩ := bcell hb; (try simp only [go_sem] at hE); subst hE) | ((with_reducible change Code.wp _ (Code.region _ _ _) _ _ _); refine wp_region_quiet_below (by kernel_rfl) (by kernel_rfl) ?_; (repeat (first | go_big_quiet_step ((first | (go_at_call 34; exact Calls.regrown_of (cB _)))) | quiet_step ((first | (go_at_call 34; exact Calls.regrown_of (cB _)))))); refine wpQuiet_nil ?_; intro w1 hw1; have hb := below_of_regrown hw1; clear hw1; obtain ⟨hS, hE, hz, hc, hf⟩ := bcell hb; (try simp only [go_sem] at hE); subst hE))
  have c5 : w1.cell? ⟨w.heap.size, 5, none⟩ = some (.int .i64 cap) := (hb.cell (p := ⟨w.heap.size, 5, none⟩) (by simp)).trans (by rw [World.cell?_alloc_new]; rfl)
  have c6 : w1.cell? ⟨w.heap.size, 6, none⟩ = some (.slice A l.length kk) := (hb.cell (p := ⟨w.heap.size, 6, none⟩) (by simp)).trans (by rw [World.cell?_alloc_new]; rfl)
  have hzz : w.heap.size < w1.heap.size := by have := hb.size; simp at this; omega
  have hbw : Below w.heap.size w w1 := (by repeat' (first | (with_reducible exact Below.refl _ _) | (with_reducible refine below_drewN ?_ _) | (with_reducible refine Below.drew ?_) | (with_reducible refine Below.alloc ?_ ?_ _) | (with_reducible refine Below.setCell ?_ ?_ _) | (with_reducible refine below_step ?_ (by assumption) ?_) | (with_reducible refine below_step ?_ (below_regrown _ _ _) ?_) | go_size))
  have HC5 := hide c5
  have HC6 := hide c6
  have HBW := hide hbw
  simp only [hw2]
  go_loopw [3] (fun i wr => ∃ k : Nat, k ≤ l.length ∧ i = .int .i64 k ∧ Hid (l.all (okN cap) = (l.drop k).all (okN cap)) ∧ Below w1.heap.size w1 wr) (fun i _ => l.length - (intOf i).toNat)
  case atStart => exact ⟨0, Nat.zero_le _, rfl, hide rfl, Below.refl _ _⟩
  case round =>
    obtain ⟨k, hk, rfl, HS, hbr⟩ := hrel
    have HBR := hide hbr
    have hzr := hbr.size
    have e5 := (hbr.cell (p := ⟨w.heap.size, 5, none⟩) hzz).trans HC5.out
    have e6 := (hbr.cell (p := ⟨w.heap.size, 6, none⟩) hzz).trans HC6.out
    have HBE : Hid (Below w.heap.size w wr) := hide (hbw.trans (hbr.mono (by omega)))
    by_cases hlt : k < l.length
    · obtain ⟨b5, off, rfl, hbB, hcell⟩ := HR.out.2 (by omega)
      have hb5 : b5 < w.heap.size := by omega
      have d0 : wr.cell? ⟨b5, off + k, none⟩ = some (.int .i64 (l.getD k 0)) := (HBE.out.cell (p := ⟨b5, off + k, none⟩) hb5).trans (hcell k hlt)
      have HT := hide (HS.out.trans (all_at l (okN cap) k hlt))
      have hb6 : b5 < wr.heap.size := by omega
      have hz6 : w.heap.size < wr.heap.size := by omega
      clear hcell HS hbr
      generalize l.getD k 0 = v at *
      by_cases g1 : 0 ≤ v
      · by_cases g2 : v ≤ cap
        · have HT2 : Hid (l.all (okN cap) = (l.drop (k + 1)).all (okN cap)) := hide (by rw [HT.out]; unfold okN; rw [decide_eq_true g1, decide_eq_true g2]; rfl)
          clear HT
          have f1 : decide (v < 0) = false := decide_eq_false (by omega)
          have f2 : decide (cap < v) = false := decide_eq_false (by omega)
          go_wp2_with (first | ((with_reducible change Code.wp _ (Code.region _ _ _) _ _ _); refine wp_region_quiet_below (by kernel_rfl) (by kernel_rfl) ?_; (repeat (first | go_big_quiet_step (fail) | quiet_step (fail))); refine wpQuiet_nil ?_; intro w1 hw1; have hb := below_of_regrown hw1; clear hw1; obtain ⟨hS, hE, hz, hc, hf⟩ := bcell hb; (try simp only [go_sem] at hE); subst hE))
          exact ⟨⟨k + 1, by omega, by go_num, HT2, HBR.out.trans (by repeat' (first | (with_reducible exact Below.refl _ _) | (with_reducible refine below_drewN ?_ _) | (with_reducible refine Below.drew ?_) | (with_reducible refine Below.alloc ?_ ?_ _) | (with_reducible refine Below.setCell ?_ ?_ _) | (with_reducible refine below_step ?_ (by assumption) ?_) | (with_reducible refine below_step ?_ (below_regrown _ _ _) ?_) | go_size))⟩, by simp [intOf]; omega⟩
        · have HT2 : Hid (l.all (okN cap) = false) := hide (by rw [HT.out]; unfold okN; rw [decide_eq_false g2]; simp)
          clear HT
          have f1 : decide (v < 0) = false := decide_eq_false (by omega)
          have f2 : decide (cap < v) = true := decide_eq_true (by omega)
          go_wp2_with (first | ((with_reducible change Code.wp _ (Code.region _ _ _) _ _ _); refine wp_region_quiet_below (by kernel_rfl) (by kernel_rfl) ?_; (repeat (first | go_big_quiet_step (fail) | quiet_step (fail))); refine wpQuiet_nil ?_; intro w1 hw1; have hb := below_of_regrown hw1; clear hw1; obtain ⟨hS, hE, hz, hc, hf⟩ := bcell hb; (try simp only [go_sem] at hE); subst hE))
          go_ret
          exact ⟨by rw [hv.out, HT2.out]; rfl, HBE.out.trans (by repeat' (first | (with_reducible exact Below.refl _ _) | (with_reducible refine below_drewN ?_ _) | (with_reducible refine Below.drew ?_) | (with_reducible refine Below.alloc ?_ ?_ _) | (with_reducible refine Below.setCell ?_ ?_ _) | (with_reducible refine below_step ?_ (by assumption) ?_) | (with_reducible refine below_step ?_ (below_regrown _ _ _) ?_) | go_size))⟩
      · have HT2 : Hid (l.all (okN cap) = false) := hide (by rw [HT.out]; unfold okN; rw [decide_eq_false g1]; simp)
        clear HT
        have f1 : decide (v < 0) = true := decide_eq_true (by omega)
        go_wp2_with (first | ((with_reducible change Code.wp _ (Code.region _ _ _) _ _ _); refine wp_region_quiet_below (by kernel_rfl) (by kernel_rfl) ?_; (repeat (first | go_big_quiet_step (fail) | quiet_step (fail))); refine wpQuiet_nil ?_; intro w1 hw1; have hb := below_of_regrown hw1; clear hw1; obtain ⟨hS, hE, hz, hc, hf⟩ := bcell hb; (try simp only [go_sem] at hE); subst hE))
        go_ret
        exact ⟨by rw [hv.out, HT2.out]; rfl, HBE.out.trans (by repeat' (first | (with_reducible exact Below.refl _ _) | (with_reducible refine below_drewN ?_ _) | (with_reducible refine Below.drew ?_) | (with_reducible refine Below.alloc ?_ ?_ _) | (with_reducible refine Below.setCell ?_ ?_ _) | (with_reducible refine below_step ?_ (by assumption) ?_) | (with_reducible refine below_step ?_ (below_regrown _ _ _) ?_) | go_size))⟩
    · obtain rfl : k = l.length := by omega
      have HT2 : Hid (l.all (okN cap) = true) := hide (by rw [HS.out, List.drop_length]; rfl)
      go_wp2_with (first | ((with_reducible change Code.wp _ (Code.region _ _ _) _ _ _); refine wp_region_quiet_below (by kernel_rfl) (by kernel_rfl) ?_; (repeat (first | go_big_quiet_step (fail) | quiet_step (fail))); refine wpQuiet_nil ?_; intro w1 hw1; have hb := below_of_regrown hw1; clear hw1; obtain ⟨hS, hE, hz, hc, hf⟩ := bcell hb; (try simp only [go_sem] at hE); subst hE))
      go_ret
      exact ⟨by rw [hv.out, HT2.out]; rfl, HBE.out⟩
end Go.Proofs.YtfckciblnojniaaDoor.Dk
