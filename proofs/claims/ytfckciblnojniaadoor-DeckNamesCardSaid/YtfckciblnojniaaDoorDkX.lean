/- Whether a deck is too large; a deck that comes in. No condition. -/
import Derived.Test.YtfckciblnojniaaDoorDkE
import Derived.Test.YtfckciblnojniaaDoorSized
import Derived.Test.YtfckciblnojniaaDoorOpen
namespace Go.Proofs.YtfckciblnojniaaDoor.Dk
open Go.ChangeShapes Go.WideShapes Go.ChangeAt Go.RowKit Go.Proofs.YtfckciblnojniaaDoor.Kit Go.Proofs.YtfckciblnojniaaDoor.Flt Go.Proofs.YtfckciblnojniaaDoor.Mem Go.Proofs.YtfckciblnojniaaDoor.Rail Go.Deep
set_option linter.unusedVariables false
set_option linter.unusedSimpArgs false
def bigP (p : Plt) : Bool := decide (500 < p.l.length)
def largeD (D : Dck) : Bool := decide (60 < D.bs.length) || decide (8 < D.ps.length) || decide (8 < D.rs.length) || D.ps.any bigP
theorem any_next (l : List Plt) (k : Nat) (d : Plt) (h : k < l.length) : (l.drop k).any bigP = (bigP (l.getD k d) || (l.drop (k + 1)).any bigP) := by
  rw [List.drop_eq_getElem_cons h, List.any_cons, List.getD_eq_getElem?_getD, List.getElem?_eq_getElem h]
  rfl
theorem small_of {D : Dck} (h : largeD D = false) : SmallD D := by
  unfold largeD at h
  rw [Bool.or_eq_false_iff] at h
  intro p hp
  have := List.any_eq_false.1 h.2 p hp
  unfold bigP at this
  simpa using this
set_option maxHeartbeats 8000000 in
set_option maxRecDepth 20000 in
theorem large_any {w : World} {B0 : Nat} {D : Dck} (h : DeckI w B0 D) (hB : B0 ≤ w.heap.size) (hl : D.ps.length ≤ 4611686018427387904) :
    Calls Tryd.prog 6 #[D.val] w fun e w' => e = .returned (.bool (largeD D)) ∧ Below w.heap.size w w' := by
  have HD := hide h.ps
  have HV : Hid (largeD D = (decide (60 < D.bs.length) || decide (8 < D.ps.length) || decide (8 < D.rs.length) || D.ps.any bigP)) := hide rfl
  clear h
  generalize largeD D = X at *
  obtain ⟨bA, bc, bs, pA, pc, ps, rA, rc, rs, arms⟩ := D
  unfold Dck.val
  dsimp only at HD HV hl ⊢
  by_cases h1 : 60 < bs.length
  · have hv : Hid (X = true) := hide (by rw [HV.out, decide_eq_true h1]; rfl)
    go_enter Tryd.func6, Tryd.ntmps6
    go_wp2_with (first | ((with_reducible change Code.wp _ (Code.region _ _ _) _ _ _); refine wp_region_quiet_below (by kernel_rfl) (by kernel_rfl) ?_; (repeat (first | go_big_quiet_step (fail) | quiet_step (fail))); refine wpQuiet_nil ?_; intro w1 hw1; have hb := below_of_regrown hw1; clear hw1; obtain ⟨hS, hE, hz, hc, hf⟩ := bcell hb; (try simp only [go_sem] at hE); subst hE))
    go_ret
    exact ⟨by rw [hv.out]; rfl, (by repeat' (first | (with_reducible exact Below.refl _ _) | (with_reducible refine below_drewN ?_ _) | (with_reducible refine Below.drew ?_) | (with_reducible refine Below.alloc ?_ ?_ _) | (with_reducible refine Below.setCell ?_ ?_ _) | (with_reducible refine below_step ?_ (by assumption) ?_) | (with_reducible refine below_step ?_ (below_regrown _ _ _) ?_) | go_size))⟩
  by_cases h2 : 8 < ps.length
  · have hv : Hid (X = true) := hide (by rw [HV.out, decide_eq_true h2]; simp)
    go_enter Tryd.func6, Tryd.ntmps6
    go_wp2_with (first | ((with_reducible change Code.wp _ (Code.region _ _ _) _ _ _); refine wp_region_quiet_below (by kernel_rfl) (by kernel_rfl) ?_; (repeat (first | go_big_quiet_step (fail) | quiet_step (fail))); refine wpQuiet_nil ?_; intro w1 hw1; have hb := below_of_regrown hw1; clear hw1; obtain ⟨hS, hE, hz, hc, hf⟩ := bcell hb; (try simp only [go_sem] at hE); subst hE))
    go_ret
    exact ⟨by rw [hv.out]; rfl, (by repeat' (first | (with_reducible exact Below.refl _ _) | (with_reducible refine below_drewN ?_ _) | (with_reducible refine Below.drew ?_) | (with_reducible refine Below.alloc ?_ ?_ _) | (with_reducible refine Below.setCell ?_ ?_ _) | (with_reducible refine below_step ?_ (by assumption) ?_) | (with_reducible refine below_step ?_ (below_regrown _ _ _) ?_) | go_size))⟩
  by_cases h3 : 8 < rs.length
  · have hv : Hid (X = true) := hide (by rw [HV.out, decide_eq_true h3]; simp)
    go_enter Tryd.func6, Tryd.ntmps6
    go_wp2_with (first | ((with_reducible change Code.wp _ (Code.region _ _ _) _ _ _); refine wp_region_quiet_below (by kernel_rfl) (by kernel_rfl) ?_; (repeat (first | go_big_quiet_step (fail) | quiet_step (fail))); refine wpQuiet_nil ?_; intro w1 hw1; have hb := below_of_regrown hw1; clear hw1; obtain ⟨hS, hE, hz, hc, hf⟩ := bcell hb; (try simp only [go_sem] at hE); subst hE))
    go_ret
    exact ⟨by rw [hv.out]; rfl, (by repeat' (first | (with_reducible exact Below.refl _ _) | (with_reducible refine below_drewN ?_ _) | (with_reducible refine Below.drew ?_) | (with_reducible refine Below.alloc ?_ ?_ _) | (with_reducible refine Below.setCell ?_ ?_ _) | (with_reducible refine below_step ?_ (by assumption) ?_) | (with_reducible refine below_step ?_ (below_regrown _ _ _) ?_) | go_size))⟩
  have HV2 : Hid (X = ps.any bigP) := hide (by rw [HV.out, decide_eq_false h1, decide_eq_false h2, decide_eq_false h3]; simp)
  clear HV
  go_enter Tryd.func6, Tryd.ntmps6
  go_wp2_with (first | ((with_reducible change Code.wp _ (Code.region _ _ _) _ _ _); refine wp_region_quiet_below (by kernel_rfl) (by kernel_rfl) ?_; (repeat (first | go_big_quiet_step (fail) | quiet_step (fail))); refine wpQuiet_nil ?_; intro w1 hw1; have hb := below_of_regrown hw1; clear hw1; obtain ⟨hS, hE, hz, hc, hf⟩ := bcell hb; (try simp only [go_sem] at hE); subst hE))
  go_loopw [3] (fun i wr => ∃ k : Nat, k ≤ ps.length ∧ i = .int .i64 k ∧ Hid (ps.any bigP = (ps.drop k).any bigP) ∧ wr = w.alloc (.cells #[.slice bA bs.length bc, .slice pA ps.length pc, .slice rA rs.length rc, .int .i64 arms] 26)) (fun i _ => ps.length - (intOf i).toNat)
  case atStart => exact ⟨0, Nat.zero_le _, rfl, hide rfl, rfl⟩
  case round =>
    obtain ⟨k, hk, rfl, HS, rfl⟩ := hrel
    by_cases hlt : k < ps.length
    · obtain ⟨b, off, rfl, hbB, hcell⟩ := plt_cells HD.out (by omega) (⟨0, 0, 0, 0, 0, 0, none, 0, []⟩ : Plt)
      obtain ⟨p0, p1, p2, p3, p4, p5, p6⟩ := hcell k hlt
      have hbw : b < w.heap.size := by omega
      have HT := hide (HS.out.trans (any_next ps k (⟨0, 0, 0, 0, 0, 0, none, 0, []⟩ : Plt) hlt))
      clear hcell p0 p1 p2 p3 p4 p5 HS
      generalize ps.getD k (⟨0, 0, 0, 0, 0, 0, none, 0, []⟩ : Plt) = q at *
      obtain ⟨r, c, x, y, z, cap, A, kk, l⟩ := q
      unfold bigP at HT
      dsimp only at p6 HT
      by_cases hg : 500 < l.length
      · have hv : Hid (X = true) := hide (by rw [HV2.out]; have := HT.out; rw [decide_eq_true hg] at this; exact this)
        clear HT
        go_wp2_with (first | ((with_reducible change Code.wp _ (Code.region _ _ _) _ _ _); refine wp_region_quiet_below (by kernel_rfl) (by kernel_rfl) ?_; (repeat (first | go_big_quiet_step (fail) | quiet_step (fail))); refine wpQuiet_nil ?_; intro w1 hw1; have hb := below_of_regrown hw1; clear hw1; obtain ⟨hS, hE, hz, hc, hf⟩ := bcell hb; (try simp only [go_sem] at hE); subst hE))
        go_ret
        exact ⟨by rw [hv.out]; rfl, (by repeat' (first | (with_reducible exact Below.refl _ _) | (with_reducible refine below_drewN ?_ _) | (with_reducible refine Below.drew ?_) | (with_reducible refine Below.alloc ?_ ?_ _) | (with_reducible refine Below.setCell ?_ ?_ _) | (with_reducible refine below_step ?_ (by assumption) ?_) | (with_reducible refine below_step ?_ (below_regrown _ _ _) ?_) | go_size))⟩
      · have HT2 : Hid (ps.any bigP = (ps.drop (k + 1)).any bigP) := hide (by have := HT.out; rw [decide_eq_false hg, Bool.false_or] at this; exact this)
        clear HT
        go_wp2_with (first | ((with_reducible change Code.wp _ (Code.region _ _ _) _ _ _); refine wp_region_quiet_below (by kernel_rfl) (by kernel_rfl) ?_; (repeat (first | go_big_quiet_step (fail) | quiet_step (fail))); refine wpQuiet_nil ?_; intro w1 hw1; have hb := below_of_regrown hw1; clear hw1; obtain ⟨hS, hE, hz, hc, hf⟩ := bcell hb; (try simp only [go_sem] at hE); subst hE))
        exact ⟨⟨k + 1, by omega, by go_num, HT2, trivial⟩, by simp [intOf]; omega⟩
    · obtain rfl : k = ps.length := by omega
      have hv : Hid (X = false) := hide (by rw [HV2.out, HS.out, List.drop_length]; rfl)
      go_wp2_with (first | ((with_reducible change Code.wp _ (Code.region _ _ _) _ _ _); refine wp_region_quiet_below (by kernel_rfl) (by kernel_rfl) ?_; (repeat (first | go_big_quiet_step (fail) | quiet_step (fail))); refine wpQuiet_nil ?_; intro w1 hw1; have hb := below_of_regrown hw1; clear hw1; obtain ⟨hS, hE, hz, hc, hf⟩ := bcell hb; (try simp only [go_sem] at hE); subst hE))
      go_ret
      exact ⟨by rw [hv.out]; rfl, (by repeat' (first | (with_reducible exact Below.refl _ _) | (with_reducible refine below_drewN ?_ _) | (with_reducible refine Below.drew ?_) | (with_reducible refine Below.alloc ?_ ?_ _) | (with_reducible refine Below.setCell ?_ ?_ _) | (with_reducible refine below_step ?_ (by assumption) ?_) | (with_reducible refine below_step ?_ (below_regrown _ _ _) ?_) | go_size))⟩
section
variable {H : Type} {enc : TypeId × Value → H} {w : World}
theorem rdS_float {t : TypeId} {cs : List Value} (ht : Tryd.prog.underlying t = some (.float .f64)) (h : RdS enc Tryd.prog w t cs) : ∃ x : Nat, cs = [.float .f64 x] ∧ x < 18446744073709551616 := by
  obtain ⟨s, hd, n, x, h, hw⟩ := h
  exact rd_float ht ⟨s, hd, n, x, h⟩
set_option maxRecDepth 20000 in
theorem plt_rd {cs : List Value} (h : RdS enc Tryd.prog w 47 cs) : ∃ p : Plt, cs = encPl p ∧ Ints w w.heap.size p.A p.l.length p.l := by
  obtain ⟨hl, hf⟩ := rdS_struct Tryd.underlying47 h
  obtain ⟨a, b, c, d, e, f, g, rfl⟩ : ∃ a b c d e f g, cs = [a, b, c, d, e, f, g] := by
    have hl2 : cs.length = 7 := hl.trans (by kernel_rfl)
    match cs, hl2 with
    | [a, b, c, d, e, f, g], _ => exact ⟨a, b, c, d, e, f, g, rfl⟩
  obtain ⟨n0, e0, _⟩ := rdS_i64 (cs := [a]) Tryd.underlying3 (hf 0 _ rfl)
  obtain ⟨n1, e1, _⟩ := rdS_i64 (cs := [b]) Tryd.underlying3 (hf 1 _ rfl)
  obtain ⟨x2, e2, _⟩ := rdS_float (cs := [c]) Tryd.underlying44 (hf 2 _ rfl)
  obtain ⟨x3, e3, _⟩ := rdS_float (cs := [d]) Tryd.underlying44 (hf 3 _ rfl)
  obtain ⟨x4, e4, _⟩ := rdS_float (cs := [e]) Tryd.underlying44 (hf 4 _ rfl)
  obtain ⟨n5, e5, _⟩ := rdS_i64 (cs := [f]) Tryd.underlying3 (hf 5 _ rfl)
  obtain ⟨A, len, cap, zs, e6, _, _, _, hz, hrow, _⟩ := rdS_list (bytes := 8) (cs := [g]) (val := fun n => Value.int .i64 n) (good := fun _ => True) (0 : Int) Tryd.underlying45 (by kernel_rfl) (by kernel_rfl) (fun cs hcs => by obtain ⟨n, e, _⟩ := rdS_i64 Tryd.underlying3 hcs; exact ⟨n, e, trivial⟩) (hf 6 _ rfl)
  simp only [List.cons.injEq, and_true] at e0 e1 e2 e3 e4 e5 e6
  subst e0 e1 e2 e3 e4 e5 e6 hz
  exact ⟨⟨n0, n1, x2, x3, x4, n5, A, cap, zs⟩, rfl, rfl, hrow⟩
set_option maxRecDepth 20000 in
theorem rck_rd {cs : List Value} (h : RdS enc Tryd.prog w 61 cs) : ∃ p : Rck, cs = encRk p ∧ True := by
  obtain ⟨hl, hf⟩ := rdS_struct Tryd.underlying61 h
  obtain ⟨a, b, c, d, e, rfl⟩ : ∃ a b c d e, cs = [a, b, c, d, e] := by
    have hl2 : cs.length = 5 := hl.trans (by kernel_rfl)
    match cs, hl2 with
    | [a, b, c, d, e], _ => exact ⟨a, b, c, d, e, rfl⟩
  obtain ⟨n0, e0, _⟩ := rdS_i64 (cs := [a]) Tryd.underlying3 (hf 0 _ rfl)
  obtain ⟨n1, e1, _⟩ := rdS_i64 (cs := [b]) Tryd.underlying3 (hf 1 _ rfl)
  obtain ⟨x2, e2, _⟩ := rdS_float (cs := [c]) Tryd.underlying44 (hf 2 _ rfl)
  obtain ⟨x3, e3, _⟩ := rdS_float (cs := [d]) Tryd.underlying44 (hf 3 _ rfl)
  obtain ⟨x4, e4, _⟩ := rdS_float (cs := [e]) Tryd.underlying44 (hf 4 _ rfl)
  simp only [List.cons.injEq, and_true] at e0 e1 e2 e3 e4
  subst e0 e1 e2 e3 e4
  exact ⟨⟨n0, n1, x2, x3, x4⟩, rfl, trivial⟩
set_option maxRecDepth 20000 in
/-- A deck that comes in. -/
theorem dck_rd {cs : List Value} (h : RdS enc Tryd.prog w 26 cs) : ∃ D : Dck, Value.agg cs.toArray = D.val ∧ DeckI w w.heap.size D ∧ D.ps.length ≤ 4611686018427387904 := by
  obtain ⟨hl, hf⟩ := rdS_struct Tryd.underlying26 h
  obtain ⟨a, b, c, d, rfl⟩ : ∃ a b c d, cs = [a, b, c, d] := by
    have hl2 : cs.length = 4 := hl.trans (by kernel_rfl)
    match cs, hl2 with
    | [a, b, c, d], _ => exact ⟨a, b, c, d, rfl⟩
  obtain ⟨A0, n0, c0, bs, e0, _, k0, _, hz, hrow, hgood⟩ := rdS_list (bytes := 8) (cs := [a]) (val := fun n => Value.float .f64 n) (good := fun x => x < 18446744073709551616) (0 : Nat) Tryd.underlying22 (by kernel_rfl) (by kernel_rfl) (fun cs hcs => rdS_float Tryd.underlying44 hcs) (hf 0 _ rfl)
  obtain ⟨A1, n1, c1, ps, e1, _, _, k1, h1, g1⟩ := rdS_srow (enc := encPl) (good := fun p => Ints w w.heap.size p.A p.l.length p.l) (bytes := 72) (cs := [b]) Tryd.underlying23 (by kernel_rfl) (by kernel_rfl) (by decide) encPl_len (fun cs hcs => plt_rd hcs) (hf 1 _ rfl)
  obtain ⟨A2, n2, c2, rs, e2, _, _, _, h2, _⟩ := rdS_srow (enc := encRk) (good := fun _ => True) (bytes := 40) (cs := [c]) Tryd.underlying24 (by kernel_rfl) (by kernel_rfl) (by decide) encRk_len (fun cs hcs => rck_rd hcs) (hf 2 _ rfl)
  obtain ⟨n3, e3, _⟩ := rdS_i64 (cs := [d]) Tryd.underlying3 (hf 3 _ rfl)
  simp only [List.cons.injEq, and_true] at e0 e1 e2 e3
  have l1 := h1.1
  have l2 := h2.1
  subst e0 e1 e2 e3 hz l1 l2
  refine ⟨⟨A0, c0, bs, A1, c1, ps, A2, c2, rs, n3⟩, rfl, ⟨⟨hrow, by unfold maxLen at k0; dsimp only; omega, fun j => ?_⟩, h1, g1, h2⟩, by dsimp only; omega⟩
  unfold B
  by_cases h : j < bs.length
  · rw [List.getD_eq_getElem?_getD, List.getElem?_eq_getElem h]
    exact hgood _ (List.getElem_mem h)
  · rw [List.getD_eq_getElem?_getD, List.getElem?_eq_none (by dsimp only; omega)]
    decide
end
end Go.Proofs.YtfckciblnojniaaDoor.Dk
