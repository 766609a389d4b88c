/- GaugeShares: any number divided by any other one, to the last bit; how full any well is. Condition: none beyond the row's own. -/
import Derived.Test.YtkkapajpgfjomaaGm
namespace Go.Proofs.Ytkkapajpgfjomaa.GaugeShares
open Go.ChangeShapes Go.WideShapes Go.ChangeAt Go.RowKit Go.Joins Go.Proofs.Ytkkapajpgfjomaa.Kit Go.Proofs.Ytkkapajpgfjomaa.Flt Go.Proofs.Ytkkapajpgfjomaa.Real Go.Proofs.Ytkkapajpgfjomaa.Mem Go.Proofs.Ytkkapajpgfjomaa.Gauge Go.Deep
set_option linter.unusedVariables false
set_option linter.unusedSimpArgs false
set_option maxHeartbeats 4000000 in
theorem walk {w : World} {B n1 c1 n2 c2 n3 c3 : Nat} {A1 A2 A3 : Option Addr} {cs : List Cel} {ls : List LogV} (hr : SRow encC 3 w B A1 n1 cs) (hl : SRow encL 3 w B A2 n2 ls) (hB : B ≤ w.heap.size) (v4 v5 v6 : Value) (n d : Int) :
    Calls Try.prog 3 #[.int .i64 n, .int .i64 d, .agg #[.slice A1 n1 c1, .slice A2 n2 c2, .slice A3 n3 c3, v4, v5, v6]] w fun e w' => e = .returned (.bool true) ∧ Below w.heap.size w w' := by
  have e1 := hr.1
  subst e1
  have HR := hide hr
  have hL := fun w => lives_any w
  have G1 := large_any (w := (w.alloc (.cells #[.slice A1 cs.length c1, .slice A2 n2 c2, .slice A3 n3 c3, v4, v5, v6] 26))) (n1 := cs.length) (c1 := c1) (c2 := c2) (n3 := n3) (c3 := c3) (A1 := A1) (A3 := A3) (srow_alloc hl hB _) (by simp; omega) v4 v5 v6
  have S1 := fun w => share_any n d w
  have S2 := fun w => rshare_any n d w
  have HBA : Hid (Below w.heap.size w (w.alloc (.cells #[.slice A1 cs.length c1, .slice A2 n2 c2, .slice A3 n3 c3, v4, v5, v6] 26))) := hide ((Below.refl _ _).alloc (Nat.le_refl _) _)
  clear hr hl
  go_enter Try.func3, Try.ntmps3
  go_wp2_with (first | fail)
  refine G1.mono ?_
  rintro e w1 ⟨b, rfl, hbn, hb1⟩
  obtain ⟨hS1, hE1, hz1, hc1, hf1⟩ := bcell hb1
  (try simp only [go_sem] at hE1)
  subst hE1
  cases b
  case true =>
    clear hbn
    go_wp2_with (first | (go_at_call 8; refine (hL _).mono ?_; rintro e w1 ⟨rfl, hb⟩; obtain ⟨hS, hE, hz, hc, hf⟩ := bcell hb; (try simp only [go_sem] at hE); subst hE) | ((with_reducible change Code.wp _ (Code.region _ _ _) _ _ _); refine wp_region_quiet_below (by kernel_rfl) (by kernel_rfl) ?_; (repeat (first | go_big_quiet_step ((first | (go_at_call 8; exact Calls.regrown_of (hL _)))) | quiet_step ((first | (go_at_call 8; exact Calls.regrown_of (hL _)))))); refine wpQuiet_nil ?_; intro w1 hw1; have hb := below_of_regrown hw1; clear hw1; obtain ⟨hS, hE, hz, hc, hf⟩ := bcell hb; (try simp only [go_sem] at hE); subst hE))
    go_ret
    exact ⟨rfl, HBA.out.trans (show Below w.heap.size (w.alloc (.cells #[.slice A1 cs.length c1, .slice A2 n2 c2, .slice A3 n3 c3, v4, v5, v6] 26)) _ from (by repeat' (first | (with_reducible exact Below.refl _ _) | (with_reducible refine below_drewN ?_ _) | (with_reducible refine Below.drew ?_) | (with_reducible refine Below.alloc ?_ ?_ _) | (with_reducible refine Below.setCell ?_ ?_ _) | (with_reducible refine below_step ?_ (by assumption) ?_) | (with_reducible refine below_step ?_ (below_regrown _ _ _) ?_) | go_size)))⟩
  have hcs := hbn rfl
  clear hbn
  have HB1 := hide (HBA.out.trans (hb1.mono (by simp)))
  have L1 := levels_any (w := w1) (c := c1) (srow_below HR.out HB1.out hB) (by have := HB1.out.size; omega) (by omega) (.slice A2 n2 c2) (.slice A3 n3 c3) v4 v5 v6
  go_wp2_with (first | (go_at_call 9; refine L1.mono ?_; rintro e w2 ⟨A4, c4, zs, rfl, k4, q4, hb2⟩; have K4 := hide k4; have Q4 := hide q4; clear k4 q4; obtain ⟨hS2, hE2, hz2, hc2, hf2⟩ := bcell hb2; (try simp only [go_sem] at hE2); subst hE2) | (go_at_call 8; refine (hL _).mono ?_; rintro e wl ⟨rfl, hbl⟩; obtain ⟨hSl, hEl, hzl, hcl, hfl⟩ := bcell hbl; (try simp only [go_sem] at hEl); subst hEl) | (go_at_call 11; refine (S1 _).mono ?_; rintro e w3 ⟨r3, rfl, h3, hb⟩; have h3 := hide h3; obtain ⟨hS, hE, hz, hc, hf⟩ := bcell hb; (try simp only [go_sem] at hE); subst hE) | (go_at_call 12; refine (S2 _).mono ?_; rintro e w4 ⟨r4, rfl, h4, hb⟩; have h4 := hide h4; obtain ⟨hS, hE, hz, hc, hf⟩ := bcell hb; (try simp only [go_sem] at hE); subst hE) | (go_at_call 10; refine (one_any _ r3 r4 h3.out h4.out _).mono ?_; rintro e w9 ⟨rfl, rfl⟩))
  have HBW := hide (HB1.out.trans (show Below w.heap.size w1 w4 from (by repeat' (first | (with_reducible exact Below.refl _ _) | (with_reducible refine below_drewN ?_ _) | (with_reducible refine Below.drew ?_) | (with_reducible refine Below.alloc ?_ ?_ _) | (with_reducible refine Below.setCell ?_ ?_ _) | (with_reducible refine below_step ?_ (by assumption) ?_) | (with_reducible refine below_step ?_ (below_regrown _ _ _) ?_) | go_size))))
  have K5 := hide (srow_below K4.out (show Below w2.heap.size w2 w4 from (by repeat' (first | (with_reducible exact Below.refl _ _) | (with_reducible refine below_drewN ?_ _) | (with_reducible refine Below.drew ?_) | (with_reducible refine Below.alloc ?_ ?_ _) | (with_reducible refine Below.setCell ?_ ?_ _) | (with_reducible refine below_step ?_ (by assumption) ?_) | (with_reducible refine below_step ?_ (below_regrown _ _ _) ?_) | go_size))) (Nat.le_refl _))
  have HR5 := hide (srow_below HR.out HBW.out hB)
  have BX := hide (hb1.trans (show Below (w.alloc (.cells #[.slice A1 cs.length c1, .slice A2 n2 c2, .slice A3 n3 c3, v4, v5, v6] 26)).heap.size w1 w4 from (by repeat' (first | (with_reducible exact Below.refl _ _) | (with_reducible refine below_drewN ?_ _) | (with_reducible refine Below.drew ?_) | (with_reducible refine Below.alloc ?_ ?_ _) | (with_reducible refine Below.setCell ?_ ?_ _) | (with_reducible refine below_step ?_ (by assumption) ?_) | (with_reducible refine below_step ?_ (below_regrown _ _ _) ?_) | go_size))))
  have hz0 : w.heap.size + 1 ≤ w4.heap.size := by have := BX.out.size; simpa using this
  have hz24 : w2.heap.size ≤ w4.heap.size := by omega
  have d0 : w4.cell? ⟨w.heap.size, 0, none⟩ = some (.slice A1 cs.length c1) := (BX.out.cell (p := ⟨w.heap.size, 0, none⟩) (by simp)).trans (by go_simp)
  clear hc1 hf1 hc2 hf2 K4 HR BX HB1 HBA S1 S2 L1 G1 hL
  go_loopw [8] (fun i wr => ∃ k : Nat, k ≤ cs.length ∧ i = .int .i64 k ∧ Below w4.heap.size w4 wr) (fun i _ => cs.length - (intOf i).toNat)
  case atStart => exact ⟨0, Nat.zero_le _, rfl, Below.refl _ _⟩
  case round =>
    obtain ⟨k, hk, rfl, hbr⟩ := hrel
    have hzr := hbr.size
    have HBR := hide hbr
    have dx := (hbr.cell (p := ⟨w.heap.size, 0, none⟩) (by dsimp only; omega)).trans d0
    by_cases hlt : k < cs.length
    · obtain ⟨b, off, hA1, hbB, hcell⟩ := cel_cells HR5.out (by omega)
      obtain ⟨p0, p1, p2⟩ := hcell k hlt
      obtain ⟨b6, off6, hA4, hb6, hcell6⟩ := frow_cells K5.out (by omega)
      have x0 := (hbr.cell (p := ⟨b, off + k * 3, none⟩) (by dsimp only; omega)).trans p0
      have x1 := (hbr.cell (p := ⟨b, off + k * 3 + 1, none⟩) (by dsimp only; omega)).trans p1
      have x2 := (hbr.cell (p := ⟨b, off + k * 3 + 2, none⟩) (by dsimp only; omega)).trans p2
      have x3 := (hbr.cell (p := ⟨b6, off6 + k, none⟩) (by dsimp only; omega)).trans (hcell6 k hlt)
      have HL : Hid (lvl cs k = shareO (cs.getD k default).2.1 (cs.getD k default).1) := hide rfl
      have HQ := hide (Q4.out k hlt)
      have hbr1 : b < wr.heap.size := by omega
      have hbr2 : b6 < wr.heap.size := by omega
      have hbr3 : w.heap.size < wr.heap.size := by omega
      clear hcell p0 p1 p2 hcell6 hbr d0
      subst hA1 hA4
      generalize cs.getD k default = cel at *
      generalize zs.getD k 0 = z at *
      obtain ⟨cap, vol, ver⟩ := cel
      dsimp only at x0 x1 x2 HL
      have HQ2 := hide HQ.out
      rw [HL.out] at HQ2
      have SS := fun w => rshare_any vol cap w
      have FF := fun w => full_any cap vol ver w
      clear HL HQ
      go_wp2_with (first | (go_at_call 12; refine (SS _).mono ?_; rintro e w5 ⟨r5, rfl, h5, hb⟩; have h5 := hide h5; obtain ⟨hS, hE, hz, hc, hf⟩ := bcell hb; (try simp only [go_sem] at hE); subst hE) | (go_at_call 13; refine (FF _).mono ?_; rintro e w6 ⟨r6, rfl, h6, hb⟩; have h6 := hide h6; obtain ⟨hS, hE, hz, hc, hf⟩ := bcell hb; (try simp only [go_sem] at hE); subst hE) | (go_at_call 10; (with_reducible refine (one_any _ z r5 HQ2.out h5.out _).mono ?_); rintro e w9 ⟨rfl, rfl⟩) | (go_at_call 10; (with_reducible refine (one_any _ r6 r5 h6.out h5.out _).mono ?_); rintro e w9 ⟨rfl, rfl⟩))
      exact ⟨⟨k + 1, by omega, by go_num, HBR.out.trans (show Below w4.heap.size wr _ from (by repeat' (first | (with_reducible exact Below.refl _ _) | (with_reducible refine below_drewN ?_ _) | (with_reducible refine Below.drew ?_) | (with_reducible refine Below.alloc ?_ ?_ _) | (with_reducible refine Below.setCell ?_ ?_ _) | (with_reducible refine below_step ?_ (by assumption) ?_) | (with_reducible refine below_step ?_ (below_regrown _ _ _) ?_) | go_size)))⟩, by simp [intOf]; omega⟩
    · obtain rfl : k = cs.length := by omega
      go_wp2
      go_ret
      exact ⟨rfl, HBW.out.trans (HBR.out.mono (by omega))⟩
theorem law : Law Try.checked 3 Try.f3 := by
  intro H enc W base args ds ps hval hA hsz
  have hA1 : DataW.TrodAll enc Try.prog W 0 (fun _ => true) true Try.f3.params.toList args.toList ds ps := hA
  have hw := weightsEach_at (sized_args hsz)
  have hw : ∀ (j : Nat) (t : TypeId) (d : DataW H), Try.f3.params.toList[j]? = some t → ds[j]? = some d → ∀ n ∈ d.weights Try.prog t, n ≤ 140737488351232 := hw
  rw [Try.params3] at hA1 hval hw
  obtain ⟨v0, vs0, d0, ds0, p0, q0, hargs, rfl, rfl, h0, r0⟩ := trodAll_cons hA1
  obtain ⟨v1, vs1, d1, ds1, p1, q1, rfl, rfl, rfl, h1, r1⟩ := trodAll_cons r0
  obtain ⟨v2, vs2, d2, ds2, p2, q2, rfl, rfl, rfl, h2, r2⟩ := trodAll_cons r1
  obtain ⟨rfl, rfl, rfl⟩ := trodAll_nil r2
  obtain rfl : args = #[v0, v1, v2] := by cases args; simp_all
  obtain ⟨n, rfl, rfl, rfl, _⟩ := open_int Try.underlying3 (hval 0 _ v0 rfl rfl) h0
  obtain ⟨d, rfl, rfl, rfl, _⟩ := open_int Try.underlying3 (hval 1 _ v1 rfl rfl) h1
  obtain ⟨⟨cs⟩, rfl, _⟩ := okWide_struct Try.underlying26 (hval 2 _ v2 rfl rfl)
  obtain ⟨A1, A2, A3, n1, c1, n2, c2, n3, c3, v4, v5, v6, xs, ls, e, k1, k2⟩ := rdS_stock (rdS_of h2 (hw 2 _ _ rfl rfl))
  have e : cs = _ := e
  subst e
  exact walk k1 k2 (Nat.le_refl _) v4 v5 v6 n d

set_option maxRecDepth 100000 in
theorem step (os : Os) (started : os.Started) (H : Type) (enc : TypeId × Value → H) :
    ReturnsInHanded {} Try.checked os 3 .any (Rows.gaugeSharesSpec.pre6 enc Try.prog Try.f3 Rows.gaugeSharesRow.domain false) (Rows.gaugeSharesSpec.post enc Try.prog Try.f3 false true false false) :=
  lifted (C := Try.checked) (s := Rows.gaugeSharesSpec) own started (by kernel_rfl) Try.func3
    (ChangeSpec.witness6 (enc := enc) (C := Try.checked) false ⟨#[], #[.int .i64 0, .int .i64 0, .agg #[.slice none 0 0, .slice none 0 0, .slice none 0 0, .int .i64 0, .int .i64 0, .int .i64 0]], []⟩ 8 (by kernel_rfl) (by kernel_rfl) (by kernel_rfl) (by kernel_rfl))
    laidOut (by kernel_rfl) (by kernel_rfl) Try.underlying4 rfl (fun ds h => by match ds, h with | [d0, d1, d2], _ => rfl) law
set_option maxRecDepth 100000 in
theorem over : Rows.gaugeSharesRow.holds Try.pinned (OpenSpec.ofChange Rows.gaugeSharesSpec) :=
  OpenClaim.holds_of_wide 3 Try.f3 rfl rfl rfl rfl rfl rfl rfl ⟨rfl, rfl, rfl, rfl, rfl⟩ rfl rfl rfl rfl rfl (by kernel_rfl) Try.func3 (by kernel_rfl)
    (of_decide_eq_true (by kernel_rfl)) (by unfold Func.isWrapper; first | (rw [if_pos (by decide +kernel)]; kernel_rfl) | (rw [if_neg (by decide +kernel)]; exact ⟨rfl, rfl⟩))
    (fun os started H enc _ => step os started H enc)
theorem proved : Rows.GaugeSharesSaid := over
#print axioms proved

end Go.Proofs.Ytkkapajpgfjomaa.GaugeShares
