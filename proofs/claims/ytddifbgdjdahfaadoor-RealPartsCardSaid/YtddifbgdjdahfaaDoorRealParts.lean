/- RealParts: the class, the sign and the parts of any float; of its parts it is made again. Condition: none beyond the row's own. -/
import Derived.Test.YtddifbgdjdahfaaDoorLiv1
import Derived.Laws.Cover2
namespace Go.Proofs.YtddifbgdjdahfaaDoor.RealParts
open Go.ChangeShapes Go.WideShapes Go.ChangeAt Go.RowKit Go.Proofs.YtddifbgdjdahfaaDoor.Kit Go.Proofs.YtddifbgdjdahfaaDoor.Flt Go.Proofs.YtddifbgdjdahfaaDoor.Num Go.Proofs.YtddifbgdjdahfaaDoor.Real Go.Proofs.YtddifbgdjdahfaaDoor.Door Go.Deep
set_option linter.unusedVariables false
set_option linter.unusedSimpArgs false
theorem mag_odd {x : Nat} (h : rg x ≠ 0) : magR (rg x) = oddM x * 2 ^ (expE x + tzM x) := by
  obtain ⟨m, h1, h2, _⟩ := man_split h
  have e : magR (rg x) = manM x * 2 ^ expE x := by
    unfold magR manM expE
    by_cases h3 : rg x < 4503599627370496
    · rw [if_pos h3, if_pos h3, if_pos h3, Nat.pow_zero, Nat.mul_one]
    · rw [if_neg h3, if_neg h3, if_neg h3]
  rw [e, h1, h2, Nat.pow_add, Nat.mul_comm (2 ^ tzM x), Nat.mul_assoc, Nat.mul_comm (2 ^ tzM x)]
theorem odd_lt {x : Nat} (h : rg x ≠ 0) : 0 < oddM x ∧ oddM x < 9007199254740992 := by
  obtain ⟨m, h1, h2, _⟩ := man_split h
  obtain ⟨_, p2⟩ := man_pos h
  refine ⟨by omega, Nat.lt_of_le_of_lt (Nat.div_le_self _ _) p2⟩
theorem word_of {x : Nat} (hx : x < 18446744073709551616) : word (NEG x) (rg x) = x := by
  unfold word NEG rg
  by_cases h : x < 9223372036854775808
  · rw [Nat.div_eq_of_lt h, Nat.mod_eq_of_lt h]
    rfl
  · rw [show x / 9223372036854775808 = 1 by omega]
    simp
    omega
/-- A float is made again of its parts. -/
theorem again {x : Nat} (hx : x < 18446744073709551616) (h : ¬ classS x < 4) : In64 (partsV x).1 ∧ word (decide ((partsV x).1 < 0)) (rungOf (partsV x).1.natAbs (partsV x).2) = x := by
  obtain ⟨c1, c2, c3⟩ := class_full h
  obtain ⟨o1, o2⟩ := odd_lt c2
  have hm := mag_odd c2
  have e : partsV x = (sg (NEG x) (oddM x), -1074 + ((expE x + tzM x : Nat) : Int)) := if_neg h
  rw [e]
  dsimp only
  have e1 : (sg (NEG x) (oddM x)).natAbs = oddM x := by unfold sg; split <;> omega
  have e2 : decide (sg (NEG x) (oddM x) < 0) = NEG x := by
    unfold sg
    cases NEG x
    · exact decide_eq_false (by simp)
    · exact decide_eq_true (by simp; omega)
  have e3 : In64 (sg (NEG x) (oddM x)) := by unfold In64 sg; split <;> omega
  refine ⟨e3, ?_⟩
  rw [e1, e2, ← rungOf_scale, ← hm, rungOf_magR _ (by omega)]
  exact word_of hx
set_option maxHeartbeats 1000000 in
theorem walk_none (x : Nat) (c : Int) (hx : x < 18446744073709551616) (hc : classS x = c) (h4 : decide (c < 4) = true) (w : World) (h : TabW w) : Calls Tryd.prog 3 #[.float .f64 x] w fun e w' => e = .returned (.bool true) ∧ Below w.heap.size w w' := by
  have P1 := fun w h => parts_any x hx w h
  have P2 := fun w => rparts_any x hx w
  have C1 := fun w => class_any x hx w
  have C2 := fun w => rclass_any x hx w
  have N1 := fun w => minus_any x hx w
  have N2 := fun w => rminus_any x hx w
  have B1 := fun w => rbits_any x w
  have hL := fun w h => lives_any w h
  rw [hc] at C1 C2
  have HT := hide h
  clear h hc
  generalize (!nanB x && NEG x) = b at *
  generalize partsV x = v at *
  obtain ⟨m, e⟩ := v
  dsimp only at P1 P2
  cases b
  all_goals
    go_enter Tryd.func3, Tryd.ntmps3
    go_wp2_with (first | (go_at_call 10; refine (hL _ (HT.out.below (B := w.heap.size) (by repeat' (first | (with_reducible exact Below.refl _ _) | (with_reducible refine below_drewN ?_ _) | (with_reducible refine Below.drew ?_) | (with_reducible refine Below.alloc ?_ ?_ _) | (with_reducible refine Below.setCell ?_ ?_ _) | (with_reducible refine below_step ?_ (by assumption) ?_) | (with_reducible refine below_step ?_ (below_regrown _ _ _) ?_) | go_size)) (by omega))).mono ?_; rintro e w1 ⟨rfl, hb⟩; obtain ⟨hS, hE, hz, hc, hf⟩ := bcell hb; (try simp only [go_sem] at hE); subst hE) | (go_at_call 8; refine (P1 _ (HT.out.below (B := w.heap.size) (by repeat' (first | (with_reducible exact Below.refl _ _) | (with_reducible refine below_drewN ?_ _) | (with_reducible refine Below.drew ?_) | (with_reducible refine Below.alloc ?_ ?_ _) | (with_reducible refine Below.setCell ?_ ?_ _) | (with_reducible refine below_step ?_ (by assumption) ?_) | (with_reducible refine below_step ?_ (below_regrown _ _ _) ?_) | go_size)) (by omega))).mono ?_; rintro e w1 ⟨rfl, rfl⟩) | (go_at_call 9; refine (P2 _).mono ?_; rintro e w1 ⟨rfl, rfl⟩) | (go_at_call 11; refine (C1 _).mono ?_; rintro e w1 ⟨rfl, rfl⟩) | (go_at_call 12; refine (C2 _).mono ?_; rintro e w1 ⟨rfl, rfl⟩) | (go_at_call 13; refine (N1 _).mono ?_; rintro e w1 ⟨rfl, rfl⟩) | (go_at_call 14; refine (N2 _).mono ?_; rintro e w1 ⟨rfl, rfl⟩) | (go_at_call 7; refine (B1 _).mono ?_; rintro e w1 ⟨rfl, rfl⟩) | ((with_reducible change Code.wp _ (Code.region _ _ _) _ _ _); refine wp_region_quiet_below (by kernel_rfl) (by kernel_rfl) ?_; (repeat (first | go_big_quiet_step ((first | (go_at_call 10; exact Calls.regrown_of (hL _ (HT.out.below (B := w.heap.size) (by repeat' (first | (with_reducible exact Below.refl _ _) | (with_reducible refine below_drewN ?_ _) | (with_reducible refine Below.drew ?_) | (with_reducible refine Below.alloc ?_ ?_ _) | (with_reducible refine Below.setCell ?_ ?_ _) | (with_reducible refine below_step ?_ (by assumption) ?_) | (with_reducible refine below_step ?_ (below_regrown _ _ _) ?_) | go_size)) (by omega)))) | (go_at_call 8; exact Calls.regrown_of (below_of_same (P1 _ (HT.out.below (B := w.heap.size) (by repeat' (first | (with_reducible exact Below.refl _ _) | (with_reducible refine below_drewN ?_ _) | (with_reducible refine Below.drew ?_) | (with_reducible refine Below.alloc ?_ ?_ _) | (with_reducible refine Below.setCell ?_ ?_ _) | (with_reducible refine below_step ?_ (by assumption) ?_) | (with_reducible refine below_step ?_ (below_regrown _ _ _) ?_) | go_size)) (by omega))))) | (go_at_call 9; exact Calls.regrown_of (below_of_same (P2 _))) | (go_at_call 11; exact Calls.regrown_of (below_of_same (C1 _))) | (go_at_call 12; exact Calls.regrown_of (below_of_same (C2 _))) | (go_at_call 13; exact Calls.regrown_of (below_of_same (N1 _))) | (go_at_call 14; exact Calls.regrown_of (below_of_same (N2 _))) | (go_at_call 7; exact Calls.regrown_of (below_of_same (B1 _))))) | quiet_step ((first | (go_at_call 10; exact Calls.regrown_of (hL _ (HT.out.below (B := w.heap.size) (by repeat' (first | (with_reducible exact Below.refl _ _) | (with_reducible refine below_drewN ?_ _) | (with_reducible refine Below.drew ?_) | (with_reducible refine Below.alloc ?_ ?_ _) | (with_reducible refine Below.setCell ?_ ?_ _) | (with_reducible refine below_step ?_ (by assumption) ?_) | (with_reducible refine below_step ?_ (below_regrown _ _ _) ?_) | go_size)) (by omega)))) | (go_at_call 8; exact Calls.regrown_of (below_of_same (P1 _ (HT.out.below (B := w.heap.size) (by repeat' (first | (with_reducible exact Below.refl _ _) | (with_reducible refine below_drewN ?_ _) | (with_reducible refine Below.drew ?_) | (with_reducible refine Below.alloc ?_ ?_ _) | (with_reducible refine Below.setCell ?_ ?_ _) | (with_reducible refine below_step ?_ (by assumption) ?_) | (with_reducible refine below_step ?_ (below_regrown _ _ _) ?_) | go_size)) (by omega))))) | (go_at_call 9; exact Calls.regrown_of (below_of_same (P2 _))) | (go_at_call 11; exact Calls.regrown_of (below_of_same (C1 _))) | (go_at_call 12; exact Calls.regrown_of (below_of_same (C2 _))) | (go_at_call 13; exact Calls.regrown_of (below_of_same (N1 _))) | (go_at_call 14; exact Calls.regrown_of (below_of_same (N2 _))) | (go_at_call 7; exact Calls.regrown_of (below_of_same (B1 _))))))); refine wpQuiet_nil ?_; intro w1 hw1; have hb := below_of_regrown hw1; clear hw1; obtain ⟨hS, hE, hz, hc, hf⟩ := bcell hb; (try simp only [go_sem] at hE); subst hE))
    go_ret
    exact ⟨rfl, (by repeat' (first | (with_reducible exact Below.refl _ _) | (with_reducible refine below_drewN ?_ _) | (with_reducible refine Below.drew ?_) | (with_reducible refine Below.alloc ?_ ?_ _) | (with_reducible refine Below.setCell ?_ ?_ _) | (with_reducible refine below_step ?_ (by assumption) ?_) | (with_reducible refine below_step ?_ (below_regrown _ _ _) ?_) | go_size))⟩
set_option maxHeartbeats 1000000 in
theorem walk_full (x : Nat) (c : Int) (hx : x < 18446744073709551616) (hc : classS x = c) (h4 : decide (c < 4) = false) (w : World) (h : TabW w) : Calls Tryd.prog 3 #[.float .f64 x] w fun e w' => e = .returned (.bool true) ∧ Below w.heap.size w w' := by
  have P1 := fun w h => parts_any x hx w h
  have P2 := fun w => rparts_any x hx w
  have C1 := fun w => class_any x hx w
  have C2 := fun w => rclass_any x hx w
  have N1 := fun w => minus_any x hx w
  have N2 := fun w => rminus_any x hx w
  have B1 := fun w => rbits_any x w
  have hL := fun w h => lives_any w h
  obtain ⟨g1, g2⟩ := again hx (by rw [hc]; exact of_decide_eq_false h4)
  have M1 := fun w => make_any _ (partsV x).2 g1 w
  rw [g2] at M1
  clear g1 g2
  rw [hc] at C1 C2
  have HT := hide h
  clear h hc
  generalize (!nanB x && NEG x) = b at *
  generalize partsV x = v at *
  obtain ⟨m, e⟩ := v
  dsimp only at P1 P2 M1
  cases b
  all_goals
    go_enter Tryd.func3, Tryd.ntmps3
    go_wp2_with (first | (go_at_call 10; refine (hL _ (HT.out.below (B := w.heap.size) (by repeat' (first | (with_reducible exact Below.refl _ _) | (with_reducible refine below_drewN ?_ _) | (with_reducible refine Below.drew ?_) | (with_reducible refine Below.alloc ?_ ?_ _) | (with_reducible refine Below.setCell ?_ ?_ _) | (with_reducible refine below_step ?_ (by assumption) ?_) | (with_reducible refine below_step ?_ (below_regrown _ _ _) ?_) | go_size)) (by omega))).mono ?_; rintro e w1 ⟨rfl, hb⟩; obtain ⟨hS, hE, hz, hc, hf⟩ := bcell hb; (try simp only [go_sem] at hE); subst hE) | (go_at_call 8; refine (P1 _ (HT.out.below (B := w.heap.size) (by repeat' (first | (with_reducible exact Below.refl _ _) | (with_reducible refine below_drewN ?_ _) | (with_reducible refine Below.drew ?_) | (with_reducible refine Below.alloc ?_ ?_ _) | (with_reducible refine Below.setCell ?_ ?_ _) | (with_reducible refine below_step ?_ (by assumption) ?_) | (with_reducible refine below_step ?_ (below_regrown _ _ _) ?_) | go_size)) (by omega))).mono ?_; rintro e w1 ⟨rfl, rfl⟩) | (go_at_call 9; refine (P2 _).mono ?_; rintro e w1 ⟨rfl, rfl⟩) | (go_at_call 11; refine (C1 _).mono ?_; rintro e w1 ⟨rfl, rfl⟩) | (go_at_call 12; refine (C2 _).mono ?_; rintro e w1 ⟨rfl, rfl⟩) | (go_at_call 13; refine (N1 _).mono ?_; rintro e w1 ⟨rfl, rfl⟩) | (go_at_call 14; refine (N2 _).mono ?_; rintro e w1 ⟨rfl, rfl⟩) | (go_at_call 7; refine (B1 _).mono ?_; rintro e w1 ⟨rfl, rfl⟩) | (go_at_call 16; refine (M1 _).mono ?_; rintro e w1 ⟨rfl, rfl⟩) | ((with_reducible change Code.wp _ (Code.region _ _ _) _ _ _); refine wp_region_quiet_below (by kernel_rfl) (by kernel_rfl) ?_; (repeat (first | go_big_quiet_step ((first | (go_at_call 10; exact Calls.regrown_of (hL _ (HT.out.below (B := w.heap.size) (by repeat' (first | (with_reducible exact Below.refl _ _) | (with_reducible refine below_drewN ?_ _) | (with_reducible refine Below.drew ?_) | (with_reducible refine Below.alloc ?_ ?_ _) | (with_reducible refine Below.setCell ?_ ?_ _) | (with_reducible refine below_step ?_ (by assumption) ?_) | (with_reducible refine below_step ?_ (below_regrown _ _ _) ?_) | go_size)) (by omega)))) | (go_at_call 8; exact Calls.regrown_of (below_of_same (P1 _ (HT.out.below (B := w.heap.size) (by repeat' (first | (with_reducible exact Below.refl _ _) | (with_reducible refine below_drewN ?_ _) | (with_reducible refine Below.drew ?_) | (with_reducible refine Below.alloc ?_ ?_ _) | (with_reducible refine Below.setCell ?_ ?_ _) | (with_reducible refine below_step ?_ (by assumption) ?_) | (with_reducible refine below_step ?_ (below_regrown _ _ _) ?_) | go_size)) (by omega))))) | (go_at_call 9; exact Calls.regrown_of (below_of_same (P2 _))) | (go_at_call 11; exact Calls.regrown_of (below_of_same (C1 _))) | (go_at_call 12; exact Calls.regrown_of (below_of_same (C2 _))) | (go_at_call 13; exact Calls.regrown_of (below_of_same (N1 _))) | (go_at_call 14; exact Calls.regrown_of (below_of_same (N2 _))) | (go_at_call 7; exact Calls.regrown_of (below_of_same (B1 _))) | (go_at_call 16; exact Calls.regrown_of (below_of_same (M1 _))))) | quiet_step ((first | (go_at_call 10; exact Calls.regrown_of (hL _ (HT.out.below (B := w.heap.size) (by repeat' (first | (with_reducible exact Below.refl _ _) | (with_reducible refine below_drewN ?_ _) | (with_reducible refine Below.drew ?_) | (with_reducible refine Below.alloc ?_ ?_ _) | (with_reducible refine Below.setCell ?_ ?_ _) | (with_reducible refine below_step ?_ (by assumption) ?_) | (with_reducible refine below_step ?_ (below_regrown _ _ _) ?_) | go_size)) (by omega)))) | (go_at_call 8; exact Calls.regrown_of (below_of_same (P1 _ (HT.out.below (B := w.heap.size) (by repeat' (first | (with_reducible exact Below.refl _ _) | (with_reducible refine below_drewN ?_ _) | (with_reducible refine Below.drew ?_) | (with_reducible refine Below.alloc ?_ ?_ _) | (with_reducible refine Below.setCell ?_ ?_ _) | (with_reducible refine below_step ?_ (by assumption) ?_) | (with_reducible refine below_step ?_ (below_regrown _ _ _) ?_) | go_size)) (by omega))))) | (go_at_call 9; exact Calls.regrown_of (below_of_same (P2 _))) | (go_at_call 11; exact Calls.regrown_of (below_of_same (C1 _))) | (go_at_call 12; exact Calls.regrown_of (below_of_same (C2 _))) | (go_at_call 13; exact Calls.regrown_of (below_of_same (N1 _))) | (go_at_call 14; exact Calls.regrown_of (below_of_same (N2 _))) | (go_at_call 7; exact Calls.regrown_of (below_of_same (B1 _))) | (go_at_call 16; exact Calls.regrown_of (below_of_same (M1 _))))))); refine wpQuiet_nil ?_; intro w1 hw1; have hb := below_of_regrown hw1; clear hw1; obtain ⟨hS, hE, hz, hc, hf⟩ := bcell hb; (try simp only [go_sem] at hE); subst hE))
    go_ret
    exact ⟨rfl, (by repeat' (first | (with_reducible exact Below.refl _ _) | (with_reducible refine below_drewN ?_ _) | (with_reducible refine Below.drew ?_) | (with_reducible refine Below.alloc ?_ ?_ _) | (with_reducible refine Below.setCell ?_ ?_ _) | (with_reducible refine below_step ?_ (by assumption) ?_) | (with_reducible refine below_step ?_ (below_regrown _ _ _) ?_) | go_size))⟩
theorem float_lt {b : Nat} (h : (Lit.float .f64 b).wf = true) : b < 18446744073709551616 := by
  have := of_decide_eq_true h
  exact this
theorem law : LawL Tryd.checked Rows.realPartsRow.laid 3 Tryd.f3 := by
  intro H enc W base args ds ps hval hA _ hL
  have hA1 : DataW.TrodAll enc Tryd.prog W 0 (fun _ => true) true Tryd.f3.params.toList args.toList ds ps := hA
  rw [Tryd.params3] at hA1 hval
  obtain ⟨v0, vs0, d0, ds0, p0, q0, hargs, rfl, rfl, h0, r0⟩ := trodAll_cons hA1
  obtain ⟨rfl, rfl, rfl⟩ := trodAll_nil r0
  obtain rfl : args = #[v0] := by cases args; simp_all
  obtain ⟨x, rfl, rfl, rfl, hx⟩ := open_float Tryd.underlying22 (hval 0 _ v0 rfl rfl) h0
  by_cases h4 : classS x < 4
  · exact walk_none x _ (float_lt hx) rfl (decide_eq_true h4) W (tab_laid hL)
  · exact walk_full x _ (float_lt hx) rfl (decide_eq_false h4) W (tab_laid hL)

set_option maxRecDepth 100000 in
theorem met : Door.Met Rows.realPartsRow.laid := fun os args =>
  laidMetH_of_parts3 (fuel := 8) (laidMet_of_run' 8 (by kernel_rfl) (by kernel_rfl)) (by kernel_rfl) (by kernel_rfl)
set_option maxRecDepth 100000 in
theorem step (os : Os) (started : os.Started) (H : Type) (enc : TypeId × Value → H) :
    ReturnsInHanded {} Tryd.checked os 3 .any (fun w args => (Rows.realPartsSpec.pre enc Tryd.prog Tryd.f3 Rows.realPartsRow.domain false w args ∧ laidMetH Tryd.prog Rows.realPartsRow.laid w) ∧ sizedMet enc Tryd.prog Tryd.f3 (OpenSpec.ofChange Rows.realPartsSpec) false w args) (Rows.realPartsSpec.post enc Tryd.prog Tryd.f3 false true false false) :=
  Door.liftedL (C := Tryd.checked) (L := Rows.realPartsRow.laid) (s := Rows.realPartsSpec) own started (by kernel_rfl) Tryd.func3
    (ChangeSpec.witness_shaped (enc := enc) (C := Tryd.checked) (os := os) (X := fun w _ => laidMetH Tryd.prog Rows.realPartsRow.laid w) false (World.doorLaid Tryd.prog 400 os) #[.float .f64 0] 8 rfl (World.shaped_of_RefB (by kernel_rfl) (by kernel_rfl)) (by kernel_rfl) (by kernel_rfl) (by kernel_rfl) (met os _))
    laidOut (by kernel_rfl) (by kernel_rfl) Tryd.underlying4 rfl (fun ds h => by match ds, h with | [d0], _ => rfl) law
set_option maxRecDepth 100000 in
theorem over : Rows.realPartsRow.holds Tryd.pinned (OpenSpec.ofChange Rows.realPartsSpec) :=
  OpenClaim.holds_of_wide 3 Tryd.f3 rfl rfl rfl rfl rfl rfl rfl ⟨rfl, rfl, rfl, rfl, rfl⟩ rfl rfl rfl rfl rfl (by kernel_rfl) Tryd.func3 (by kernel_rfl)
    (of_decide_eq_true (by kernel_rfl)) (by unfold Func.isWrapper; first | (rw [if_pos (by decide +kernel)]; kernel_rfl) | (rw [if_neg (by decide +kernel)]; exact ⟨rfl, rfl⟩))
    (fun os started H enc _ => step os started H enc)
theorem proved : Rows.RealPartsCardSaid :=
  Claim7.holds_tied_plain_at .later [] Rows.realPartsCard.laidKinds true Rows.realPartsCard.stood.harness Rows.realPartsCard.stood.looks
    over (fun _ h => by cases h) (by kernel_rfl) (fun _ h => by cases h) realParts_row_tie rfl ⟨rfl, rfl⟩ (by kernel_rfl) rfl
    (fun f fn hf hfn => by
      obtain rfl : f = 3 := Option.some.inj ((show Tryd.prog.funcNamed Rows.realPartsRow.func = some 3 by kernel_rfl).symm.trans hf) |>.symm
      obtain rfl : fn = Tryd.f3 := (Option.some.inj (Tryd.func3.symm.trans hfn)).symm
      exact ⟨by kernel_rfl, fun j t ht => by
        have hall : (Tryd.f3.params.toList.all fun u => !Tryd.prog.wantsStandIn u) = true := by kernel_rfl
        exact (show Tryd.prog.wantsStandIn t = false by simpa using List.all_eq_true.1 hall t (Array.mem_toList_iff.2 (Array.mem_of_getElem? ht)))⟩)
    (by kernel_rfl)
#print axioms proved

end Go.Proofs.YtddifbgdjdahfaaDoor.RealParts
