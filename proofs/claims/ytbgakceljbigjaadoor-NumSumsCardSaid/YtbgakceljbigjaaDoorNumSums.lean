/- For any list of numbers the law 'NumSums' returns true. Condition: the library's three tables are as the row lists them (tied to the program's text by the card). -/
import Derived.Test.YtbgakceljbigjaaDoorNumV
import Derived.Test.YtbgakceljbigjaaDoorNumH
namespace Go.Proofs.YtbgakceljbigjaaDoor.NumSums
open Go.ChangeShapes Go.WideShapes Go.ChangeAt Go.RowKit Go.Proofs.YtbgakceljbigjaaDoor.Kit Go.Proofs.YtbgakceljbigjaaDoor.Num Go.Deep Go.Proofs.YtbgakceljbigjaaDoor.Door Go.Proofs.YtbgakceljbigjaaDoor.Wide Go.Proofs.YtbgakceljbigjaaDoor.Mem
set_option linter.unusedVariables false
theorem sum_app (l m : List Int) : (l ++ m).sum = l.sum + m.sum := by
  induction l with
  | nil => simp
  | cons x l ih => rw [List.cons_append, List.sum_cons, List.sum_cons, ih]; omega
theorem sum_rev (l : List Int) : l.reverse.sum = l.sum := by
  induction l with
  | nil => rfl
  | cons x l ih => rw [List.reverse_cons, sum_app, ih, List.sum_cons, List.sum_cons, List.sum_nil]; omega
theorem rev_step (l : List Int) (p : Nat) (h : p < l.length) : (l.drop p).reverse = (l.drop (p + 1)).reverse ++ [l.getD p 0] := by
  rw [List.drop_eq_getElem_cons h, List.reverse_cons, List.getD_eq_getElem?_getD, List.getElem?_eq_getElem h]
  rfl
set_option maxHeartbeats 1000000 in
theorem walk {w : World} {n : Nat} {A : Option Addr} {l : List Int} (hr : Ints w w.heap.size A n l) (hin : ∀ x ∈ l, In64 x) (c : Nat) (h : Pow w) : Calls Tryd.prog 5 #[.slice A n c] w fun e w' => e = .returned (.bool true) ∧ Below w.heap.size w w' := by
  have e1 := hr.1
  subst e1
  have HR := hide hr
  have HIN := hide hin
  have HP := hide h
  clear h hr hin
  by_cases hn : 1000 < l.length
  · go_enter Tryd.func5, Tryd.ntmps5
    go_wp2_with (first | (go_at_call 9; refine (lives_any _ (HP.out.below (B := w.heap.size) (by repeat' (first | (with_reducible exact Below.refl _ _) | (with_reducible refine below_drewN ?_ _) | (with_reducible refine Below.drew ?_) | (with_reducible refine Below.alloc ?_ ?_ _) | (with_reducible refine Below.setCell ?_ ?_ _) | (with_reducible refine below_step ?_ (by assumption) ?_) | go_size)) (by omega))).mono ?_; rintro e w1 ⟨rfl, hb⟩; obtain ⟨hS, hE, hz, hc, hf⟩ := bcell hb; (try simp only [go_sem] at hE); subst hE) | (refine wp_region_quiet_below (by kernel_rfl) (by kernel_rfl) ?_; (repeat (first | go_big_quiet_step ((first | (go_at_call 9; exact Calls.regrown_of (lives_any _ (HP.out.below (B := w.heap.size) (by repeat' (first | (with_reducible exact Below.refl _ _) | (with_reducible refine below_drewN ?_ _) | (with_reducible refine Below.drew ?_) | (with_reducible refine Below.alloc ?_ ?_ _) | (with_reducible refine Below.setCell ?_ ?_ _) | (with_reducible refine below_step ?_ (by assumption) ?_) | go_size)) (by omega)))))) | quiet_step ((first | (go_at_call 9; exact Calls.regrown_of (lives_any _ (HP.out.below (B := w.heap.size) (by repeat' (first | (with_reducible exact Below.refl _ _) | (with_reducible refine below_drewN ?_ _) | (with_reducible refine Below.drew ?_) | (with_reducible refine Below.alloc ?_ ?_ _) | (with_reducible refine Below.setCell ?_ ?_ _) | (with_reducible refine below_step ?_ (by assumption) ?_) | go_size)) (by omega)))))))); refine wpQuiet_nil ?_; intro w1 hw1; have hb := below_of_regrown hw1; clear hw1; obtain ⟨hS, hE, hz, hc, hf⟩ := bcell hb; (try simp only [go_sem] at hE); subst hE))
    go_ret
    exact ⟨rfl, (by repeat' (first | (with_reducible exact Below.refl _ _) | (with_reducible refine below_drewN ?_ _) | (with_reducible refine Below.drew ?_) | (with_reducible refine Below.alloc ?_ ?_ _) | (with_reducible refine Below.setCell ?_ ?_ _) | (with_reducible refine below_step ?_ (by assumption) ?_) | go_size))⟩
  go_enter Tryd.func5, Tryd.ntmps5
  go_wp2
  go_loopw [3, 4] (fun t i wr => ∃ (q : Nat) (A2 : Option Addr) (n2 c2 : Nat), q ≤ l.length ∧ i = .int .i64 ((q : Int) - 1) ∧ t = .slice A2 n2 c2 ∧ n2 + q = l.length ∧ wr.ownsRow w.heap.size 3 1 (.slice A2 n2 c2) n2 (IV (l.drop q).reverse) ∧ n2 ≤ c2 ∧ c2 ≤ maxLen ∧ Below w.heap.size w wr) (fun _ i _ => (intOf i + 1).toNat)
  case atStart => exact ⟨l.length, none, 0, 0, Nat.le_refl _, rfl, rfl, by omega, by rw [List.drop_length]; exact World.ownsRow_nil _ _ _ _, Nat.le_refl _, Nat.zero_le _, Below.refl _ _⟩
  case round =>
    obtain ⟨q, A2, n2, c2, hq, rfl, rfl, hnq, hown, hc2, hm2, hbw⟩ := hrel
    have hwz := hbw.size
    have HBW := hide hbw
    have HO := hide hown
    clear hown
    cases q with
    | zero =>
      have HT : Hid (Ints wr wr.heap.size A2 n2 l.reverse) := hide (by have := ints_of_own HO.out; rwa [List.drop_zero] at this)
      clear HO hq
      obtain ⟨wo, rfl⟩ : ∃ wo : World, wo = wr := ⟨_, rfl⟩
      have HPO := hide (HP.out.below HBW.out (Nat.le_refl _))
      have HIN2 : Hid (∀ x ∈ l.reverse, In64 x) := hide fun x hx => HIN.out x (List.mem_reverse.1 hx)
      have HRO : Hid (Ints wo wo.heap.size A l.length l) := hide ⟨rfl, fun h0 => by
        obtain ⟨b, off, e, hb, hc⟩ := (ints_below HR.out HBW.out (Nat.le_refl _)).2 h0
        exact ⟨b, off, e, by omega, hc⟩⟩
      have S1 := fun w' (hb : Below wo.heap.size wo w') => sum_any (ints_below HRO.out hb (Nat.le_refl _)) hb.size HIN.out (by omega) c
      have S2 := fun w' (hb : Below wo.heap.size wo w') => sum_any (ints_below HT.out hb (Nat.le_refl _)) hb.size HIN2.out (by omega) c2
      have S3 := fun w' (hb : Below wo.heap.size wo w') => rsum_any (ints_below HRO.out hb (Nat.le_refl _)) hb.size HIN.out (by omega) c
      rw [sum_rev] at S2
      generalize oneW l.sum = r at *
      clear hbw
      have e : ((0 : Nat) : Int) - 1 = -1 := rfl
      rw [e]
      go_wp2_with (first | (go_at_call 15; (with_reducible refine (S1 _ (by repeat' (first | (with_reducible exact Below.refl _ _) | (with_reducible refine below_drewN ?_ _) | (with_reducible refine Below.drew ?_) | (with_reducible refine Below.alloc ?_ ?_ _) | (with_reducible refine Below.setCell ?_ ?_ _) | (with_reducible refine below_step ?_ (by assumption) ?_) | go_size))).mono ?_); rintro e w1 ⟨rfl, hb⟩; obtain ⟨hS, hE, hz, hc, hf⟩ := bcell hb; (try simp only [go_sem] at hE); subst hE) | (go_at_call 15; (with_reducible refine (S2 _ (by repeat' (first | (with_reducible exact Below.refl _ _) | (with_reducible refine below_drewN ?_ _) | (with_reducible refine Below.drew ?_) | (with_reducible refine Below.alloc ?_ ?_ _) | (with_reducible refine Below.setCell ?_ ?_ _) | (with_reducible refine below_step ?_ (by assumption) ?_) | go_size))).mono ?_); rintro e w1 ⟨rfl, hb⟩; obtain ⟨hS, hE, hz, hc, hf⟩ := bcell hb; (try simp only [go_sem] at hE); subst hE) | (go_at_call 16; (with_reducible refine (S3 _ (by repeat' (first | (with_reducible exact Below.refl _ _) | (with_reducible refine below_drewN ?_ _) | (with_reducible refine Below.drew ?_) | (with_reducible refine Below.alloc ?_ ?_ _) | (with_reducible refine Below.setCell ?_ ?_ _) | (with_reducible refine below_step ?_ (by assumption) ?_) | go_size))).mono ?_); rintro e w1 ⟨rfl, hb⟩; obtain ⟨hS, hE, hz, hc, hf⟩ := bcell hb; (try simp only [go_sem] at hE); subst hE) | (go_at_call 9; refine (lives_any _ (HPO.out.below (B := wo.heap.size) (by repeat' (first | (with_reducible exact Below.refl _ _) | (with_reducible refine below_drewN ?_ _) | (with_reducible refine Below.drew ?_) | (with_reducible refine Below.alloc ?_ ?_ _) | (with_reducible refine Below.setCell ?_ ?_ _) | (with_reducible refine below_step ?_ (by assumption) ?_) | go_size)) (by omega))).mono ?_; rintro e w1 ⟨rfl, hb⟩; obtain ⟨hS, hE, hz, hc, hf⟩ := bcell hb; (try simp only [go_sem] at hE); subst hE) | (refine wp_region_quiet_below (by kernel_rfl) (by kernel_rfl) ?_; (repeat (first | go_big_quiet_step ((first | (go_at_call 15; (with_reducible refine Calls.regrown_of (S1 _ (by repeat' (first | (with_reducible exact Below.refl _ _) | (with_reducible refine below_drewN ?_ _) | (with_reducible refine Below.drew ?_) | (with_reducible refine Below.alloc ?_ ?_ _) | (with_reducible refine Below.setCell ?_ ?_ _) | (with_reducible refine below_step ?_ (by assumption) ?_) | go_size))));) | (go_at_call 15; (with_reducible refine Calls.regrown_of (S2 _ (by repeat' (first | (with_reducible exact Below.refl _ _) | (with_reducible refine below_drewN ?_ _) | (with_reducible refine Below.drew ?_) | (with_reducible refine Below.alloc ?_ ?_ _) | (with_reducible refine Below.setCell ?_ ?_ _) | (with_reducible refine below_step ?_ (by assumption) ?_) | go_size))));) | (go_at_call 16; (with_reducible refine Calls.regrown_of (S3 _ (by repeat' (first | (with_reducible exact Below.refl _ _) | (with_reducible refine below_drewN ?_ _) | (with_reducible refine Below.drew ?_) | (with_reducible refine Below.alloc ?_ ?_ _) | (with_reducible refine Below.setCell ?_ ?_ _) | (with_reducible refine below_step ?_ (by assumption) ?_) | go_size))));) | (go_at_call 9; exact Calls.regrown_of (lives_any _ (HPO.out.below (B := wo.heap.size) (by repeat' (first | (with_reducible exact Below.refl _ _) | (with_reducible refine below_drewN ?_ _) | (with_reducible refine Below.drew ?_) | (with_reducible refine Below.alloc ?_ ?_ _) | (with_reducible refine Below.setCell ?_ ?_ _) | (with_reducible refine below_step ?_ (by assumption) ?_) | go_size)) (by omega)))))) | quiet_step ((first | (go_at_call 15; (with_reducible refine Calls.regrown_of (S1 _ (by repeat' (first | (with_reducible exact Below.refl _ _) | (with_reducible refine below_drewN ?_ _) | (with_reducible refine Below.drew ?_) | (with_reducible refine Below.alloc ?_ ?_ _) | (with_reducible refine Below.setCell ?_ ?_ _) | (with_reducible refine below_step ?_ (by assumption) ?_) | go_size))));) | (go_at_call 15; (with_reducible refine Calls.regrown_of (S2 _ (by repeat' (first | (with_reducible exact Below.refl _ _) | (with_reducible refine below_drewN ?_ _) | (with_reducible refine Below.drew ?_) | (with_reducible refine Below.alloc ?_ ?_ _) | (with_reducible refine Below.setCell ?_ ?_ _) | (with_reducible refine below_step ?_ (by assumption) ?_) | go_size))));) | (go_at_call 16; (with_reducible refine Calls.regrown_of (S3 _ (by repeat' (first | (with_reducible exact Below.refl _ _) | (with_reducible refine below_drewN ?_ _) | (with_reducible refine Below.drew ?_) | (with_reducible refine Below.alloc ?_ ?_ _) | (with_reducible refine Below.setCell ?_ ?_ _) | (with_reducible refine below_step ?_ (by assumption) ?_) | go_size))));) | (go_at_call 9; exact Calls.regrown_of (lives_any _ (HPO.out.below (B := wo.heap.size) (by repeat' (first | (with_reducible exact Below.refl _ _) | (with_reducible refine below_drewN ?_ _) | (with_reducible refine Below.drew ?_) | (with_reducible refine Below.alloc ?_ ?_ _) | (with_reducible refine Below.setCell ?_ ?_ _) | (with_reducible refine below_step ?_ (by assumption) ?_) | go_size)) (by omega)))))))); refine wpQuiet_nil ?_; intro w1 hw1; have hb := below_of_regrown hw1; clear hw1; obtain ⟨hS, hE, hz, hc, hf⟩ := bcell hb; (try simp only [go_sem] at hE); subst hE))
      go_ret
      exact ⟨rfl, HBW.out.trans ((show Below wo.heap.size wo w1 from (by repeat' (first | (with_reducible exact Below.refl _ _) | (with_reducible refine below_drewN ?_ _) | (with_reducible refine Below.drew ?_) | (with_reducible refine Below.alloc ?_ ?_ _) | (with_reducible refine Below.setCell ?_ ?_ _) | (with_reducible refine below_step ?_ (by assumption) ?_) | go_size))).mono hwz)⟩
    | succ p =>
      have e : ((p + 1 : Nat) : Int) - 1 = p := by omega
      rw [e]
      obtain ⟨b, off, rfl, hb0, hcell⟩ := HR.out.2 (by omega)
      have d0 : wr.cell? ⟨b, off + p, none⟩ = some (.int .i64 (l.getD p 0)) := (hbw.cell (p := ⟨b, off + p, none⟩) (by dsimp only; omega)).trans (hcell p (by omega))
      have HS := hide (rev_step l p (by omega))
      clear hcell hbw
      generalize l.getD p 0 = x at *
      go_wp2_with (at_builtin; go_loud (refine app_i64 rfl (.tmp 22) (.tmp 27) rfl w.heap.size A2 n2 c2 _ rfl (HO.out.alloc _) _ _ 1 1 [x] rfl (ints_one wr x 3) (by omega) (by simp; omega) ?_); intro A5 c5 w5 hown5 hgrow5 hbel5 hcap5 hcm5)
      refine ⟨⟨p, A5, n2 + 1, c5, by omega, rfl, rfl, by omega, by rw [HS.out]; exact hown5, hcap5, hcm5, (HBW.out.alloc hwz _).trans hbel5⟩, by simp [intOf]⟩
theorem law : LawL Tryd.checked Rows.numSumsRow.laid 5 Tryd.f5 := by
  intro H enc W base args ds ps hval hA _ hL
  have hA1 : DataW.TrodAll enc Tryd.prog W 0 (fun _ => true) true Tryd.f5.params.toList args.toList ds ps := hA
  rw [Tryd.params5] at hA1 hval
  obtain ⟨v0, vs0, d0, ds0, p0, q0, hargs, rfl, rfl, h0, r0⟩ := trodAll_cons hA1
  obtain ⟨rfl, rfl, rfl⟩ := trodAll_nil r0
  obtain rfl : args = #[v0] := by cases args; simp_all
  obtain ⟨A, len, cap, zs, rfl, hlc, hcm, hz, hrow, hwf⟩ := arg_row Tryd.underlying30 Tryd.underlying3 (by kernel_rfl) (hval 0 _ v0 rfl rfl) h0
  exact walk ⟨hz, hrow⟩ (fun x hx => bounds_i64 (hwf x hx)) cap (pow_laid hL)

set_option maxRecDepth 100000 in
theorem met : Door.Met Rows.numSumsRow.laid := fun os args =>
  laidMetH_of_parts3 (fuel := 8) (laidMet_of_run' 8 (by kernel_rfl) (by kernel_rfl)) (by kernel_rfl) (by kernel_rfl)
set_option maxRecDepth 100000 in
theorem step (os : Os) (started : os.Started) (H : Type) (enc : TypeId × Value → H) :
    ReturnsInHanded {} Tryd.checked os 5 .any (fun w args => (Rows.numSumsSpec.pre enc Tryd.prog Tryd.f5 Rows.numSumsRow.domain false w args ∧ laidMetH Tryd.prog Rows.numSumsRow.laid w) ∧ sizedMet enc Tryd.prog Tryd.f5 (OpenSpec.ofChange Rows.numSumsSpec) false w args) (Rows.numSumsSpec.post enc Tryd.prog Tryd.f5 false true false false) :=
  Door.liftedL (C := Tryd.checked) (L := Rows.numSumsRow.laid) (s := Rows.numSumsSpec) own started (by kernel_rfl) Tryd.func5
    (ChangeSpec.witness_shaped (enc := enc) (C := Tryd.checked) (os := os) (X := fun w _ => laidMetH Tryd.prog Rows.numSumsRow.laid w) false (World.doorLaid Tryd.prog 400 os) #[.slice none 0 0] 8 rfl (World.shaped_of_RefB (by kernel_rfl) (by kernel_rfl)) (by kernel_rfl) (by kernel_rfl) (by kernel_rfl) (met os _))
    laidOut (by kernel_rfl) (by kernel_rfl) Tryd.underlying4 rfl (fun ds h => by match ds, h with | [d0], _ => rfl) law
set_option maxRecDepth 100000 in
theorem over : Rows.numSumsRow.holds Tryd.pinned (OpenSpec.ofChange Rows.numSumsSpec) :=
  OpenClaim.holds_of_wide 5 Tryd.f5 rfl rfl rfl rfl rfl rfl rfl ⟨rfl, rfl, rfl, rfl, rfl⟩ rfl rfl rfl rfl rfl (by kernel_rfl) Tryd.func5 (by kernel_rfl)
    (of_decide_eq_true (by kernel_rfl)) (by unfold Func.isWrapper; first | (rw [if_pos (by decide +kernel)]; kernel_rfl) | (rw [if_neg (by decide +kernel)]; exact ⟨rfl, rfl⟩))
    (fun os started H enc _ => step os started H enc)
theorem proved : Rows.NumSumsCardSaid :=
  Claim7.holds_tied_plain_at .later [] Rows.numSumsCard.laidKinds true Rows.numSumsCard.stood.harness Rows.numSumsCard.stood.looks
    over (fun _ h => by cases h) (by kernel_rfl) (fun _ h => by cases h) numSums_row_tie rfl ⟨rfl, rfl⟩ (by kernel_rfl) rfl
    (fun f fn hf hfn => by
      obtain rfl : f = 5 := Option.some.inj ((show Tryd.prog.funcNamed Rows.numSumsRow.func = some 5 by kernel_rfl).symm.trans hf) |>.symm
      obtain rfl : fn = Tryd.f5 := (Option.some.inj (Tryd.func5.symm.trans hfn)).symm
      exact ⟨by kernel_rfl, fun j t ht => by
        have hall : (Tryd.f5.params.toList.all fun u => !Tryd.prog.wantsStandIn u) = true := by kernel_rfl
        exact (show Tryd.prog.wantsStandIn t = false by simpa using List.all_eq_true.1 hall t (Array.mem_toList_iff.2 (Array.mem_of_getElem? ht)))⟩)
    (by kernel_rfl)
#print axioms proved

end Go.Proofs.YtbgakceljbigjaaDoor.NumSums
