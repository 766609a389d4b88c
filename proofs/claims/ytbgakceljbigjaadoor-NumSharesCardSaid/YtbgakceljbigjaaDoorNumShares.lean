/- For any number, any count of parts and any of them the law 'NumShares' returns true. Condition: the library's three tables are as the row lists them (tied to the program's text by the card). -/
import Derived.Test.YtbgakceljbigjaaDoorNumV
namespace Go.Proofs.YtbgakceljbigjaaDoor.NumShares
open Go.ChangeShapes Go.WideShapes Go.ChangeAt Go.RowKit Go.Proofs.YtbgakceljbigjaaDoor.Kit Go.Proofs.YtbgakceljbigjaaDoor.Num Go.Deep Go.Proofs.YtbgakceljbigjaaDoor.Door
set_option linter.unusedVariables false
theorem part_step (X n p : Int) (hp : 0 < p) : n / p ≤ (X + n) / p - X / p ∧ (X + n) / p - X / p ≤ n / p + 1 := by
  have e1 := Int.mul_ediv_add_emod X p
  have e2 := Int.mul_ediv_add_emod n p
  have x0 := Int.emod_nonneg X (show p ≠ 0 by omega)
  have x1 := Int.emod_lt_of_pos X hp
  have n0 := Int.emod_nonneg n (show p ≠ 0 by omega)
  have n1 := Int.emod_lt_of_pos n hp
  have e3 : X + n = (X % p + n % p) + (X / p + n / p) * p := by rw [Int.add_mul, Int.mul_comm (X / p), Int.mul_comm (n / p)]; omega
  rw [show (X + n) / p = (X % p + n % p) / p + (X / p + n / p) by
    conv => lhs; rw [e3]
    rw [Int.add_mul_ediv_right _ _ (by omega)]]
  have h0 : 0 ≤ (X % p + n % p) / p := Int.ediv_nonneg (by omega) (by omega)
  have h1 : (X % p + n % p) / p < 2 := Int.ediv_lt_of_lt_mul hp (by omega)
  omega
set_option maxHeartbeats 1000000 in
theorem walk (n p i : Int) (hn : In64 n) (hp : In64 p) (w : World) (h : Pow w) : Calls Tryd.prog 3 #[.int .i64 n, .int .i64 p, .int .i64 i] w fun e w' => e = .returned (.bool true) ∧ Below w.heap.size w w' := by
  have HP := hide h
  have S1 := fun w => share_any n p i w
  have S2 := fun w => rshare_any n p i w
  clear h
  generalize shareN n p i = x at *
  by_cases ho : n < 0 ∨ 1099511627776 < n ∨ p < 1 ∨ 65536 < p
  · have ho : n < 0 ∨ (¬ n < 0 ∧ 1099511627776 < n) ∨ (¬ n < 0 ∧ ¬ 1099511627776 < n ∧ p < 1) ∨ (¬ n < 0 ∧ ¬ 1099511627776 < n ∧ ¬ p < 1 ∧ 65536 < p) := by omega
    rcases ho with h1 | ⟨h1, h2⟩ | ⟨h1, h2, h3⟩ | ⟨h1, h2, h3, h4⟩
    all_goals
      go_enter Tryd.func3, Tryd.ntmps3
      go_wp2_with (first | (go_at_call 9; refine (lives_any _ (HP.out.below (B := w.heap.size) (by repeat' (first | (with_reducible exact Below.refl _ _) | (with_reducible refine below_drewN ?_ _) | (with_reducible refine Below.drew ?_) | (with_reducible refine Below.alloc ?_ ?_ _) | (with_reducible refine Below.setCell ?_ ?_ _) | (with_reducible refine below_step ?_ (by assumption) ?_) | go_size)) (by omega))).mono ?_; rintro e w1 ⟨rfl, hb⟩; obtain ⟨hS, hE, hz, hc, hf⟩ := bcell hb; (try simp only [go_sem] at hE); subst hE) | (go_at_call 8; refine (S1 _).mono ?_; rintro e w1 ⟨rfl, hb⟩; obtain ⟨hS, hE, hz, hc, hf⟩ := bcell hb; (try simp only [go_sem] at hE); subst hE) | (go_at_call 10; refine (S2 _).mono ?_; rintro e w1 ⟨rfl, hb⟩; obtain ⟨hS, hE, hz, hc, hf⟩ := bcell hb; (try simp only [go_sem] at hE); subst hE) | (refine wp_region_quiet_below (by kernel_rfl) (by kernel_rfl) ?_; (repeat (first | go_big_quiet_step ((first | (go_at_call 9; exact Calls.regrown_of (lives_any _ (HP.out.below (B := w.heap.size) (by repeat' (first | (with_reducible exact Below.refl _ _) | (with_reducible refine below_drewN ?_ _) | (with_reducible refine Below.drew ?_) | (with_reducible refine Below.alloc ?_ ?_ _) | (with_reducible refine Below.setCell ?_ ?_ _) | (with_reducible refine below_step ?_ (by assumption) ?_) | go_size)) (by omega)))) | (go_at_call 8; exact Calls.regrown_of (S1 _)) | (go_at_call 10; exact Calls.regrown_of (S2 _)))) | quiet_step ((first | (go_at_call 9; exact Calls.regrown_of (lives_any _ (HP.out.below (B := w.heap.size) (by repeat' (first | (with_reducible exact Below.refl _ _) | (with_reducible refine below_drewN ?_ _) | (with_reducible refine Below.drew ?_) | (with_reducible refine Below.alloc ?_ ?_ _) | (with_reducible refine Below.setCell ?_ ?_ _) | (with_reducible refine below_step ?_ (by assumption) ?_) | go_size)) (by omega)))) | (go_at_call 8; exact Calls.regrown_of (S1 _)) | (go_at_call 10; exact Calls.regrown_of (S2 _)))))); refine wpQuiet_nil ?_; intro w1 hw1; have hb := below_of_regrown hw1; clear hw1; obtain ⟨hS, hE, hz, hc, hf⟩ := bcell hb; (try simp only [go_sem] at hE); subst hE))
      go_ret
      exact ⟨rfl, (by repeat' (first | (with_reducible exact Below.refl _ _) | (with_reducible refine below_drewN ?_ _) | (with_reducible refine Below.drew ?_) | (with_reducible refine Below.alloc ?_ ?_ _) | (with_reducible refine Below.setCell ?_ ?_ _) | (with_reducible refine below_step ?_ (by assumption) ?_) | go_size))⟩
  obtain ⟨n0, n1, p0, p1⟩ : 0 ≤ n ∧ n ≤ 1099511627776 ∧ 1 ≤ p ∧ p ≤ 65536 := by omega
  clear ho
  obtain ⟨P, rfl⟩ : ∃ P : Nat, p = P := ⟨p.toNat, by omega⟩
  have SK : Hid (∀ k : Nat, k < P → ∀ w, Calls Tryd.prog 8 #[.int .i64 n, .int .i64 P, .int .i64 k] w fun e w' => e = .returned (.int .i64 (((k : Int) + 1) * n / P - (k : Int) * n / P)) ∧ Below w.heap.size w w') := hide (fun k hk w => by
    have h := share_any n P k w
    unfold shareN at h
    rw [if_neg (by omega)] at h
    exact h)
  have hq0 : (P : Int) ≠ 0 := by omega
  have dq : Int.tdiv n P = n / P := Int.tdiv_eq_ediv_of_nonneg n0
  obtain ⟨qq0, qq1⟩ := part_bd (i := 1) n0 n1 p0 (by omega) (by omega)
  rw [Int.one_mul] at qq0 qq1
  have wq : IntKind.i64.wrap (n / P) = n / P := IntWalk.i64_in _ (by omega)
  have wq1 : IntKind.i64.wrap (n / P + 1) = n / P + 1 := IntWalk.i64_in _ (by omega)
  have HEND : Hid ((P : Int) * n / P = n) := hide (Int.mul_ediv_cancel_left _ hq0)
  have HSTEP : Hid (∀ k : Nat, k < P → 0 ≤ (k : Int) * n / P ∧ (k : Int) * n / P ≤ 1099511627776 ∧ 0 ≤ ((k : Int) + 1) * n / P ∧ ((k : Int) + 1) * n / P ≤ 1099511627776 ∧ n / P ≤ ((k : Int) + 1) * n / P - (k : Int) * n / P ∧ ((k : Int) + 1) * n / P - (k : Int) * n / P ≤ n / P + 1) := hide (fun k hk => by
    obtain ⟨a1, a2⟩ := part_bd (i := (k : Int)) n0 n1 p0 (by omega) (by omega)
    obtain ⟨b1, b2⟩ := part_bd (i := (k : Int) + 1) n0 n1 p0 (by omega) (by omega)
    have hs := part_step ((k : Int) * n) n P (by omega)
    rw [show (k : Int) * n + n = ((k : Int) + 1) * n by rw [Int.add_mul, Int.one_mul]] at hs
    exact ⟨a1, a2, b1, b2, hs.1, hs.2⟩)
  generalize hQ : n / P = Q at *
  go_enter Tryd.func3, Tryd.ntmps3
  go_wp2_with (first | (go_at_call 9; refine (lives_any _ (HP.out.below (B := w.heap.size) (by repeat' (first | (with_reducible exact Below.refl _ _) | (with_reducible refine below_drewN ?_ _) | (with_reducible refine Below.drew ?_) | (with_reducible refine Below.alloc ?_ ?_ _) | (with_reducible refine Below.setCell ?_ ?_ _) | (with_reducible refine below_step ?_ (by assumption) ?_) | go_size)) (by omega))).mono ?_; rintro e w1 ⟨rfl, hb⟩; obtain ⟨hS, hE, hz, hc, hf⟩ := bcell hb; (try simp only [go_sem] at hE); subst hE) | (go_at_call 8; refine (S1 _).mono ?_; rintro e w1 ⟨rfl, hb⟩; obtain ⟨hS, hE, hz, hc, hf⟩ := bcell hb; (try simp only [go_sem] at hE); subst hE) | (go_at_call 10; refine (S2 _).mono ?_; rintro e w1 ⟨rfl, hb⟩; obtain ⟨hS, hE, hz, hc, hf⟩ := bcell hb; (try simp only [go_sem] at hE); subst hE) | (refine wp_region_quiet_below (by kernel_rfl) (by kernel_rfl) ?_; (repeat (first | go_big_quiet_step ((first | (go_at_call 9; exact Calls.regrown_of (lives_any _ (HP.out.below (B := w.heap.size) (by repeat' (first | (with_reducible exact Below.refl _ _) | (with_reducible refine below_drewN ?_ _) | (with_reducible refine Below.drew ?_) | (with_reducible refine Below.alloc ?_ ?_ _) | (with_reducible refine Below.setCell ?_ ?_ _) | (with_reducible refine below_step ?_ (by assumption) ?_) | go_size)) (by omega)))) | (go_at_call 8; exact Calls.regrown_of (S1 _)) | (go_at_call 10; exact Calls.regrown_of (S2 _)))) | quiet_step ((first | (go_at_call 9; exact Calls.regrown_of (lives_any _ (HP.out.below (B := w.heap.size) (by repeat' (first | (with_reducible exact Below.refl _ _) | (with_reducible refine below_drewN ?_ _) | (with_reducible refine Below.drew ?_) | (with_reducible refine Below.alloc ?_ ?_ _) | (with_reducible refine Below.setCell ?_ ?_ _) | (with_reducible refine below_step ?_ (by assumption) ?_) | go_size)) (by omega)))) | (go_at_call 8; exact Calls.regrown_of (S1 _)) | (go_at_call 10; exact Calls.regrown_of (S2 _)))))); refine wpQuiet_nil ?_; intro w1 hw1; have hb := below_of_regrown hw1; clear hw1; obtain ⟨hS, hE, hz, hc, hf⟩ := bcell hb; (try simp only [go_sem] at hE); subst hE))
  have HW1 := hide (show Below w.heap.size w w1 from (by repeat' (first | (with_reducible exact Below.refl _ _) | (with_reducible refine below_drewN ?_ _) | (with_reducible refine Below.drew ?_) | (with_reducible refine Below.alloc ?_ ?_ _) | (with_reducible refine Below.setCell ?_ ?_ _) | (with_reducible refine below_step ?_ (by assumption) ?_) | go_size)))
  clear hb hc hf hz S1 S2
  go_loopw [8, 9] (fun t i wr => ∃ k : Nat, k ≤ P ∧ i = .int .i64 k ∧ t = .int .i64 ((k : Int) * n / P) ∧ Below w.heap.size w wr) (fun _ i _ => P - (intOf i).toNat)
  case atStart => exact ⟨0, Nat.zero_le _, rfl, by simp, HW1.out⟩
  case round =>
    obtain ⟨k, hk, rfl, rfl, hbw⟩ := hrel
    have HBW := hide hbw
    have hwz := hbw.size
    clear hbw
    rcases Nat.lt_or_eq_of_le hk with hlt | rfl
    · obtain ⟨s1, s2, s3, s4, s5, s6⟩ := HSTEP.out k hlt
      have C := SK.out k hlt
      have HN := hide (show ((k + 1 : Nat) : Int) * n / P = ((k : Int) + 1) * n / P by rw [Int.natCast_add]; rfl)
      clear HSTEP SK
      generalize (k : Int) * n / P = A at *
      generalize ((k : Int) + 1) * n / P = B at *
      generalize hy : B - A = y at *
      have ws : IntKind.i64.wrap (A + y) = B := by rw [show A + y = B by omega]; exact IntWalk.i64_in _ (by omega)
      go_wp2_with (first | (go_at_call 8; refine (C _).mono ?_; rintro e w1 ⟨rfl, hb⟩; obtain ⟨hS, hE, hz, hc, hf⟩ := bcell hb; (try simp only [go_sem] at hE); subst hE) | (refine wp_region_quiet_below (by kernel_rfl) (by kernel_rfl) ?_; (repeat (first | go_big_quiet_step ((first | (go_at_call 8; exact Calls.regrown_of (C _)))) | quiet_step ((first | (go_at_call 8; exact Calls.regrown_of (C _)))))); refine wpQuiet_nil ?_; intro w1 hw1; have hb := below_of_regrown hw1; clear hw1; obtain ⟨hS, hE, hz, hc, hf⟩ := bcell hb; (try simp only [go_sem] at hE); subst hE))
      refine ⟨⟨k + 1, by omega, by go_num, by rw [HN.out], ?_⟩, by simp [intOf]; omega⟩
      exact below_step HBW.out hb hwz
    · have hend := HEND.out
      clear HSTEP SK HEND
      go_wp2
      go_ret
      exact ⟨rfl, HBW.out⟩
theorem law : LawL Tryd.checked Rows.numSharesRow.laid 3 Tryd.f3 := by
  intro H enc W base args ds ps hval hA _ hL
  have hA1 : DataW.TrodAll enc Tryd.prog W 0 (fun _ => true) true Tryd.f3.params.toList args.toList ds ps := hA
  rw [Tryd.params3] at hA1 hval
  obtain ⟨v0, vs0, d0, ds0, p0, q0, hargs, rfl, rfl, h0, r0⟩ := trodAll_cons hA1
  obtain ⟨v1, vs1, d1, ds1, p1, q1, rfl, rfl, rfl, h1, r1⟩ := trodAll_cons r0
  obtain ⟨v2, vs2, d2, ds2, p2, q2, rfl, rfl, rfl, h2, r2⟩ := trodAll_cons r1
  obtain ⟨rfl, rfl, rfl⟩ := trodAll_nil r2
  obtain rfl : args = #[v0, v1, v2] := by cases args; simp_all
  obtain ⟨a0, rfl, rfl, rfl, w0⟩ := open_int Tryd.underlying3 (hval 0 _ v0 rfl rfl) h0
  obtain ⟨a1, rfl, rfl, rfl, w1⟩ := open_int Tryd.underlying3 (hval 1 _ v1 rfl rfl) h1
  obtain ⟨a2, rfl, rfl, rfl, w2⟩ := open_int Tryd.underlying3 (hval 2 _ v2 rfl rfl) h2
  exact walk a0 a1 a2 (bounds_i64 w0) (bounds_i64 w1) W (pow_laid hL)

set_option maxRecDepth 100000 in
theorem met : Door.Met Rows.numSharesRow.laid := fun os args =>
  laidMetH_of_parts3 (fuel := 8) (laidMet_of_run' 8 (by kernel_rfl) (by kernel_rfl)) (by kernel_rfl) (by kernel_rfl)
set_option maxRecDepth 100000 in
theorem step (os : Os) (started : os.Started) (H : Type) (enc : TypeId × Value → H) :
    ReturnsInHanded {} Tryd.checked os 3 .any (fun w args => (Rows.numSharesSpec.pre enc Tryd.prog Tryd.f3 Rows.numSharesRow.domain false w args ∧ laidMetH Tryd.prog Rows.numSharesRow.laid w) ∧ sizedMet enc Tryd.prog Tryd.f3 (OpenSpec.ofChange Rows.numSharesSpec) false w args) (Rows.numSharesSpec.post enc Tryd.prog Tryd.f3 false true false false) :=
  Door.liftedL (C := Tryd.checked) (L := Rows.numSharesRow.laid) (s := Rows.numSharesSpec) own started (by kernel_rfl) Tryd.func3
    (ChangeSpec.witness_shaped (enc := enc) (C := Tryd.checked) (os := os) (X := fun w _ => laidMetH Tryd.prog Rows.numSharesRow.laid w) false (World.doorLaid Tryd.prog 400 os) #[.int .i64 0, .int .i64 0, .int .i64 0] 8 rfl (World.shaped_of_RefB (by kernel_rfl) (by kernel_rfl)) (by kernel_rfl) (by kernel_rfl) (by kernel_rfl) (met os _))
    laidOut (by kernel_rfl) (by kernel_rfl) Tryd.underlying4 rfl (fun ds h => by match ds, h with | [d0, d1, d2], _ => rfl) law
set_option maxRecDepth 100000 in
theorem over : Rows.numSharesRow.holds Tryd.pinned (OpenSpec.ofChange Rows.numSharesSpec) :=
  OpenClaim.holds_of_wide 3 Tryd.f3 rfl rfl rfl rfl rfl rfl rfl ⟨rfl, rfl, rfl, rfl, rfl⟩ rfl rfl rfl rfl rfl (by kernel_rfl) Tryd.func3 (by kernel_rfl)
    (of_decide_eq_true (by kernel_rfl)) (by unfold Func.isWrapper; first | (rw [if_pos (by decide +kernel)]; kernel_rfl) | (rw [if_neg (by decide +kernel)]; exact ⟨rfl, rfl⟩))
    (fun os started H enc _ => step os started H enc)
theorem proved : Rows.NumSharesCardSaid :=
  Claim7.holds_tied_plain_at .later [] Rows.numSharesCard.laidKinds true Rows.numSharesCard.stood.harness Rows.numSharesCard.stood.looks
    over (fun _ h => by cases h) (by kernel_rfl) (fun _ h => by cases h) numShares_row_tie rfl ⟨rfl, rfl⟩ (by kernel_rfl) rfl
    (fun f fn hf hfn => by
      obtain rfl : f = 3 := Option.some.inj ((show Tryd.prog.funcNamed Rows.numSharesRow.func = some 3 by kernel_rfl).symm.trans hf) |>.symm
      obtain rfl : fn = Tryd.f3 := (Option.some.inj (Tryd.func3.symm.trans hfn)).symm
      exact ⟨by kernel_rfl, fun j t ht => by
        have hall : (Tryd.f3.params.toList.all fun u => !Tryd.prog.wantsStandIn u) = true := by kernel_rfl
        exact (show Tryd.prog.wantsStandIn t = false by simpa using List.all_eq_true.1 hall t (Array.mem_toList_iff.2 (Array.mem_of_getElem? ht)))⟩)
    (by kernel_rfl)
#print axioms proved

end Go.Proofs.YtbgakceljbigjaaDoor.NumShares
