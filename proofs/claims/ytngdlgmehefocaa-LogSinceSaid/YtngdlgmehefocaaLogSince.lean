/- For all logs and versions the law 'LogSince' returns true. No condition. -/
import Derived.Test.YtngdlgmehefocaaLogO
namespace Go.Proofs.Ytngdlgmehefocaa.LogSince
open Go.ChangeShapes Go.WideShapes Go.ChangeAt Go.RowKit Go.Proofs.Ytngdlgmehefocaa.Kit Go.Proofs.Ytngdlgmehefocaa.Mem Go.Proofs.Ytngdlgmehefocaa.Log Go.Joins
set_option linter.unusedVariables false
set_option maxHeartbeats 2000000 in
theorem walk {w : World} {A : Option Addr} {n c : Nat} {room last vol ver by_ : Int} {cs : List Chg} (h : LRow w w.heap.size A n cs) (hn : n ≤ c) (hm : c ≤ maxLen) (h47 : n ≤ 140737488351232) (v1 : -9223372036854775808 ≤ vol) (v2 : vol ≤ 9223372036854775807) :
    Calls Try.prog 4 #[.agg #[.int .i64 room, .int .i64 last, .slice A n c], .int .i64 vol, .int .i64 ver, .int .i64 by_] w fun e w' => e = .returned (.bool true) ∧ Below w.heap.size w w' := by
  by_cases h2 : n ≤ 200
  · have H0 := hide (srow_alloc h (Nat.le_refl _) (.cells #[.int .i64 room, .int .i64 last, .slice A n c] 24))
    have S1 := since_any (ver := ver) (c := c) H0.out (by simp) hn hm h47 (room := room) (last := last)
    clear h
    unfold SincePost at S1
    go_enter Try.func4, Try.ntmps4
    go_wp2_with (first | (go_at_call 13; (with_reducible refine S1.mono ?_); rintro e w1 ⟨A1, c1, rfl, hc1', hm1, hrow1, hb1⟩; obtain ⟨hS1, hE1, hz1, hc1, hf1⟩ := bcell hb1; (try simp only [go_sem] at hE1); subst hE1; have HR1 := hide hrow1; clear hrow1 S1; have H1 := hide (srow_below H0.out hb1 (by simp)); have S2 := rsince_any (ver := ver) (c := c) H1.out (by omega) hn hm h47 (room := room) (last := last); unfold SincePost at S2) | (go_at_call 14; (with_reducible refine S2.mono ?_); rintro e w2 ⟨A2, c2, rfl, hc2', hm2, hrow2, hb2⟩; obtain ⟨hS2, hE2, hz2, hc2, hf2⟩ := bcell hb2; (try simp only [go_sem] at hE2); subst hE2; have HR2 := hide hrow2; clear hrow2 S2; have H2 := hide (srow_below H1.out hb2 (by omega)); have S3 := at_any (vol := vol) (ver := ver) (c := c) H2.out (by omega) hn hm h47 v1 v2 (room := room) (last := last)) | (go_at_call 15; (with_reducible refine S3.mono ?_); rintro e w3 ⟨rfl, hb3⟩; obtain ⟨hS3, hE3, hz3, hc3, hf3⟩ := bcell hb3; (try simp only [go_sem] at hE3); subst hE3; clear S3; have H3 := hide (srow_below H2.out hb3 (by omega)); have S4 := rat_any (vol := vol) (ver := ver) (c := c) H3.out (by omega) hn hm h47 v1 v2 (room := room) (last := last)) | (go_at_call 16; (with_reducible refine S4.mono ?_); rintro e w4 ⟨rfl, hb4⟩; obtain ⟨hS4, hE4, hz4, hc4, hf4⟩ := bcell hb4; (try simp only [go_sem] at hE4); subst hE4; clear S4))
    have H4 := hide (srow_below H3.out hb4 (by omega))
    have b14 := (hb2.mono (B := w1.heap.size) (Nat.le_refl _)).trans ((hb3.mono (by omega)).trans (hb4.mono (by omega)))
    have b24 := hb3.trans (hb4.mono (by omega))
    have K1 := hide (srow_below HR1.out b14 (Nat.le_refl _))
    have K2 := hide (srow_below HR2.out b24 (Nat.le_refl _))
    have hlen : (sinceL room last cs ver).1.length ≤ 140737488351232 := by
      have e0 := H0.out.1
      unfold sinceL
      split
      · simp
      · split
        · simp
        · split
          · simp
          · simp; omega
    have HSL := hide (fun (w' : World) (hb : Below w4.heap.size w4 w') => samelist_yes (c := c1) (c2 := c2) (srow_below K1.out hb (by omega)) (srow_below K2.out hb (by omega)) hlen)
    have HN1 := hide (fun (w' : World) (hb : Below w4.heap.size w4 w') => Net_any (room := room) (last := last) (by_ := by_) (c := c) (srow_below H4.out hb (by omega)) (by have := hb.size; omega) h47)
    have HN2 := hide (fun (w' : World) (hb : Below w4.heap.size w4 w') => RNet_any (room := room) (last := last) (by_ := by_) (c := c) (srow_below H4.out hb (by omega)) (by have := hb.size; omega) h47)
    have HB4 := hide (((((Below.refl _ _).alloc (Nat.le_refl _) (.cells #[.int .i64 room, .int .i64 last, .slice A n c] 24)).trans (hb1.mono (by simp))).trans (b14.mono (by omega))))
    clear b14 b24 hlen
    go_wp2_with ((refine wp_region_quiet_below (by kernel_rfl) (by kernel_rfl) ?_; (repeat (first | go_big_quiet_step ((first | (go_at_call 6; exact Calls.regrown_of (lives_any _)) | (go_at_call 17; exact Calls.regrown_of (HSL.out _ (below_regrown _ _ _))) | (go_at_call 18; exact Calls.regrown_of (HN1.out _ (below_regrown _ _ _))) | (go_at_call 19; exact Calls.regrown_of (HN2.out _ (below_regrown _ _ _))))) | quiet_step ((first | (go_at_call 6; exact Calls.regrown_of (lives_any _)) | (go_at_call 17; exact Calls.regrown_of (HSL.out _ (below_regrown _ _ _))) | (go_at_call 18; exact Calls.regrown_of (HN1.out _ (below_regrown _ _ _))) | (go_at_call 19; exact Calls.regrown_of (HN2.out _ (below_regrown _ _ _))))))); refine wpQuiet_nil ?_; intro w1 hw1; have hb := below_of_regrown hw1; clear hw1; obtain ⟨hS, hE, hz, hc, hf⟩ := bcell hb; (try simp only [go_sem] at hE); subst hE))
    go_ret
    exact ⟨rfl, HB4.out.trans (hb.mono (by omega))⟩
  · have g1 : (200 : Int) < n := by omega
    go_enter Try.func4, Try.ntmps4
    go_wp2_with ((go_at_call 6; refine (lives_any _).mono ?_; rintro e w1 ⟨rfl, hb⟩; obtain ⟨hS, hE, hz, hc, hf⟩ := bcell hb; (try simp only [go_sem] at hE); subst hE))
    go_ret
    exact ⟨rfl, (by repeat' (first | (with_reducible exact Below.refl _ _) | (with_reducible refine below_drewN ?_ _) | (with_reducible refine Below.drew ?_) | (with_reducible refine Below.alloc ?_ ?_ _) | (with_reducible refine Below.setCell ?_ ?_ _) | (with_reducible refine below_step ?_ (by assumption) ?_) | go_size))⟩
theorem law : Law Try.checked 4 Try.f4 := by
  intro H enc W base args ds ps hval hA hsz
  have hA1 : DataW.TrodAll enc Try.prog W 0 (fun _ => true) true Try.f4.params.toList args.toList ds ps := hA
  have hw := weightsEach_at (sized_args hsz)
  have hw : ∀ (j : Nat) (t : TypeId) (d : DataW H), Try.f4.params.toList[j]? = some t → ds[j]? = some d → ∀ n ∈ d.weights Try.prog t, n ≤ 140737488351232 := hw
  rw [Try.params4] at hA1 hval hw
  obtain ⟨v0, vs0, d0, ds0, p0, q0, hargs, rfl, rfl, h0, r0⟩ := trodAll_cons hA1
  obtain ⟨v1, vs1, d1, ds1, p1, q1, rfl, rfl, rfl, h1, r1⟩ := trodAll_cons r0
  obtain ⟨v2, vs2, d2, ds2, p2, q2, rfl, rfl, rfl, h2, r2⟩ := trodAll_cons r1
  obtain ⟨v3, vs3, d3, ds3, p3, q3, rfl, rfl, rfl, h3, r3⟩ := trodAll_cons r2
  obtain ⟨rfl, rfl, rfl⟩ := trodAll_nil r3
  obtain rfl : args = #[v0, v1, v2, v3] := by cases args; simp_all
  obtain ⟨⟨cs⟩, rfl, _⟩ := okWide_struct Try.underlying24 (hval 0 _ v0 rfl rfl)
  obtain ⟨room, last, A, n, c, l, e, k1, k2, k3, k4, k5, k6⟩ := rdS_log (rdS_of h0 (hw 0 _ _ rfl rfl))
  have e : cs = _ := e
  subst e
  obtain ⟨n1, rfl, rfl, rfl, wn1⟩ := open_int Try.underlying3 (hval 1 _ v1 rfl rfl) h1
  obtain ⟨n2, rfl, rfl, rfl, wn2⟩ := open_int Try.underlying3 (hval 2 _ v2 rfl rfl) h2
  obtain ⟨n3, rfl, rfl, rfl, wn3⟩ := open_int Try.underlying3 (hval 3 _ v3 rfl rfl) h3
  obtain ⟨b1, b2⟩ := bounds_i64 wn1
  exact walk k4 k1 k2 k3 b1 b2

set_option maxRecDepth 100000 in
theorem step (os : Os) (started : os.Started) (H : Type) (enc : TypeId × Value → H) :
    ReturnsInHanded {} Try.checked os 4 .any (Rows.logSinceSpec.pre6 enc Try.prog Try.f4 Rows.logSinceRow.domain false) (Rows.logSinceSpec.post enc Try.prog Try.f4 false true false false) :=
  lifted (C := Try.checked) (s := Rows.logSinceSpec) own started (by kernel_rfl) Try.func4
    (ChangeSpec.witness6 (enc := enc) (C := Try.checked) false ⟨#[], #[.agg #[.int .i64 0, .int .i64 0, .slice none 0 0], .int .i64 0, .int .i64 0, .int .i64 0], []⟩ 8 (by kernel_rfl) (by kernel_rfl) (by kernel_rfl) (by kernel_rfl))
    laidOut (by kernel_rfl) (by kernel_rfl) Try.underlying4 rfl (fun ds h => by match ds, h with | [d0, d1, d2, d3], _ => rfl) law
set_option maxRecDepth 100000 in
theorem over : Rows.logSinceRow.holds Try.pinned (OpenSpec.ofChange Rows.logSinceSpec) :=
  OpenClaim.holds_of_wide 4 Try.f4 rfl rfl rfl rfl rfl rfl rfl ⟨rfl, rfl, rfl, rfl, rfl⟩ rfl rfl rfl rfl rfl (by kernel_rfl) Try.func4 (by kernel_rfl)
    (of_decide_eq_true (by kernel_rfl)) (by unfold Func.isWrapper; first | (rw [if_pos (by decide +kernel)]; kernel_rfl) | (rw [if_neg (by decide +kernel)]; exact ⟨rfl, rfl⟩))
    (fun os started H enc _ => step os started H enc)
theorem proved : Rows.LogSinceSaid := over
#print axioms proved

end Go.Proofs.Ytngdlgmehefocaa.LogSince
