/- For any bytes and any questions the law 'PackReads' returns true: the reader and its reference answer alike. No condition. -/
import Derived.Test.YtibfjbapicjicabAskA
import Derived.Test.YtibfjbapicjicabArgs
import Derived.CellFam
namespace Go.Proofs.Ytibfjbapicjicab.PackReads
open Go.ChangeShapes Go.WideShapes Go.ChangeAt Go.RowKit Go.Proofs.Ytibfjbapicjicab.Kit Go.Proofs.Ytibfjbapicjicab.Mem Go.Proofs.Ytibfjbapicjicab.Pack Go.Joins Go.Sort
set_option linter.unusedVariables false
/-- Where the reader stands behind a question, and its error. -/
def askP (p e d m : Int) (n : Nat) : Int := if d = 0 ∨ d = 1 then uAt p e m n else if d = 2 then atT p e m n else p
def askE (p e d m : Int) (n : Nat) : Int := if d = 0 ∨ d = 1 then uErr p e m n else if d = 2 then errT p e m n else if d = 3 then endE p e n else failE e m
theorem atT_in (p e m : Int) (n : Nat) (hp : 0 ≤ p ∧ p ≤ n) : 0 ≤ atT p e m n ∧ atT p e m n ≤ n := by
  unfold atT
  split
  · rename_i h
    unfold okT at h
    have := of_decide_eq_true h
    omega
  · exact hp
theorem askP_in (p e d m : Int) (n : Nat) (hp : 0 ≤ p ∧ p ≤ n) : 0 ≤ askP p e d m n ∧ askP p e d m n ≤ n := by
  unfold askP
  split
  · unfold uAt; split
    · exact atT_in p e m n hp
    · exact hp
  · split
    · exact atT_in p e m n hp
    · exact hp
theorem ask_any (g : Nat) (p e d m : Int) (A A0 : Option Addr) (l : List Int) (c c0 : Nat) (w : World)
    (h : RB w g p e A l.length c) (hb : Bytes w g A l.length l) (hb0 : Bytes w g A0 l.length l) (hr : ∀ x ∈ l, 0 ≤ x ∧ x ≤ 255) (hp : 0 ≤ p ∧ p ≤ l.length) (hn : l.length ≤ 1099511627776) (hc : l.length ≤ c) (hcm : c ≤ 9223372036854775807) (hc0 : l.length ≤ c0) (hcm0 : c0 ≤ 9223372036854775807) (hm : -9223372036854775808 ≤ m ∧ m ≤ 9223372036854775807) :
    Calls Try.prog 16 #[.pointer (some ⟨g, 0, none⟩), .agg #[.slice A0 l.length c0, .int .i64 p, .int .i64 e], .agg #[.int .i64 d, .int .i64 m]] w fun en w' =>
      en = .returned (.tuple #[.agg #[.slice A0 l.length c0, .int .i64 (askP p e d m l.length), .int .i64 (askE p e d m l.length)], .bool true]) ∧ RB w' g (askP p e d m l.length) (askE p e d m l.length) A l.length c ∧ w.grownBy w' (some g) := by
  by_cases h0 : d = 0
  · subst h0; exact ask0 g p e m A A0 l c c0 w h hb hb0 hr hp hn hc hcm hc0 hcm0 hm
  · by_cases h1 : d = 1
    · subst h1; exact ask1 g p e m A A0 l c c0 w h hb hb0 hr hp hn hc hcm hc0 hcm0 hm
    · have e1 : askP p e d m l.length = if d = 2 then atT p e m l.length else p := by unfold askP; rw [if_neg (by omega)]
      have e2 : askE p e d m l.length = if d = 2 then errT p e m l.length else if d = 3 then endE p e l.length else failE e m := by unfold askE; rw [if_neg (by omega)]
      rw [e1, e2]
      by_cases h2 : d = 2
      · subst h2; exact ask2 g p e m A A0 l c c0 w h hb hb0 hr hp hn hc hcm hc0 hcm0 hm
      · rw [if_neg h2, if_neg h2]
        by_cases h3 : d = 3
        · subst h3; exact ask3 g p e m A A0 l c c0 w h hb hb0 hr hp hn hc hcm hc0 hcm0 hm
        · rw [if_neg h3]
          exact ask4 g p e d m A A0 l c c0 w h hb hb0 hr hp hn hc hcm hc0 hcm0 hm h0 h1 h2 h3

theorem bytes_set {w : World} {B n b : Nat} {A : Option Addr} {l : List Int} (h : Bytes w B A n l) (hB : B ≤ b) (j : Nat) (u : Value) : Bytes (w.setCell ⟨b, j, none⟩ u) B A n l := ⟨h.1, row_setCell (p := ⟨b, j, none⟩) h.2 hB u⟩
theorem bytes_drew {w : World} {B n : Nat} {A : Option Addr} {l : List Int} (h : Bytes w B A n l) : Bytes w.drew B A n l := ⟨h.1, row_drew h.2⟩
theorem below_up {B g : Nat} {a W w : World} (h : Below B a W) (hu : W.grownBy w (some g)) (hB : B ≤ g) (hs : B ≤ W.heap.size := by first | omega | (simp only [go_sem]; omega)) : Below B a w :=
  ⟨hu.os.trans h.os, hu.tape.trans h.tape, hu.output.trans h.output, Nat.le_trans h.size hu.size, fun k hk => (hu.block k (by omega) (fun e => by injection e with e; omega)).trans (h.block k hk)⟩
set_option maxHeartbeats 1000000
theorem walk_long (A A1 : Option Addr) (n c k c1 : Nat) (w : World) (hn : 1000 < n ∨ 100 < k) : Calls Try.prog 4 #[.slice A n c, .slice A1 k c1] w fun e w' => e = .returned (.bool true) ∧ Below w.heap.size w w' := by
  by_cases h : 1000 < n
  all_goals
    go_enter Try.func4, Try.ntmps4
    go_wp2_with (first | (go_at_call 7; refine (lives_any _).mono ?_; rintro e w1 ⟨rfl, hb⟩; obtain ⟨hS, hE, hz, hc, hf⟩ := bcell hb; (try simp only [go_sem] at hE); subst hE) | (refine wp_region_quiet_below (by kernel_rfl) (by kernel_rfl) ?_; (repeat (first | go_big_quiet_step ((first | (go_at_call 7; exact Calls.regrown_of (lives_any _)))) | quiet_step ((first | (go_at_call 7; exact Calls.regrown_of (lives_any _)))))); refine wpQuiet_nil ?_; intro w1 hw1; have hb := below_of_regrown hw1; clear hw1; obtain ⟨hS, hE, hz, hc, hf⟩ := bcell hb; (try simp only [go_sem] at hE); subst hE))
    go_ret
    exact ⟨rfl, (by repeat' (first | (with_reducible exact Below.refl _ _) | (with_reducible refine below_drewN ?_ _) | (with_reducible refine Below.drew ?_) | (with_reducible refine Below.alloc ?_ ?_ _) | (with_reducible refine Below.setCell ?_ ?_ _) | (with_reducible refine below_step ?_ (by assumption) ?_) | go_size))⟩
theorem walk_short (A A1 : Option Addr) (c k c1 : Nat) (l : List Int) (zs : Nat → Int) (w : World) (hb : Bytes w w.heap.size A l.length l) (hr : ∀ x ∈ l, 0 ≤ x ∧ x ≤ 255) (hn : l.length ≤ 1000) (hk : k ≤ 100) (hc : l.length ≤ c) (hcm : c ≤ 9223372036854775807)
    (hz : Row w w.heap.size A1 (k * 2) (fun j => .int .i64 (zs j))) (hzb : ∀ j, -9223372036854775808 ≤ zs j ∧ zs j ≤ 9223372036854775807) :
    Calls Try.prog 4 #[.slice A l.length c, .slice A1 k c1] w fun e w' => e = .returned (.bool true) ∧ Below w.heap.size w w' := by
  have own0 := own_empty w 5
  have hb0 := bytes_alloc hb (Nat.le_refl _) (.cells #[] 5)
  have HZ := hide hz
  have HZB := hide hzb
  have HB := hide hb
  have HR := hide hr
  clear hz hzb hb hr
  go_enter Try.func4, Try.ntmps4
  go_wp2_with (at_builtin; refine app_u8_0 rfl _ _ rfl w.heap.size _ _ rfl own0 w.heap.size A _ c l rfl hb0 (by omega) (by simp) ?_; intro A2 c2 w1 hown hgrow hbel1 hcap hcm1)
  have hs1 := hbel1.size
  simp only [World.size_alloc] at hs1
  have hb1 : Below w.heap.size w w1 := ((Below.refl _ _).alloc (Nat.le_refl _) _).trans hbel1
  clear hbel1 hgrow own0 hb0
  refine (from_any A2 _ c2 l _ _ (bytes_of_own hown) (Nat.le_refl _) (by omega)).mono ?_
  rintro en w2 ⟨g, A3, c3, rfl, hg2, hrb2, hby2, hb2, hc3, hm3⟩
  have hm3 : c3 ≤ 9223372036854775807 := hm3
  have hgl := (rb_facts hrb2).1
  go_wp2_with fail
  refine (lives_any _).mono ?_
  rintro en w3 ⟨rfl, hb3⟩
  have hrb3 := rb_below hrb2 hb3 hgl
  have hby3 := bytes_below hby2 hb3 (by omega)
  have hs2 := hb2.size
  have hs3 := hb3.size
  have k3 : Below w.heap.size w w3 := (hb1.trans (hb2.mono (by omega))).trans (hb3.mono (by omega))
  have hbA : Bytes w3 w.heap.size A l.length l := bytes_below HB.out k3 (Nat.le_refl _)
  have hzA := HZ.out.below k3
  clear hown hrb2 hby2 hb1 hb2 hb3
  go_wp2_with fail
  have gx0 : (w3.alloc (.cells #[.slice A l.length c, .int .i64 0, .int .i64 0] 37)).cell? ⟨w3.heap.size, 0, none⟩ = some (.slice A l.length c) := by go_simp
  have gx1 : (w3.alloc (.cells #[.slice A l.length c, .int .i64 0, .int .i64 0] 37)).cell? ⟨w3.heap.size, 1, none⟩ = some (.int .i64 0) := by go_simp
  have gx2 : (w3.alloc (.cells #[.slice A l.length c, .int .i64 0, .int .i64 0] 37)).cell? ⟨w3.heap.size, 2, none⟩ = some (.int .i64 0) := by go_simp
  have fx0 : (w3.alloc (.cells #[.slice A l.length c, .int .i64 0, .int .i64 0] 37)).frozen? ⟨w3.heap.size, 0, none⟩ = false := by go_simp
  have fx1 : (w3.alloc (.cells #[.slice A l.length c, .int .i64 0, .int .i64 0] 37)).frozen? ⟨w3.heap.size, 1, none⟩ = false := by go_simp
  have fx2 : (w3.alloc (.cells #[.slice A l.length c, .int .i64 0, .int .i64 0] 37)).frozen? ⟨w3.heap.size, 2, none⟩ = false := by go_simp
  have hrb4 := rb_alloc hrb3 (.cells #[.slice A l.length c, .int .i64 0, .int .i64 0] 37)
  have hby4 := bytes_alloc hby3 (by omega) (.cells #[.slice A l.length c, .int .i64 0, .int .i64 0] 37)
  have k4 := k3.alloc k3.size (.cells #[.slice A l.length c, .int .i64 0, .int .i64 0] 37)
  have hsz4 : w3.heap.size < (w3.alloc (.cells #[.slice A l.length c, .int .i64 0, .int .i64 0] 37)).heap.size := by simp
  have hwg : w.heap.size ≤ g := by omega
  have hg3 : g < w3.heap.size := by omega
  clear hrb3 hby3 k3 hbA hzA
  generalize w3.alloc (.cells #[.slice A l.length c, .int .i64 0, .int .i64 0] 37) = w4 at *
  generalize w3.heap.size = gx at *
  clear hs1 hs2 hs3 hg2 hgl hcap hcm1
  go_loopw [7] (fun s wr => ∃ (i : Nat) (p e : Int), i ≤ k ∧ s = .int .i64 i ∧ (0 ≤ p ∧ p ≤ l.length) ∧ RB wr g p e A3 l.length c3 ∧ Bytes wr g A3 l.length l ∧ gx < wr.heap.size ∧ Below w.heap.size w wr ∧ wr.cell? ⟨gx, 0, none⟩ = some (.slice A l.length c) ∧ wr.cell? ⟨gx, 1, none⟩ = some (.int .i64 p) ∧ wr.cell? ⟨gx, 2, none⟩ = some (.int .i64 e) ∧ wr.frozen? ⟨gx, 0, none⟩ = false ∧ wr.frozen? ⟨gx, 1, none⟩ = false ∧ wr.frozen? ⟨gx, 2, none⟩ = false) (fun s _ => k - (intOf s).toNat)
  case atStart => exact ⟨0, 0, 0, Nat.zero_le _, rfl, ⟨by omega, by omega⟩, hrb4, hby4, hsz4, k4, gx0, gx1, gx2, fx0, fx1, fx2⟩
  case round =>
    obtain ⟨i, p, e, hi, rfl, hp, hrb, hby, hgx, hbw, c0, c1, c2, d0, d1, d2⟩ := hrel
    clear gx0 gx1 gx2 fx0 fx1 fx2 hrb4 hby4 k4 hsz4
    by_cases hlt : i < k
    · obtain ⟨b, off, rfl, hb0, hcell⟩ := HZ.out (by omega)
      have hcw : ∀ j, j < k * 2 → wr.cell? ⟨b, off + j, none⟩ = some (.int .i64 (zs j)) := fun j hj => (hbw.cell (p := ⟨b, off + j, none⟩) hb0).trans (hcell j hj)
      clear hcell
      have hbl : b < wr.heap.size := Nat.lt_of_lt_of_le hb0 hbw.size
      have hin := askP_in p e (zs (i * 2)) (zs (i * 2 + 1)) l.length hp
      have HBA : Bytes wr g A l.length l := bytes_more (bytes_below HB.out hbw (Nat.le_refl _)) hwg
      have HRB := hide hrb
      have HBY := hide hby
      have HBA := hide HBA
      have hwz := hbw.size
      have HBW := hide hbw
      clear hrb hby hbw
      go_wp2
      go_region_with (first | (go_at_call 16; refine (ask_any g p e _ _ A3 A l c3 c _ (rb_drew HRB.out) HBY.out HBA.out HR.out hp (by omega) hc3 hm3 hc hcm (HZB.out _)).mono ?_; rintro en w5 ⟨rfl, hR3, hu⟩; have HR3 := hide hR3; clear hR3; have HY3 := hide (bytes_up (bytes_drew HBY.out) hu (Nat.le_refl _) (by first | omega | (simp only [go_sem]; omega))); have HW3 := hide (below_up (HBW.out.drew) hu hwg); obtain ⟨hS2, hE2, hz2, hC2, hF2⟩ := ucell hu; (try simp only [go_sem] at hE2); subst hE2) | (go_at_call 16; refine (ask_any g p e _ _ A3 A l c3 c _ (rb_drew (rb_alloc HRB.out _)) (bytes_alloc HBY.out (by omega) _) (bytes_alloc HBA.out (by omega) _) HR.out hp (by omega) hc3 hm3 hc hcm (HZB.out _)).mono ?_; rintro en w5 ⟨rfl, hR3, hu⟩; have HR3 := hide hR3; clear hR3; have HY3 := hide (bytes_up (bytes_drew (bytes_alloc HBY.out (by omega) _)) hu (Nat.le_refl _) (by first | omega | (simp only [go_sem]; omega))); have HW3 := hide (below_up ((HBW.out.alloc hwz _).drew) hu hwg); obtain ⟨hS2, hE2, hz2, hC2, hF2⟩ := ucell hu; (try simp only [go_sem] at hE2); subst hE2))
      all_goals
        go_wp2
        generalize askP p e (zs (i * 2)) (zs (i * 2 + 1)) l.length = q at *
        generalize askE p e (zs (i * 2)) (zs (i * 2 + 1)) l.length = f at *
        (refine wp_region_quiet_below (by kernel_rfl) (by kernel_rfl) ?_; (repeat (first | go_big_quiet_step ((first | (go_at_call 17; exact Calls.regrown_of (below_of_same (at_eq g q f A3 l.length c3 _ (rb_below (by (repeat (with_reducible refine rb_far ?_ (by omega) _ _)); (first | exact HR3.out | exact rb_alloc HR3.out _)) (below_regrown _ _ _) (by simp only [go_sem]; omega))))) | (go_at_call 14; exact Calls.regrown_of (below_of_same (err_eq g q f A3 l.length c3 _ (rb_below (by (repeat (with_reducible refine rb_far ?_ (by omega) _ _)); (first | exact HR3.out | exact rb_alloc HR3.out _)) (below_regrown _ _ _) (by simp only [go_sem]; omega))))) | (go_at_call 15; exact Calls.regrown_of (left_bel g q f A3 l.length c3 _ (rb_below (by (repeat (with_reducible refine rb_far ?_ (by omega) _ _)); (first | exact HR3.out | exact rb_alloc HR3.out _)) (below_regrown _ _ _) (by simp only [go_sem]; omega)) hin (by omega))))) | quiet_step ((first | (go_at_call 17; exact Calls.regrown_of (below_of_same (at_eq g q f A3 l.length c3 _ (rb_below (by (repeat (with_reducible refine rb_far ?_ (by omega) _ _)); (first | exact HR3.out | exact rb_alloc HR3.out _)) (below_regrown _ _ _) (by simp only [go_sem]; omega))))) | (go_at_call 14; exact Calls.regrown_of (below_of_same (err_eq g q f A3 l.length c3 _ (rb_below (by (repeat (with_reducible refine rb_far ?_ (by omega) _ _)); (first | exact HR3.out | exact rb_alloc HR3.out _)) (below_regrown _ _ _) (by simp only [go_sem]; omega))))) | (go_at_call 15; exact Calls.regrown_of (left_bel g q f A3 l.length c3 _ (rb_below (by (repeat (with_reducible refine rb_far ?_ (by omega) _ _)); (first | exact HR3.out | exact rb_alloc HR3.out _)) (below_regrown _ _ _) (by simp only [go_sem]; omega)) hin (by omega))))))); refine wpQuiet_nil ?_; intro w1 hw1; have hb := below_of_regrown hw1; clear hw1; obtain ⟨hS, hE, hz, hc, hf⟩ := bcell hb; (try simp only [go_sem] at hE); subst hE)
        have hbq := hb
        go_wp2
        go_roundw
        case rel =>
          refine ⟨i + 1, q, f, by omega, by go_num, hin, rb_below (by (repeat (with_reducible refine rb_far ?_ (by omega) _ _)); (first | exact HR3.out | exact rb_alloc HR3.out _)) hbq (by simp only [go_sem]; omega), bytes_below (by (repeat (with_reducible refine bytes_set ?_ (by omega) _ _)); (first | exact HY3.out | exact bytes_alloc HY3.out (by omega) _)) hbq (by simp only [go_sem]; omega), by omega, ?_, by go_simp, by go_simp, by go_simp, by go_simp, by go_simp, by go_simp⟩
          refine below_step ?_ hbq (by simp only [go_sem]; omega)
          repeat (with_reducible refine Below.setCell ?_ (by simp only [go_sem]; omega) _)
          first | exact HW3.out | exact HW3.out.alloc (by omega) _
        case measure => simp [intOf]; omega
    · go_wp2
      go_ret
      exact ⟨rfl, hbw⟩
theorem walk (A A1 : Option Addr) (n c k c1 : Nat) (l : List Int) (zs : Nat → Int) (w : World) (hb : Bytes w w.heap.size A n l) (hr : ∀ x ∈ l, 0 ≤ x ∧ x ≤ 255) (hc : n ≤ c) (hcm : c ≤ 9223372036854775807)
    (hz : Row w w.heap.size A1 (k * 2) (fun j => .int .i64 (zs j))) (hzb : ∀ j, -9223372036854775808 ≤ zs j ∧ zs j ≤ 9223372036854775807) :
    Calls Try.prog 4 #[.slice A n c, .slice A1 k c1] w fun e w' => e = .returned (.bool true) ∧ Below w.heap.size w w' := by
  by_cases hn : 1000 < n ∨ 100 < k
  · exact walk_long A A1 n c k c1 w hn
  · have hl := hb.1
    subst hl
    exact walk_short A A1 c k c1 l zs w hb hr (by omega) (by omega) hc hcm hz hzb
theorem law : Law Try.checked 4 Try.f4 := by
  intro H enc W base args ds ps hval hA _
  have hA1 : DataW.TrodAll enc Try.prog W 0 (fun _ => true) true Try.f4.params.toList args.toList ds ps := hA
  rw [Try.params4] at hA1 hval
  obtain ⟨v0, vs0, d0, ds0, p0, q0, hargs, rfl, rfl, h0, r0⟩ := trodAll_cons hA1
  obtain ⟨v1, vs1, d1, ds1, p1, q1, rfl, rfl, rfl, h1, r1⟩ := trodAll_cons r0
  obtain ⟨rfl, rfl, rfl⟩ := trodAll_nil r1
  obtain rfl : args = #[v0, v1] := by cases args; simp_all
  obtain ⟨A, len, cap, zs, rfl, hl, hm, hzl, hrow, hwf⟩ := arg_row Try.underlying22 Try.underlying5 (by kernel_rfl) (hval 0 _ v0 rfl rfl) h0
  obtain ⟨A1, k, c1, ys, rfl, _, _, hrow1, hyb⟩ := arg_rowI Try.underlying35 Try.underlying41 (by kernel_rfl) (by kernel_rfl) (by decide) (fun j f hj => by
    match j, hj with
    | 0, hj => injection hj with hj; subst hj; exact Try.underlying3
    | 1, hj => injection hj with hj; subst hj; exact Try.underlying3) (hval 1 _ v1 rfl rfl) h1
  exact walk A A1 len cap k c1 zs ys W ⟨hzl, hrow⟩ (fun x hx => bounds_u8 (hwf x hx)) hl hm hrow1 hyb

set_option maxRecDepth 100000 in
theorem step (os : Os) (started : os.Started) (H : Type) (enc : TypeId × Value → H) :
    ReturnsInHanded {} Try.checked os 4 .any (Rows.packReadsSpec.pre6 enc Try.prog Try.f4 Rows.packReadsRow.domain false) (Rows.packReadsSpec.post enc Try.prog Try.f4 false true false false) :=
  lifted (C := Try.checked) (s := Rows.packReadsSpec) own started (by kernel_rfl) Try.func4
    (ChangeSpec.witness6 (enc := enc) (C := Try.checked) false ⟨#[], #[.slice none 0 0, .slice none 0 0], []⟩ 8 (by kernel_rfl) (by kernel_rfl) (by kernel_rfl) (by kernel_rfl))
    laidOut (by kernel_rfl) (by kernel_rfl) Try.underlying4 rfl (fun ds h => by match ds, h with | [d0, d1], _ => rfl) law
set_option maxRecDepth 100000 in
theorem over : Rows.packReadsRow.holds Try.pinned (OpenSpec.ofChange Rows.packReadsSpec) :=
  OpenClaim.holds_of_wide 4 Try.f4 rfl rfl rfl rfl rfl rfl rfl ⟨rfl, rfl, rfl, rfl, rfl⟩ rfl rfl rfl rfl rfl (by kernel_rfl) Try.func4 (by kernel_rfl)
    (of_decide_eq_true (by kernel_rfl)) (by unfold Func.isWrapper; first | (rw [if_pos (by decide +kernel)]; kernel_rfl) | (rw [if_neg (by decide +kernel)]; exact ⟨rfl, rfl⟩))
    (fun os started H enc _ => step os started H enc)
theorem proved : Rows.PackReadsSaid := over
#print axioms proved

end Go.Proofs.Ytibfjbapicjicab.PackReads
