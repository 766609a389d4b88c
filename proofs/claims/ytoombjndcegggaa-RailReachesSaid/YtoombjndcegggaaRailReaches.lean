/- For all borders, every place and every reach the law 'RailReaches' returns true. No condition. -/
import Derived.Test.YtoombjndcegggaaRailG
namespace Go.Proofs.Ytoombjndcegggaa.RailReaches
open Go.ChangeShapes Go.WideShapes Go.ChangeAt Go.RowKit Go.Proofs.Ytoombjndcegggaa.Kit Go.Proofs.Ytoombjndcegggaa.Mem Go.Proofs.Ytoombjndcegggaa.Flt Go.Proofs.Ytoombjndcegggaa.Rail Go.Joins
set_option linter.unusedVariables false
set_option maxHeartbeats 2000000 in
theorem walk {l : List Nat} {A : Option Addr} {B0 : Nat} {w : World} (hr : FRow w B0 A l) (hB : B0 ≤ w.heap.size) (c : Nat) (hcap : l.length ≤ c) (x r : Nat) (hx : x < 18446744073709551616) (hr64 : r < 18446744073709551616) :
    Calls Try.prog 5 #[.slice A l.length c, .float .f64 x, .float .f64 r] w fun e w' => e = .returned (.bool true) ∧ Below w.heap.size w w' := by
  have hlen := hr.len
  by_cases h60 : 60 < l.length
  · go_enter Try.func5, Try.ntmps5
    go_wp2_with (first | (go_at_call 7; refine (lives_any _).mono ?_; rintro e w1 ⟨rfl, hb⟩; obtain ⟨hS, hE, hz, hc, hf⟩ := bcell hb; (try simp only [go_sem] at hE); subst hE) | (refine wp_region_quiet_below (by kernel_rfl) (by kernel_rfl) ?_; (repeat (first | go_big_quiet_step ((first | (go_at_call 7; exact Calls.regrown_of (lives_any _)))) | quiet_step ((first | (go_at_call 7; exact Calls.regrown_of (lives_any _)))))); refine wpQuiet_nil ?_; intro w1 hw1; have hb := below_of_regrown hw1; clear hw1; obtain ⟨hS, hE, hz, hc, hf⟩ := bcell hb; (try simp only [go_sem] at hE); subst hE))
    go_ret
    exact ⟨rfl, (by repeat' (first | (with_reducible exact Below.refl _ _) | (with_reducible refine below_drewN ?_ _) | (with_reducible refine Below.drew ?_) | (with_reducible refine Below.alloc ?_ ?_ _) | (with_reducible refine Below.setCell ?_ ?_ _) | (with_reducible refine below_step ?_ (by assumption) ?_) | go_size))⟩
  by_cases hok : (reachS l x r).2.2 = 0
  · obtain ⟨a, b, ha, hb, h0, n1, n2, hk, h1, h2, e⟩ := reachS_ok hok
    have hg := good_of l h0
    have na := (sub_ok ha).nz
    have nb := (add_ok hb).nz
    have hab := sub_le_add ha hb hk
    have hlh := lo_hi hg na nb hab h1
    have ht : ∀ k, loS l a ≤ k → k ≤ hiS l b → touchB l k a b = true := fun k k1 k2 => (touch_iff hg na nb hab h1 h2 k (by omega)).2 ⟨k1, k2⟩
    have hown : ∀ k : Nat, (laneS l x).2 = 0 → (laneS l x).1 = (k : Int) → loS l a ≤ k ∧ k ≤ hiS l b := fun k hz hk1 => by
      obtain ⟨k', e', _, hk', _, _⟩ := lane_law hz
      rw [e'] at hk1
      have hk1 : (k' : Int) = k := hk1
      obtain rfl : k' = k := by omega
      exact own_lane hg ha hb n1 hk hk'
    have a1 : ∀ {w : World} {A : Option Addr}, FRow w B0 A l → B0 ≤ w.heap.size → Calls Try.prog 15 #[.slice A l.length c, .float .f64 x, .float .f64 r] w fun en w' => en = .returned (.tuple #[.agg #[.int .i64 (loS l a), .int .i64 (hiS l b)], .int .i64 0]) ∧ Below w.heap.size w w' := fun h h2 => by have := reach_any h h2 c hcap x r hx hr64; rwa [e] at this
    have a2 : ∀ {w : World} {A : Option Addr}, FRow w B0 A l → B0 ≤ w.heap.size → Calls Try.prog 16 #[.slice A l.length c, .float .f64 x, .float .f64 r] w fun en w' => en = .returned (.tuple #[.agg #[.int .i64 (loS l a), .int .i64 (hiS l b)], .int .i64 0]) ∧ Below w.heap.size w w' := fun h h2 => by have := rreach_any h h2 c x r hx hr64; rwa [e] at this
    have k1 := fun t w => run_ok_sub (P := Try.prog) ha t w
    have k2 := fun t w => run_ok_add (P := Try.prog) hb t w
    have HT := hide ht
    have HO := hide hown
    clear ht hown e hok ha hb
    generalize loS l a = lo at *
    generalize hiS l b = hi at *
    go_enter Try.func5, Try.ntmps5
    go_wp2_with (first | (go_at_call 7; refine (lives_any _).mono ?_; rintro e w1c ⟨rfl, hbc⟩; obtain ⟨hS, hE, hzc, hcc, hfc⟩ := bcell hbc; (try simp only [go_sem] at hE); subst hE) | (go_at_call 15; refine (a1 (hr.below (B1 := w.heap.size) (by repeat' (first | (with_reducible exact Below.refl _ _) | (with_reducible refine below_drewN ?_ _) | (with_reducible refine Below.drew ?_) | (with_reducible refine Below.alloc ?_ ?_ _) | (with_reducible refine Below.setCell ?_ ?_ _) | (with_reducible refine below_step ?_ (by assumption) ?_) | go_size)) hB) (by go_size)).mono ?_; rintro e w1a ⟨rfl, hba⟩; obtain ⟨hS, hE, hza, hca, hfa⟩ := bcell hba; (try simp only [go_sem] at hE); subst hE) | (go_at_call 16; refine (a2 (hr.below (B1 := w.heap.size) (by repeat' (first | (with_reducible exact Below.refl _ _) | (with_reducible refine below_drewN ?_ _) | (with_reducible refine Below.drew ?_) | (with_reducible refine Below.alloc ?_ ?_ _) | (with_reducible refine Below.setCell ?_ ?_ _) | (with_reducible refine below_step ?_ (by assumption) ?_) | go_size)) hB) (by go_size)).mono ?_; rintro e w1b ⟨rfl, hbb⟩; obtain ⟨hS, hE, hzb, hcb, hfb⟩ := bcell hbb; (try simp only [go_sem] at hE); subst hE) | (refine wp_region_quiet_below (by kernel_rfl) (by kernel_rfl) ?_; (repeat (first | go_big_quiet_step ((first | (go_at_call 7; exact Calls.regrown_of (lives_any _)) | (go_at_call 15; exact Calls.regrown_of (a1 (hr.below (B1 := w.heap.size) (by repeat' (first | (with_reducible exact Below.refl _ _) | (with_reducible refine below_drewN ?_ _) | (with_reducible refine Below.drew ?_) | (with_reducible refine Below.alloc ?_ ?_ _) | (with_reducible refine Below.setCell ?_ ?_ _) | (with_reducible refine below_step ?_ (by assumption) ?_) | go_size)) hB) (by go_size))) | (go_at_call 16; exact Calls.regrown_of (a2 (hr.below (B1 := w.heap.size) (by repeat' (first | (with_reducible exact Below.refl _ _) | (with_reducible refine below_drewN ?_ _) | (with_reducible refine Below.drew ?_) | (with_reducible refine Below.alloc ?_ ?_ _) | (with_reducible refine Below.setCell ?_ ?_ _) | (with_reducible refine below_step ?_ (by assumption) ?_) | go_size)) hB) (by go_size))))) | quiet_step ((first | (go_at_call 7; exact Calls.regrown_of (lives_any _)) | (go_at_call 15; exact Calls.regrown_of (a1 (hr.below (B1 := w.heap.size) (by repeat' (first | (with_reducible exact Below.refl _ _) | (with_reducible refine below_drewN ?_ _) | (with_reducible refine Below.drew ?_) | (with_reducible refine Below.alloc ?_ ?_ _) | (with_reducible refine Below.setCell ?_ ?_ _) | (with_reducible refine below_step ?_ (by assumption) ?_) | go_size)) hB) (by go_size))) | (go_at_call 16; exact Calls.regrown_of (a2 (hr.below (B1 := w.heap.size) (by repeat' (first | (with_reducible exact Below.refl _ _) | (with_reducible refine below_drewN ?_ _) | (with_reducible refine Below.drew ?_) | (with_reducible refine Below.alloc ?_ ?_ _) | (with_reducible refine Below.setCell ?_ ?_ _) | (with_reducible refine below_step ?_ (by assumption) ?_) | go_size)) hB) (by go_size))))))); refine wpQuiet_nil ?_; intro w1 hw1; have hb := below_of_regrown hw1; clear hw1; obtain ⟨hS, hE, hz, hc, hf⟩ := bcell hb; (try simp only [go_sem] at hE); subst hE))
    have q0 : w1c.cell? ⟨w1a.heap.size, 0, none⟩ = some (.int .i64 lo) := by go_simp
    have q1 : w1c.cell? ⟨w1a.heap.size, 1, none⟩ = some (.int .i64 hi) := by go_simp
    have hW : Below w.heap.size w w1c := (by repeat' (first | (with_reducible exact Below.refl _ _) | (with_reducible refine below_drewN ?_ _) | (with_reducible refine Below.drew ?_) | (with_reducible refine Below.alloc ?_ ?_ _) | (with_reducible refine Below.setCell ?_ ?_ _) | (with_reducible refine below_step ?_ (by assumption) ?_) | go_size))
    have hrc := hr.below hW hB
    have HW := hide hW
    have hlt0 : w1a.heap.size < w1c.heap.size := by go_size
    have hBc : B0 ≤ w1c.heap.size := by go_size
    clear hr hcc hfc hcb hfb hca hfa hbc hbb hba hW a1 a2
    go_loopw [11] (fun i wr => ∃ k : Nat, lo ≤ k ∧ k ≤ hi + 1 ∧ i = .int .i64 k ∧ Below w1c.heap.size w1c wr) (fun i _ => hi + 1 - (intOf i).toNat)
    case atStart => exact ⟨lo, Nat.le_refl _, by omega, rfl, Below.refl _ _⟩
    case round =>
      obtain ⟨k, hk1, hk2, rfl, hbw⟩ := hrel
      have hrr := hrc.below hbw hBc
      obtain ⟨hS, hE, hz, hc, hf⟩ := bcell hbw
      (try simp only [go_sem] at hE)
      subst hE
      by_cases hkh : k ≤ hi
      · have ht := HT.out k hk1 hkh
        have tc := touches_any hrr c k a b (by omega)
        rw [ht] at tc
        clear ht
        go_wp2_with (go_at_call 17; refine tc.mono ?_; rintro e w2 ⟨rfl, hb2⟩)
        go_roundw
        case rel => exact ⟨k + 1, by omega, by omega, by go_num, hbw.trans (hb2.mono hz)⟩
        case measure => simp [intOf]; omega
      · have hWr : Below w.heap.size w wr := HW.out.trans (hbw.mono (by omega))
        have lc := lane_any hrr (by omega) c hcap x hx
        by_cases hl0 : (laneS l x).2 = 0
        · obtain ⟨k', e', _, _, _, _⟩ := lane_law hl0
          have hin := HO.out k' hl0 (by rw [e'])
          rw [e'] at lc
          clear hl0 e'
          go_wp2_with (go_at_call 13; refine lc.mono ?_; rintro e w2 ⟨rfl, hb2⟩; obtain ⟨hS2, hE2, hz2, hc2, hf2⟩ := bcell hb2; (try simp only [go_sem] at hE2); subst hE2)
          go_ret
          exact ⟨rfl, hWr.trans (hb2.mono (by omega))⟩
        · have hb : ((laneS l x).2 != 0) = true := by simpa using hl0
          go_wp2_with (go_at_call 13; refine lc.mono ?_; rintro e w2 ⟨rfl, hb2⟩; obtain ⟨hS2, hE2, hz2, hc2, hf2⟩ := bcell hb2; (try simp only [go_sem] at hE2); subst hE2)
          go_ret
          exact ⟨rfl, hWr.trans (hb2.mono (by omega))⟩
  · have hb : ((reachS l x r).2.2 != 0) = true := by simpa using hok
    go_enter Try.func5, Try.ntmps5
    go_wp2_with (first | (go_at_call 7; refine (lives_any _).mono ?_; rintro e w1 ⟨rfl, hb⟩; obtain ⟨hS, hE, hz, hc, hf⟩ := bcell hb; (try simp only [go_sem] at hE); subst hE) | (go_at_call 15; refine (reach_any (hr.below (B1 := w.heap.size) (by repeat' (first | (with_reducible exact Below.refl _ _) | (with_reducible refine below_drewN ?_ _) | (with_reducible refine Below.drew ?_) | (with_reducible refine Below.alloc ?_ ?_ _) | (with_reducible refine Below.setCell ?_ ?_ _) | (with_reducible refine below_step ?_ (by assumption) ?_) | go_size)) hB) (by go_size) c hcap _ _ hx hr64).mono ?_; rintro e w1 ⟨rfl, hb⟩; obtain ⟨hS, hE, hz, hc, hf⟩ := bcell hb; (try simp only [go_sem] at hE); subst hE) | (go_at_call 16; refine (rreach_any (hr.below (B1 := w.heap.size) (by repeat' (first | (with_reducible exact Below.refl _ _) | (with_reducible refine below_drewN ?_ _) | (with_reducible refine Below.drew ?_) | (with_reducible refine Below.alloc ?_ ?_ _) | (with_reducible refine Below.setCell ?_ ?_ _) | (with_reducible refine below_step ?_ (by assumption) ?_) | go_size)) hB) (by go_size) c _ _ hx hr64).mono ?_; rintro e w1 ⟨rfl, hb⟩; obtain ⟨hS, hE, hz, hc, hf⟩ := bcell hb; (try simp only [go_sem] at hE); subst hE) | (refine wp_region_quiet_below (by kernel_rfl) (by kernel_rfl) ?_; (repeat (first | go_big_quiet_step ((first | (go_at_call 7; exact Calls.regrown_of (lives_any _)) | (go_at_call 15; exact Calls.regrown_of (reach_any (hr.below (B1 := w.heap.size) (by repeat' (first | (with_reducible exact Below.refl _ _) | (with_reducible refine below_drewN ?_ _) | (with_reducible refine Below.drew ?_) | (with_reducible refine Below.alloc ?_ ?_ _) | (with_reducible refine Below.setCell ?_ ?_ _) | (with_reducible refine below_step ?_ (by assumption) ?_) | go_size)) hB) (by go_size) c hcap _ _ hx hr64)) | (go_at_call 16; exact Calls.regrown_of (rreach_any (hr.below (B1 := w.heap.size) (by repeat' (first | (with_reducible exact Below.refl _ _) | (with_reducible refine below_drewN ?_ _) | (with_reducible refine Below.drew ?_) | (with_reducible refine Below.alloc ?_ ?_ _) | (with_reducible refine Below.setCell ?_ ?_ _) | (with_reducible refine below_step ?_ (by assumption) ?_) | go_size)) hB) (by go_size) c _ _ hx hr64)))) | quiet_step ((first | (go_at_call 7; exact Calls.regrown_of (lives_any _)) | (go_at_call 15; exact Calls.regrown_of (reach_any (hr.below (B1 := w.heap.size) (by repeat' (first | (with_reducible exact Below.refl _ _) | (with_reducible refine below_drewN ?_ _) | (with_reducible refine Below.drew ?_) | (with_reducible refine Below.alloc ?_ ?_ _) | (with_reducible refine Below.setCell ?_ ?_ _) | (with_reducible refine below_step ?_ (by assumption) ?_) | go_size)) hB) (by go_size) c hcap _ _ hx hr64)) | (go_at_call 16; exact Calls.regrown_of (rreach_any (hr.below (B1 := w.heap.size) (by repeat' (first | (with_reducible exact Below.refl _ _) | (with_reducible refine below_drewN ?_ _) | (with_reducible refine Below.drew ?_) | (with_reducible refine Below.alloc ?_ ?_ _) | (with_reducible refine Below.setCell ?_ ?_ _) | (with_reducible refine below_step ?_ (by assumption) ?_) | go_size)) hB) (by go_size) c _ _ hx hr64)))))); refine wpQuiet_nil ?_; intro w1 hw1; have hb := below_of_regrown hw1; clear hw1; obtain ⟨hS, hE, hz, hc, hf⟩ := bcell hb; (try simp only [go_sem] at hE); subst hE))
    go_ret
    exact ⟨rfl, (by repeat' (first | (with_reducible exact Below.refl _ _) | (with_reducible refine below_drewN ?_ _) | (with_reducible refine Below.drew ?_) | (with_reducible refine Below.alloc ?_ ?_ _) | (with_reducible refine Below.setCell ?_ ?_ _) | (with_reducible refine below_step ?_ (by assumption) ?_) | go_size))⟩
theorem law : Law Try.checked 5 Try.f5 := by
  intro H enc W base args ds ps hval hA _
  have hA1 : DataW.TrodAll enc Try.prog W 0 (fun _ => true) true Try.f5.params.toList args.toList ds ps := hA
  rw [Try.params5] at hA1 hval
  obtain ⟨v0, vs0, d0, ds0, p0, q0, hargs, rfl, rfl, h0, r0⟩ := trodAll_cons hA1
  obtain ⟨v1, vs1, d1, ds1, p1, q1, rfl, rfl, rfl, h1, r1⟩ := trodAll_cons r0
  obtain ⟨v2, vs2, d2, ds2, p2, q2, rfl, rfl, rfl, h2, r2⟩ := trodAll_cons r1
  obtain ⟨rfl, rfl, rfl⟩ := trodAll_nil r2
  obtain rfl : args = #[v0, v1, v2] := by cases args; simp_all
  obtain ⟨A, len, cap, l, rfl, hlc, hcm, rfl, hrow, hfit⟩ := arg_floats Try.underlying22 Try.underlying28 (by kernel_rfl) (hval 0 _ v0 rfl rfl) h0
  obtain ⟨x, rfl, rfl, rfl, wx⟩ := open_float Try.underlying28 (hval 1 _ v1 rfl rfl) h1
  obtain ⟨r, rfl, rfl, rfl, wr⟩ := open_float Try.underlying28 (hval 2 _ v2 rfl rfl) h2
  exact walk (frow_arg hrow (by unfold maxLen at hcm; omega) hfit) (Nat.le_refl _) cap hlc x r (wf_float wx) (wf_float wr)

set_option maxRecDepth 100000 in
theorem step (os : Os) (started : os.Started) (H : Type) (enc : TypeId × Value → H) :
    ReturnsInHanded {} Try.checked os 5 .any (Rows.railReachesSpec.pre6 enc Try.prog Try.f5 Rows.railReachesRow.domain false) (Rows.railReachesSpec.post enc Try.prog Try.f5 false true false false) :=
  lifted (C := Try.checked) (s := Rows.railReachesSpec) own started (by kernel_rfl) Try.func5
    (ChangeSpec.witness6 (enc := enc) (C := Try.checked) false ⟨#[], #[.slice none 0 0, .float .f64 0, .float .f64 0], []⟩ 8 (by kernel_rfl) (by kernel_rfl) (by kernel_rfl) (by kernel_rfl))
    laidOut (by kernel_rfl) (by kernel_rfl) Try.underlying4 rfl (fun ds h => by match ds, h with | [d0, d1, d2], _ => rfl) law
set_option maxRecDepth 100000 in
theorem over : Rows.railReachesRow.holds Try.pinned (OpenSpec.ofChange Rows.railReachesSpec) :=
  OpenClaim.holds_of_wide 5 Try.f5 rfl rfl rfl rfl rfl rfl rfl ⟨rfl, rfl, rfl, rfl, rfl⟩ rfl rfl rfl rfl rfl (by kernel_rfl) Try.func5 (by kernel_rfl)
    (of_decide_eq_true (by kernel_rfl)) (by unfold Func.isWrapper; first | (rw [if_pos (by decide +kernel)]; kernel_rfl) | (rw [if_neg (by decide +kernel)]; exact ⟨rfl, rfl⟩))
    (fun os started H enc _ => step os started H enc)
theorem proved : Rows.RailReachesSaid := over
#print axioms proved

end Go.Proofs.Ytoombjndcegggaa.RailReaches
