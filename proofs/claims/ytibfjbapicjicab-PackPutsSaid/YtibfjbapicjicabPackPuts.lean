/- For every number behind any bytes the law 'PackPuts' returns true: it is read as its lowest bytes. No condition. -/
import Derived.Test.YtibfjbapicjicabPackLives
namespace Go.Proofs.Ytibfjbapicjicab.PackPuts
open Go.ChangeShapes Go.WideShapes Go.ChangeAt Go.RowKit Go.Proofs.Ytibfjbapicjicab.Kit Go.Proofs.Ytibfjbapicjicab.Mem Go.Proofs.Ytibfjbapicjicab.Pack Go.Joins
set_option linter.unusedVariables false
/-! ### The plain law: the bytes of a number, as a number -/
theorem byteAt_range (v : Int) (k : Nat) : 0 ≤ byteAt v k ∧ byteAt v k ≤ 255 := by unfold byteAt; omega
theorem beL_range (v : Int) (w : Nat) : ∀ x ∈ beL v w, 0 ≤ x ∧ x ≤ 255 := by
  intro x hx
  obtain ⟨i, _, rfl⟩ := List.mem_map.1 hx
  exact byteAt_range _ _
theorem beL_len (v : Int) (w : Nat) : (beL v w).length = w := by simp [beL]
theorem putL_len (l : List Int) (v m : Int) : (putL l v m).length ≤ l.length + 8 := by
  unfold putL
  split
  · rename_i h
    unfold wideB at h
    have := of_decide_eq_true h
    rw [List.length_append, beL_len]
    omega
  · omega
/-- The first k of w bytes, as a number: what is above the other ones. -/
theorem beN_beL (v : Int) (hv : 0 ≤ v) (w : Nat) : ∀ k, k ≤ w → beN ((List.range k).map fun i => byteAt v (w - 1 - i)) = v / 2 ^ (8 * (w - k)) % 2 ^ (8 * k) := by
  intro k
  induction k with
  | zero => intro _; simp [beN, Int.emod_one]
  | succ k ih =>
    intro hk
    rw [beL_succ, beN_snoc, ih (by omega)]
    unfold byteAt
    have e1 : w - k = (w - 1 - k) + 1 := by omega
    have e2 : w - (k + 1) = w - 1 - k := by omega
    rw [e2, e1]
    generalize w - 1 - k = j
    have e3 : (2 : Int) ^ (8 * (j + 1)) = 2 ^ (8 * j) * 256 := by rw [Nat.mul_succ, Int.pow_add]; rfl
    have e4 : (2 : Int) ^ (8 * (k + 1)) = 256 * 2 ^ (8 * k) := by rw [Nat.mul_succ, Int.pow_add, Int.mul_comm]; rfl
    have e5 : v / (2 ^ (8 * j) * 256) = v / 2 ^ (8 * j) / 256 := by
      have hp : (0 : Int) < 2 ^ (8 * j) := Int.pow_pos (by decide)
      rw [Int.ediv_ediv, if_neg (fun h => absurd h.1 (by omega)), Int.sub_zero]
    rw [e3, e4, e5]
    obtain ⟨U, hU⟩ := Int.eq_ofNat_of_zero_le (show 0 ≤ v / 2 ^ (8 * j) from Int.ediv_nonneg hv (Int.le_of_lt (Int.pow_pos (by decide))))
    rw [hU]
    have hM : (2 : Int) ^ (8 * k) = ((2 ^ (8 * k) : Nat) : Int) := by rw [Int.natCast_pow]; rfl
    rw [hM]
    generalize 2 ^ (8 * k) = M
    have key : U / 256 % M * 256 + U % 256 = U % (256 * M) := by rw [Nat.mod_mul]; omega
    have k2 : ((U / 256 % M * 256 + U % 256 : Nat) : Int) = ((U % (256 * M) : Nat) : Int) := by rw [key]
    simp only [Int.natCast_add, Int.natCast_mul, Int.natCast_emod, Int.natCast_ediv] at k2
    exact k2
theorem beN_all (v : Int) (hv : 0 ≤ v) (w : Nat) : beN (beL v w) = v % 2 ^ (8 * w) := by
  have := beN_beL v hv w w (Nat.le_refl _)
  simpa [beL] using this

/-! ### The walk -/
set_option maxHeartbeats 400000
theorem walk_long (A : Option Addr) (n c : Nat) (v m : Int) (w : World) (hn : 1000 < n) : Calls Try.prog 3 #[.slice A n c, .int .u64 v, .int .i64 m] w fun e w' => e = .returned (.bool true) ∧ Below w.heap.size w w' := by
  go_enter Try.func3, Try.ntmps3
  go_wp2_with (first | (go_at_call 7; refine (lives_any _).mono ?_; rintro e w1 ⟨rfl, hb⟩; obtain ⟨hS, hE, hz, hc, hf⟩ := bcell hb; (try simp only [go_sem] at hE); subst hE) | (refine wp_region_quiet_below (by kernel_rfl) (by kernel_rfl) ?_; (repeat (first | go_big_quiet_step ((first | (go_at_call 7; exact Calls.regrown_of (lives_any _)))) | quiet_step ((first | (go_at_call 7; exact Calls.regrown_of (lives_any _)))))); refine wpQuiet_nil ?_; intro w1 hw1; have hb := below_of_regrown hw1; clear hw1; obtain ⟨hS, hE, hz, hc, hf⟩ := bcell hb; (try simp only [go_sem] at hE); subst hE))
  go_ret
  exact ⟨rfl, (by repeat' (first | (with_reducible exact Below.refl _ _) | (with_reducible refine below_drewN ?_ _) | (with_reducible refine Below.drew ?_) | (with_reducible refine Below.alloc ?_ ?_ _) | (with_reducible refine Below.setCell ?_ ?_ _) | (with_reducible refine below_step ?_ (by assumption) ?_) | go_size))⟩
theorem walk_short (A : Option Addr) (c : Nat) (l : List Int) (v m : Int) (w : World) (hb : Bytes w w.heap.size A l.length l) (hr : ∀ x ∈ l, 0 ≤ x ∧ x ≤ 255) (hn : l.length ≤ 1000) (hv : 0 ≤ v ∧ v ≤ 18446744073709551615) (hm : -9223372036854775808 ≤ m ∧ m ≤ 9223372036854775807) :
    Calls Try.prog 3 #[.slice A l.length c, .int .u64 v, .int .i64 m] w fun e w' => e = .returned (.bool true) ∧ Below w.heap.size w w' := by
  have own0 := own_empty w 5
  have hb0 := bytes_alloc hb (Nat.le_refl _) (.cells #[] 5)
  have S1 := hide (sameB_self l)
  have S2 := hide (sameB_self (putL l v m))
  go_enter Try.func3, Try.ntmps3
  go_wp2_with (at_builtin; refine app_u8_0 rfl _ _ rfl w.heap.size _ _ rfl own0 w.heap.size A _ c l rfl hb0 (by omega) (by simp) ?_; intro A1 c1 w1 hown hgrow hbel1 hcap hcm)
  have hs1 := hbel1.size
  simp only [World.size_alloc] at hs1
  have hb1 : Below w.heap.size w w1 := ((Below.refl _ _).alloc (Nat.le_refl _) _).trans hbel1
  clear hbel1 hgrow own0 hb0
  refine (put_any A1 l.length c1 l v m w1.heap.size w1 (bytes_of_own hown) (Nat.le_refl _) (by omega) hv).mono ?_
  rintro en w2 ⟨A2, c2, rfl, ho2, hb2, hc2, hm2⟩
  go_wp2_with fail
  refine (lives_any _).mono ?_
  rintro en w3 ⟨rfl, hb3⟩
  go_wp2_with fail
  have k3 : Below w.heap.size w w3 := (hb1.trans (hb2.mono (by omega))).trans (hb3.mono (by have := hb2.size; omega))
  have hs2 := hb2.size
  have hs3 := hb3.size
  refine (rput_any A l.length c l v m w.heap.size w3 (bytes_below hb k3 (Nat.le_refl _)) k3.size (by omega)).mono ?_
  rintro en w4 ⟨A4, c4, rfl, ho4, hb4, hc4, hm4⟩
  have hs4 := hb4.size
  have ho2' := own_below (own_below ho2 hb3 (Nat.le_refl _)) hb4 (Nat.le_refl _)
  have hown' := own_below (own_below (own_below hown hb2 (Nat.le_refl _)) hb3 (Nat.le_refl _)) hb4 (Nat.le_refl _)
  have k4 : Below w.heap.size w w4 := k3.trans (hb4.mono (by omega))
  go_wp2_with fail
  refine (same_any (bytes_of_own ho2') (bytes_of_own ho4)).mono ?_
  rw [S2.out]
  rintro en w5 ⟨rfl, rfl⟩
  go_wp2_with fail
  refine (same_any (bytes_of_own hown') (bytes_below hb k4 (Nat.le_refl _))).mono ?_
  rw [S1.out]
  rintro en w5 ⟨rfl, rfl⟩
  go_wp2_with fail
  have hpl : (putL l v m).length ≤ 1008 := Nat.le_trans (putL_len l v m) (by omega)
  refine (from_any A2 _ c2 _ _ _ (bytes_of_own ho2') (Nat.le_refl _) (by omega)).mono ?_
  rintro en w5 ⟨g, A5, c5, rfl, hg5, hrb5, hby5, hb5, hc5, hm5⟩
  have hg5' : g < w5.heap.size := (rb_facts hrb5).1
  have hs5 := hb5.size
  have k5 : Below w.heap.size w w5 := k4.trans (hb5.mono (by omega))
  have hm5 : c5 ≤ 9223372036854775807 := hm5
  have hpr : ∀ x ∈ putL l v m, 0 ≤ x ∧ x ≤ 255 := by
    intro x hx
    unfold putL at hx
    split at hx
    · rcases List.mem_append.1 hx with h | h
      · exact hr x h
      · exact beL_range _ _ x h
    · exact hr x hx
  have HPR := hide hpr
  have HR := hide hr
  clear hpr hr
  have hlp : l.length ≤ (putL l v m).length := by unfold putL; split <;> simp
  have hok : okT 0 0 (l.length : Int) (putL l v m).length = true := okT_true _ _ _ _ (by omega)
  have t1 : takeT (putL l v m) 0 0 l.length = l := by
    unfold takeT; rw [if_pos hok]; unfold putL; split <;> simp
  have t2 : atT 0 0 (l.length : Int) (putL l v m).length = l.length := by unfold atT; rw [if_pos hok]; omega
  have t3 : errT 0 0 (l.length : Int) (putL l v m).length = 0 := by unfold errT; rw [if_neg (by omega), if_neg (by omega)]
  have T1 := hide t1
  have T2 := hide t2
  have T3 := hide t3
  clear hok t1 t2 t3
  go_wp2_with fail
  refine (take_is hrb5 hby5 (by omega) (by omega) hc5 hm5 (by omega) T1.out T2.out T3.out).mono ?_
  rintro en w6 ⟨A6, c6, rfl, ho6, hrb6, hu6, hc6⟩
  have hby6 := bytes_up hby5 hu6 (Nat.le_refl _) (by omega)
  have hs6 := hu6.size
  go_wp2_with fail
  refine (u_any g l.length 0 m A5 _ c5 _ hrb6 hby6 HPR.out (by omega) (by omega) hc5 hm5 hm).mono ?_
  rintro en w7 ⟨rfl, hrb7, hu7⟩
  have ho7 := own_up ho6 hu7 hg5'
  have k7 : Below w.heap.size w w7 := k5.trans ⟨(hu6.trans hu7).os, (hu6.trans hu7).tape, (hu6.trans hu7).output, (hu6.trans hu7).size, fun k hk => (hu6.trans hu7).block k (by omega) (by intro e; injection e with e; omega)⟩
  clear ho4 hown' ho2' ho2 hown hby5 hby6 ho6 hrb5 hrb6
  have hbl := bytes_below hb k7 (Nat.le_refl _)
  have hb7 := bytes_of_own ho7
  have hend : ∀ (w9 : World), w7.grownBy w9 (some g) → Below w.heap.size w w9 := fun w9 h => k7.trans ⟨h.os, h.tape, h.output, h.size, fun k hk => h.block k (by have := hu6.size; have := hu7.size; omega) (by intro e; injection e with e; omega)⟩
  by_cases hw : wideB m = true
  · have h3 : 1 ≤ m ∧ m ≤ 8 := by unfold wideB at hw; exact of_decide_eq_true hw
    obtain ⟨q, rfl⟩ := Int.eq_ofNat_of_zero_le (show 0 ≤ m by omega)
    have hpq : putL l v q = l ++ beL v q := by unfold putL; rw [if_pos hw]; simp
    have hplen : (putL l v q).length = l.length + q := by rw [hpq, List.length_append, beL_len]
    have hok : okT l.length 0 (q : Int) (putL l v q).length = true := okT_true _ _ _ _ (by rw [hplen]; omega)
    have hval : uVal (putL l v q) l.length 0 q = v % 2 ^ (8 * q) := by
      unfold uVal takeT
      rw [if_pos hw, if_pos hok, hpq, Int.toNat_natCast, Int.toNat_natCast, List.drop_left, List.take_of_length_le (by rw [beL_len]; omega), beN_all v hv.1]
    have hat : uAt l.length 0 q (putL l v q).length = l.length + q := by unfold uAt atT; rw [if_pos hw, if_pos hok]
    have herr : uErr l.length 0 q (putL l v q).length = 0 := by unfold uErr errT; rw [if_pos hw, if_neg (by omega), if_neg (by rw [hplen]; omega)]
    rw [hval]
    rw [hat, herr] at hrb7
    have hq1 : 1 ≤ q := by omega
    have hq8 : q ≤ 8 := by omega
    have HPL := hide hplen
    have HPB := hide hpl
    clear hval hat herr hok hpq hplen hlp HPR T1 T2 T3 S2 hpl hc2 hc4 hc5
    by_cases h8 : q = 8
    · subst h8
      have hfull : v % 2 ^ (8 * 8) = v := Int.emod_eq_of_lt hv.1 (by omega)
      rw [hfull]
      clear hfull
      go_wp2_with fail
      refine (same_any hb7 hbl).mono ?_
      rw [S1.out]
      rintro en w8 ⟨rfl, rfl⟩
      go_wp2_with fail
      refine (err_any _ _ _ _ _ _ _ hrb7).mono ?_
      rintro en w8 ⟨rfl, hrb8, hu8⟩
      go_wp2_with fail
      have hl0 : (((putL l v (8 : Nat)).length : Nat) : Int) - ((l.length : Int) + (8 : Nat)) = 0 := by have := HPL.out; omega
      refine (left_any _ _ _ _ _ _ _ hrb8 (by have := HPL.out; omega) (by have := HPB.out; omega)).mono ?_
      rw [hl0]
      clear hl0
      rintro en w9 ⟨rfl, hrb9, hu9⟩
      go_wp2_with fail
      go_ret
      exact ⟨rfl, hend _ (hu8.trans hu9)⟩
    · have hp1 : (1 : Int) ≤ 2 ^ (8 * q) := Int.pow_pos (by decide)
      have hp2 : (2 : Int) ^ (8 * q) ≤ 72057594037927936 := by
        have : q = 1 ∨ q = 2 ∨ q = 3 ∨ q = 4 ∨ q = 5 ∨ q = 6 ∨ q = 7 := by omega
        rcases this with rfl | rfl | rfl | rfl | rfl | rfl | rfl <;> decide
      go_wp2_with fail
      refine (same_any hb7 hbl).mono ?_
      rw [S1.out]
      rintro en w8 ⟨rfl, rfl⟩
      go_wp2_with fail
      refine (err_any _ _ _ _ _ _ _ hrb7).mono ?_
      rintro en w8 ⟨rfl, hrb8, hu8⟩
      go_wp2_with fail
      have hl0 : (((putL l v (q : Nat)).length : Nat) : Int) - ((l.length : Int) + (q : Nat)) = 0 := by have := HPL.out; omega
      refine (left_any _ _ _ _ _ _ _ hrb8 (by have := HPL.out; omega) (by have := HPB.out; omega)).mono ?_
      rw [hl0]
      clear hl0
      rintro en w9 ⟨rfl, hrb9, hu9⟩
      go_wp2_with fail
      go_ret
      exact ⟨rfl, hend _ (hu8.trans hu9)⟩
  · have h3 : ¬ (1 ≤ m ∧ m ≤ 8) := fun x => hw (by unfold wideB; exact decide_eq_true x)
    have hpq : putL l v m = l := by unfold putL; rw [if_neg hw]
    have hval : uVal (putL l v m) l.length 0 m = 0 := by unfold uVal; rw [if_neg hw]
    have hat : uAt l.length 0 m (putL l v m).length = l.length := by unfold uAt; rw [if_neg hw]
    have herr : uErr l.length 0 m (putL l v m).length = 1 := by unfold uErr failE; rw [if_neg hw]; rfl
    rw [hval]
    rw [hat, herr] at hrb7
    have HPL := hide hpq
    have hlen : (putL l v m).length = l.length := by rw [hpq]
    have HLN := hide hlen
    clear hval hat herr hpq hlen hlp HPR T1 T2 T3 S2 hpl hc2 hc4 hc5 hw
    have hl0 : (((putL l v m).length : Nat) : Int) - (l.length : Int) = 0 := by have := HLN.out; omega
    have HL0 := hide hl0
    clear hl0
    by_cases h1 : m < 1
    all_goals
      go_wp2_with fail
      refine (same_any hb7 hbl).mono ?_
      rw [S1.out]
      rintro en w8 ⟨rfl, rfl⟩
      go_wp2_with fail
      refine (err_any _ _ _ _ _ _ _ hrb7).mono ?_
      rintro en w8 ⟨rfl, hrb8, hu8⟩
      go_wp2_with fail
      refine (left_any _ _ _ _ _ _ _ hrb8 (by have := HLN.out; omega) (by have := HLN.out; omega)).mono ?_
      rw [HL0.out]
      rintro en w9 ⟨rfl, hrb9, hu9⟩
      go_wp2_with fail
      go_ret
      exact ⟨rfl, hend _ (hu8.trans hu9)⟩
theorem walk (A : Option Addr) (n c : Nat) (l : List Int) (v m : Int) (w : World) (hb : Bytes w w.heap.size A n l) (hr : ∀ x ∈ l, 0 ≤ x ∧ x ≤ 255) (hv : 0 ≤ v ∧ v ≤ 18446744073709551615) (hm : -9223372036854775808 ≤ m ∧ m ≤ 9223372036854775807) :
    Calls Try.prog 3 #[.slice A n c, .int .u64 v, .int .i64 m] w fun e w' => e = .returned (.bool true) ∧ Below w.heap.size w w' := by
  by_cases hn : 1000 < n
  · exact walk_long A n c v m w hn
  · have hl := hb.1
    subst hl
    exact walk_short A c l v m w hb hr (by omega) hv hm
theorem law : Law Try.checked 3 Try.f3 := by
  intro H enc W base args ds ps hval hA _
  have hA1 : DataW.TrodAll enc Try.prog W 0 (fun _ => true) true Try.f3.params.toList args.toList ds ps := hA
  rw [Try.params3] at hA1 hval
  obtain ⟨v0, vs0, d0, ds0, p0, q0, hargs, rfl, rfl, h0, r0⟩ := trodAll_cons hA1
  obtain ⟨v1, vs1, d1, ds1, p1, q1, rfl, rfl, rfl, h1, r1⟩ := trodAll_cons r0
  obtain ⟨v2, vs2, d2, ds2, p2, q2, rfl, rfl, rfl, h2, r2⟩ := trodAll_cons r1
  obtain ⟨rfl, rfl, rfl⟩ := trodAll_nil r2
  obtain rfl : args = #[v0, v1, v2] := by cases args; simp_all
  obtain ⟨A, len, cap, zs, rfl, hl, hm, hzl, hrow, hwf⟩ := arg_row Try.underlying22 Try.underlying5 (by kernel_rfl) (hval 0 _ v0 rfl rfl) h0
  obtain ⟨v, rfl, rfl, rfl, wv⟩ := open_int Try.underlying23 (hval 1 _ v1 rfl rfl) h1
  obtain ⟨m, rfl, rfl, rfl, wm⟩ := open_int Try.underlying3 (hval 2 _ v2 rfl rfl) h2
  exact walk A len cap zs v m W ⟨hzl, hrow⟩ (fun x hx => bounds_u8 (hwf x hx)) (bounds_u64 wv) (bounds_i64 wm)

set_option maxRecDepth 100000 in
theorem step (os : Os) (started : os.Started) (H : Type) (enc : TypeId × Value → H) :
    ReturnsInHanded {} Try.checked os 3 .any (Rows.packPutsSpec.pre6 enc Try.prog Try.f3 Rows.packPutsRow.domain false) (Rows.packPutsSpec.post enc Try.prog Try.f3 false true false false) :=
  lifted (C := Try.checked) (s := Rows.packPutsSpec) own started (by kernel_rfl) Try.func3
    (ChangeSpec.witness6 (enc := enc) (C := Try.checked) false ⟨#[], #[.slice none 0 0, .int .u64 0, .int .i64 0], []⟩ 8 (by kernel_rfl) (by kernel_rfl) (by kernel_rfl) (by kernel_rfl))
    laidOut (by kernel_rfl) (by kernel_rfl) Try.underlying4 rfl (fun ds h => by match ds, h with | [d0, d1, d2], _ => rfl) law
set_option maxRecDepth 100000 in
theorem over : Rows.packPutsRow.holds Try.pinned (OpenSpec.ofChange Rows.packPutsSpec) :=
  OpenClaim.holds_of_wide 3 Try.f3 rfl rfl rfl rfl rfl rfl rfl ⟨rfl, rfl, rfl, rfl, rfl⟩ rfl rfl rfl rfl rfl (by kernel_rfl) Try.func3 (by kernel_rfl)
    (of_decide_eq_true (by kernel_rfl)) (by unfold Func.isWrapper; first | (rw [if_pos (by decide +kernel)]; kernel_rfl) | (rw [if_neg (by decide +kernel)]; exact ⟨rfl, rfl⟩))
    (fun os started H enc _ => step os started H enc)
theorem proved : Rows.PackPutsSaid := over
#print axioms proved

end Go.Proofs.Ytibfjbapicjicab.PackPuts
