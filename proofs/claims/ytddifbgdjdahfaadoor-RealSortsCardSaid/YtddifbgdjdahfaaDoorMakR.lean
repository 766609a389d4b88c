/- The bits of the float next to a number and a power of 2, by the reference. No condition. -/
import Derived.Test.YtddifbgdjdahfaaDoorRound
import Derived.LoopTactic
namespace Go.Proofs.YtddifbgdjdahfaaDoor.Real
open Go.ChangeShapes Go.WideShapes Go.ChangeAt Go.RowKit Go.Proofs.YtddifbgdjdahfaaDoor.Kit Go.Proofs.YtddifbgdjdahfaaDoor.Flt Go.Proofs.YtddifbgdjdahfaaDoor.Num Go.Deep
set_option linter.unusedVariables false
set_option linter.unusedSimpArgs false
theorem rsize_any (n : Int) (hn : In64 n) (w : World) : Calls Tryd.prog 36 #[.int .i64 n] w fun e w' => e = .returned (.int .u64 (n.natAbs : Nat)) ∧ w = w' := by
  unfold In64 at hn
  by_cases h : n < 0
  · have w1' : IntKind.i64.wrap (n + 1) = n + 1 := IntWalk.i64_in _ (by omega)
    have w2' : IntKind.i64.wrap (-(n + 1)) = -(n + 1) := IntWalk.i64_in _ (by omega)
    have w3' : IntKind.u64.wrap (-(n + 1)) = -(n + 1) := by rw [IntKind.wrap_u64]; omega
    have w4' : IntKind.u64.wrap (-(n + 1) + 1) = (n.natAbs : Nat) := by rw [IntKind.wrap_u64]; omega
    go_enter Tryd.func36, Tryd.ntmps36
    go_wp2
    go_ret
    exact ⟨by go_num, rfl⟩
  · have w1' : IntKind.u64.wrap n = (n.natAbs : Nat) := by rw [IntKind.wrap_u64]; omega
    go_enter Tryd.func36, Tryd.ntmps36
    go_wp2
    go_ret
    exact ⟨rfl, rfl⟩
theorem rsign_any (m : Int) (r : Nat) (hr : r ≤ 9218868437227405312) (w : World) : Calls Tryd.prog 37 #[.int .i64 m, .int .u64 r] w fun e w' => e = .returned (.int .u64 (word (decide (m < 0)) r : Nat)) ∧ w = w' := by
  by_cases h : m < 0
  · have hw : Hid (((word (decide (m < 0)) r : Nat) : Int) = (r : Int) + 9223372036854775808) := hide (by
      unfold word
      rw [decide_eq_true h, if_pos rfl]
      omega)
    go_enter Tryd.func37, Tryd.ntmps37
    go_wp2
    go_ret
    exact ⟨by rw [hw.out]; rfl, rfl⟩
  · have hw : Hid (((word (decide (m < 0)) r : Nat) : Int) = (r : Int)) := hide (by
      unfold word
      rw [decide_eq_false h]
      rfl)
    go_enter Tryd.func37, Tryd.ntmps37
    go_wp2
    go_ret
    exact ⟨by rw [hw.out]; rfl, rfl⟩
/-- How many bits a number has. -/
def lenV (n : Nat) : Nat := if n = 0 then 0 else n.log2 + 1
theorem len_half {n : Nat} (h : n ≠ 0) : lenV n = lenV (n / 2) + 1 := by
  unfold lenV
  rw [if_neg h]
  by_cases h2 : n / 2 = 0
  · rw [if_pos h2]
    have : n = 1 := by omega
    subst this
    rfl
  · rw [if_neg h2]
    have h3 : n.log2 = (n / 2).log2 + 1 := by
      conv => lhs; rw [Nat.log2_def]
      rw [if_pos (by omega)]
    omega
theorem len_le {n : Nat} (h : n < 18446744073709551616) : lenV n ≤ 64 := by
  unfold lenV
  split
  · omega
  · rename_i h0
    have : n.log2 < 64 := (Nat.log2_lt h0).2 h
    omega
theorem length_any (n : Nat) (hn : n < 18446744073709551616) (w : World) : Calls Tryd.prog 38 #[.int .u64 n] w fun e w' => e = .returned (.int .i64 (lenV n : Nat)) ∧ w = w' := by
  have hle := len_le hn
  go_enter Tryd.func38, Tryd.ntmps38
  go_wp2
  go_loopw [0, 3] (fun a k wr => ∃ m j : Nat, a = .int .u64 m ∧ k = .int .i64 j ∧ m < 18446744073709551616 ∧ Hid (j + lenV m = lenV n) ∧ j ≤ 64 ∧ wr = w) (fun a _ _ => (intOf a).toNat)
  case atStart => exact ⟨n, 0, rfl, rfl, hn, hide (Nat.zero_add _), by omega, rfl⟩
  case round =>
    obtain ⟨m, j, rfl, rfl, hm, hj, hj2, rfl⟩ := hrel
    by_cases h : m = 0
    · subst h
      have hz : Hid (lenV n = j) := hide (by have h1 := hj.out; rw [show lenV 0 = 0 from rfl] at h1; omega)
      go_wp2
      go_ret
      exact ⟨by rw [hz.out]; rfl, rfl⟩
    · have h2 := len_half h
      have hj3 := hj.out
      have HJ : Hid (j + 1 + lenV (m / 2) = lenV n) := hide (by omega)
      have hj4 : j + 1 ≤ 64 := by omega
      clear h2 hj3
      go_wp2
      refine ⟨⟨m / 2, j + 1, by go_num, by go_num, by omega, HJ, hj4, trivial⟩, by simp [intOf]; omega⟩
/-- What is made of the bits that are kept. -/
def tailV (at_ : Int) (K r : Nat) : Prop :=
  (K < 4503599627370496 ∧ r = K) ∨ (K = 9007199254740992 ∧ 2047 ≤ at_ + 1076 ∧ r = 9218868437227405312) ∨ (K = 9007199254740992 ∧ at_ + 1076 < 2047 ∧ (r : Int) = (at_ + 1076) * 4503599627370496) ∨
  (4503599627370496 ≤ K ∧ K < 9007199254740992 ∧ 2047 ≤ at_ + 1075 ∧ r = 9218868437227405312) ∨ (4503599627370496 ≤ K ∧ K < 9007199254740992 ∧ at_ + 1075 < 2047 ∧ (r : Int) = (at_ + 1074) * 4503599627370496 + K)
theorem tail_r {at_ : Int} {K r : Nat} (h : tailV at_ K r) (h1 : -1074 ≤ at_) : r ≤ 9218868437227405312 := by
  unfold tailV at h
  omega
/-- How the kept bits come: shifted to the left, or none, or rounded. -/
def keptW (n K : Nat) (d s : Int) : Prop := (∃ k : Nat, d = k ∧ IntKind.u64.wrap ((n : Int) * 2 ^ k) = (K : Int)) ∨ (d < 0 ∧ 64 < s ∧ K = 0) ∨ (d < 0 ∧ s ≤ 64 ∧ ∀ w, Calls Tryd.prog 39 #[.int .u64 n, .int .i64 s] w fun e w' => e = .returned (.int .u64 K) ∧ Below w.heap.size w w')
set_option maxHeartbeats 4000000 in
theorem make_low (m e a d s : Int) (n L K r : Nat) (w : World) (cS : ∀ w, Calls Tryd.prog 36 #[.int .i64 m] w fun e w' => e = .returned (.int .u64 n) ∧ w = w') (cL : ∀ w, Calls Tryd.prog 38 #[.int .u64 n] w fun e w' => e = .returned (.int .i64 L) ∧ w = w')
    (b1 : ((n : Int) == 0) = false) (b2 : decide (e < -2000) = false) (b3 : decide (2000 < e) = false) (b4 : decide (1024 < e + (L : Int)) = false) (he : -2000 ≤ e ∧ e ≤ 2000) (hL2 : L ≤ 64) (ha : e + (L : Int) - 53 = a) (ha2 : a < -1074) (hd : e + 1074 = d) (hs : -1074 - e = s)
    (hK : keptW n K d s) (hT : tailV (-1074) K r) :
    Calls Tryd.prog 17 #[.int .i64 m, .int .i64 e] w fun e w' => e = .returned (.int .u64 (word (decide (m < 0)) r : Nat)) ∧ Below w.heap.size w w' := by
  have hr := tail_r hT (by omega)
  have G := fun (v : Int) (w : World) (hv : v = (r : Int)) => (show Calls Tryd.prog 37 #[.int .i64 m, .int .u64 v] w fun e w' => e = .returned (.int .u64 (word (decide (m < 0)) r : Nat)) ∧ w = w' from by subst hv; exact rsign_any m r hr w)
  generalize word (decide (m < 0)) r = W at *
  unfold tailV at hT
  unfold keptW at hK
  have hds : d = -s := by omega
  have hT2 : (decide ((K : Int) < 4503599627370496) = true ∧ (r : Int) = K) ∨ (K = 9007199254740992 ∧ (r : Int) = 9007199254740992) ∨ (decide ((K : Int) < 4503599627370496) = false ∧ ((K : Int) == 9007199254740992) = false ∧ ((4503599627370496 : Int) ≤ K ∧ (K : Int) < 9007199254740992) ∧ (r : Int) = K) := by
    rcases hT with ⟨t1, t2⟩ | ⟨t0, t1, t2⟩ | ⟨t0, t1, t2⟩ | ⟨t0, t1, t2, t3⟩ | ⟨t0, t1, t2, t3⟩
    · exact .inl ⟨decide_eq_true (by omega), by omega⟩
    · omega
    · exact .inr (.inl ⟨t0, by omega⟩)
    · omega
    · exact .inr (.inr ⟨decide_eq_false (by omega), beq_eq_false_iff_ne.2 (by omega), ⟨by omega, by omega⟩, by omega⟩)
  clear hT
  rcases hK with ⟨k, rfl, k2⟩ | ⟨k1, k2, rfl⟩ | ⟨k1, k2, k3⟩
  · have c1 : decide (-1074 ≤ e) = true := decide_eq_true (by omega)
    clear hs hds hr
    rcases hT2 with ⟨t1, t2⟩ | ⟨rfl, t2⟩ | ⟨t0, t1, ⟨t2, t4⟩, t3⟩
    all_goals
      go_enter Tryd.func17, Tryd.ntmps17
      go_wp2_with (first | (go_at_call 36; refine (cS _).mono ?_; rintro e w1 ⟨rfl, rfl⟩) | (go_at_call 38; refine (cL _).mono ?_; rintro e w1 ⟨rfl, rfl⟩) | (go_at_call 37; refine (G _ _ (by omega)).mono ?_; rintro e w1 ⟨rfl, rfl⟩) | ((with_reducible change Code.wp _ (Code.region _ _ _) _ _ _); refine wp_region_quiet_below (by kernel_rfl) (by kernel_rfl) ?_; (repeat (first | go_big_quiet_step ((first | (go_at_call 36; exact Calls.regrown_of (below_of_same (cS _))) | (go_at_call 38; exact Calls.regrown_of (below_of_same (cL _))) | (go_at_call 37; exact Calls.regrown_of (below_of_same (G _ _ (by omega)))))) | quiet_step ((first | (go_at_call 36; exact Calls.regrown_of (below_of_same (cS _))) | (go_at_call 38; exact Calls.regrown_of (below_of_same (cL _))) | (go_at_call 37; exact Calls.regrown_of (below_of_same (G _ _ (by omega)))))))); refine wpQuiet_nil ?_; intro w1 hw1; have hb := below_of_regrown hw1; clear hw1; obtain ⟨hS, hE, hz, hc, hf⟩ := bcell hb; (try simp only [go_sem] at hE); subst hE))
      go_ret
      exact ⟨rfl, (by repeat' (first | (with_reducible exact Below.refl _ _) | (with_reducible refine below_drewN ?_ _) | (with_reducible refine Below.drew ?_) | (with_reducible refine Below.alloc ?_ ?_ _) | (with_reducible refine Below.setCell ?_ ?_ _) | (with_reducible refine below_step ?_ (by assumption) ?_) | (with_reducible refine below_step ?_ (below_regrown _ _ _) ?_) | go_size))⟩
  · have c1 : decide (-1074 ≤ e) = false := decide_eq_false (by omega)
    have c2 : decide (64 < s) = true := decide_eq_true (by omega)
    have c3 : (r : Int) = 0 := by
      rcases hT2 with ⟨_, t2⟩ | ⟨t2, _⟩ | ⟨_, _, ⟨t2, _⟩, _⟩
      · exact t2
      · cases t2
      · exact absurd t2 (by decide)
    clear hd hds hr hT2
    go_enter Tryd.func17, Tryd.ntmps17
    go_wp2_with (first | (go_at_call 36; refine (cS _).mono ?_; rintro e w1 ⟨rfl, rfl⟩) | (go_at_call 38; refine (cL _).mono ?_; rintro e w1 ⟨rfl, rfl⟩) | (go_at_call 37; refine (G _ _ (by omega)).mono ?_; rintro e w1 ⟨rfl, rfl⟩) | ((with_reducible change Code.wp _ (Code.region _ _ _) _ _ _); refine wp_region_quiet_below (by kernel_rfl) (by kernel_rfl) ?_; (repeat (first | go_big_quiet_step ((first | (go_at_call 36; exact Calls.regrown_of (below_of_same (cS _))) | (go_at_call 38; exact Calls.regrown_of (below_of_same (cL _))) | (go_at_call 37; exact Calls.regrown_of (below_of_same (G _ _ (by omega)))))) | quiet_step ((first | (go_at_call 36; exact Calls.regrown_of (below_of_same (cS _))) | (go_at_call 38; exact Calls.regrown_of (below_of_same (cL _))) | (go_at_call 37; exact Calls.regrown_of (below_of_same (G _ _ (by omega)))))))); refine wpQuiet_nil ?_; intro w1 hw1; have hb := below_of_regrown hw1; clear hw1; obtain ⟨hS, hE, hz, hc, hf⟩ := bcell hb; (try simp only [go_sem] at hE); subst hE))
    go_ret
    exact ⟨rfl, (by repeat' (first | (with_reducible exact Below.refl _ _) | (with_reducible refine below_drewN ?_ _) | (with_reducible refine Below.drew ?_) | (with_reducible refine Below.alloc ?_ ?_ _) | (with_reducible refine Below.setCell ?_ ?_ _) | (with_reducible refine below_step ?_ (by assumption) ?_) | (with_reducible refine below_step ?_ (below_regrown _ _ _) ?_) | go_size))⟩
  · have c1 : decide (-1074 ≤ e) = false := decide_eq_false (by omega)
    have c2 : decide (64 < s) = false := decide_eq_false (by omega)
    clear hd hds hr
    rcases hT2 with ⟨t1, t2⟩ | ⟨rfl, t2⟩ | ⟨t0, t1, ⟨t2, t4⟩, t3⟩
    all_goals
      go_enter Tryd.func17, Tryd.ntmps17
      go_wp2_with (first | (go_at_call 36; refine (cS _).mono ?_; rintro e w1 ⟨rfl, rfl⟩) | (go_at_call 38; refine (cL _).mono ?_; rintro e w1 ⟨rfl, rfl⟩) | (go_at_call 39; refine (k3 _).mono ?_; rintro e w1 ⟨rfl, hb⟩; obtain ⟨hS, hE, hz, hc, hf⟩ := bcell hb; (try simp only [go_sem] at hE); subst hE) | (go_at_call 37; refine (G _ _ (by omega)).mono ?_; rintro e w1 ⟨rfl, rfl⟩) | ((with_reducible change Code.wp _ (Code.region _ _ _) _ _ _); refine wp_region_quiet_below (by kernel_rfl) (by kernel_rfl) ?_; (repeat (first | go_big_quiet_step ((first | (go_at_call 36; exact Calls.regrown_of (below_of_same (cS _))) | (go_at_call 38; exact Calls.regrown_of (below_of_same (cL _))) | (go_at_call 39; exact Calls.regrown_of (k3 _)) | (go_at_call 37; exact Calls.regrown_of (below_of_same (G _ _ (by omega)))))) | quiet_step ((first | (go_at_call 36; exact Calls.regrown_of (below_of_same (cS _))) | (go_at_call 38; exact Calls.regrown_of (below_of_same (cL _))) | (go_at_call 39; exact Calls.regrown_of (k3 _)) | (go_at_call 37; exact Calls.regrown_of (below_of_same (G _ _ (by omega)))))))); refine wpQuiet_nil ?_; intro w1 hw1; have hb := below_of_regrown hw1; clear hw1; obtain ⟨hS, hE, hz, hc, hf⟩ := bcell hb; (try simp only [go_sem] at hE); subst hE))
      go_ret
      exact ⟨rfl, (by repeat' (first | (with_reducible exact Below.refl _ _) | (with_reducible refine below_drewN ?_ _) | (with_reducible refine Below.drew ?_) | (with_reducible refine Below.alloc ?_ ?_ _) | (with_reducible refine Below.setCell ?_ ?_ _) | (with_reducible refine below_step ?_ (by assumption) ?_) | (with_reducible refine below_step ?_ (below_regrown _ _ _) ?_) | go_size))⟩
set_option maxHeartbeats 8000000 in
theorem make_high (m e a d s : Int) (n L K r : Nat) (w : World) (cS : ∀ w, Calls Tryd.prog 36 #[.int .i64 m] w fun e w' => e = .returned (.int .u64 n) ∧ w = w') (cL : ∀ w, Calls Tryd.prog 38 #[.int .u64 n] w fun e w' => e = .returned (.int .i64 L) ∧ w = w')
    (b1 : ((n : Int) == 0) = false) (b2 : decide (e < -2000) = false) (b3 : decide (2000 < e) = false) (b4 : decide (1024 < e + (L : Int)) = false) (he : -2000 ≤ e ∧ e ≤ 2000) (hL2 : L ≤ 64) (ha : e + (L : Int) - 53 = a) (ha2 : -1074 ≤ a ∧ a ≤ 971) (hd : e - a = d) (hs : a - e = s)
    (hK : keptW n K d s) (hT : tailV a K r) :
    Calls Tryd.prog 17 #[.int .i64 m, .int .i64 e] w fun e w' => e = .returned (.int .u64 (word (decide (m < 0)) r : Nat)) ∧ Below w.heap.size w w' := by
  have hr := tail_r hT (by omega)
  have G := fun (v : Int) (w : World) (hv : v = (r : Int)) => (show Calls Tryd.prog 37 #[.int .i64 m, .int .u64 v] w fun e w' => e = .returned (.int .u64 (word (decide (m < 0)) r : Nat)) ∧ w = w' from by subst hv; exact rsign_any m r hr w)
  generalize word (decide (m < 0)) r = W at *
  unfold tailV at hT
  unfold keptW at hK
  have hds : d = -s := by omega
  have c0 : decide (a < -1074) = false := decide_eq_false (by omega)
  have hT2 : (decide ((K : Int) < 4503599627370496) = true ∧ (r : Int) = K) ∨ (K = 9007199254740992 ∧ decide (2047 ≤ a + 1 + 1075) = true ∧ (r : Int) = 9218868437227405312) ∨ (K = 9007199254740992 ∧ decide (2047 ≤ a + 1 + 1075) = false ∧ (r : Int) = (a + 1076) * 4503599627370496 ∧ a ≤ 970) ∨
      (decide ((K : Int) < 4503599627370496) = false ∧ ((K : Int) == 9007199254740992) = false ∧ ((4503599627370496 : Int) ≤ K ∧ (K : Int) < 9007199254740992) ∧ decide (2047 ≤ a + 1075) = true ∧ (r : Int) = 9218868437227405312) ∨
      (decide ((K : Int) < 4503599627370496) = false ∧ ((K : Int) == 9007199254740992) = false ∧ ((4503599627370496 : Int) ≤ K ∧ (K : Int) < 9007199254740992) ∧ decide (2047 ≤ a + 1075) = false ∧ (r : Int) = (a + 1074) * 4503599627370496 + K) := by
    rcases hT with ⟨t1, t2⟩ | ⟨t0, t1, t2⟩ | ⟨t0, t1, t2⟩ | ⟨t0, t1, t2, t3⟩ | ⟨t0, t1, t2, t3⟩
    · exact .inl ⟨decide_eq_true (by omega), by omega⟩
    · exact .inr (.inl ⟨t0, decide_eq_true (by omega), by omega⟩)
    · exact .inr (.inr (.inl ⟨t0, decide_eq_false (by omega), t2, by omega⟩))
    · exact .inr (.inr (.inr (.inl ⟨decide_eq_false (by omega), beq_eq_false_iff_ne.2 (by omega), ⟨by omega, by omega⟩, decide_eq_true (by omega), by omega⟩)))
    · exact .inr (.inr (.inr (.inr ⟨decide_eq_false (by omega), beq_eq_false_iff_ne.2 (by omega), ⟨by omega, by omega⟩, decide_eq_false (by omega), t3⟩)))
  clear hT
  rcases hK with ⟨k, rfl, k2⟩ | ⟨k1, k2, rfl⟩ | ⟨k1, k2, k3⟩
  · have c1 : decide (a ≤ e) = true := decide_eq_true (by omega)
    clear hs hds hr
    rcases hT2 with ⟨t1, t2⟩ | ⟨rfl, t1, t2⟩ | ⟨rfl, t1, t2, t3⟩ | ⟨t0, t1, ⟨t2, t4⟩, t3, t5⟩ | ⟨t0, t1, ⟨t2, t4⟩, t3, t5⟩
    all_goals
      go_enter Tryd.func17, Tryd.ntmps17
      go_wp2_with (first | (go_at_call 36; refine (cS _).mono ?_; rintro e w1 ⟨rfl, rfl⟩) | (go_at_call 38; refine (cL _).mono ?_; rintro e w1 ⟨rfl, rfl⟩) | (go_at_call 37; refine (G _ _ (by omega)).mono ?_; rintro e w1 ⟨rfl, rfl⟩) | ((with_reducible change Code.wp _ (Code.region _ _ _) _ _ _); refine wp_region_quiet_below (by kernel_rfl) (by kernel_rfl) ?_; (repeat (first | go_big_quiet_step ((first | (go_at_call 36; exact Calls.regrown_of (below_of_same (cS _))) | (go_at_call 38; exact Calls.regrown_of (below_of_same (cL _))) | (go_at_call 37; exact Calls.regrown_of (below_of_same (G _ _ (by omega)))))) | quiet_step ((first | (go_at_call 36; exact Calls.regrown_of (below_of_same (cS _))) | (go_at_call 38; exact Calls.regrown_of (below_of_same (cL _))) | (go_at_call 37; exact Calls.regrown_of (below_of_same (G _ _ (by omega)))))))); refine wpQuiet_nil ?_; intro w1 hw1; have hb := below_of_regrown hw1; clear hw1; obtain ⟨hS, hE, hz, hc, hf⟩ := bcell hb; (try simp only [go_sem] at hE); subst hE))
      go_ret
      exact ⟨rfl, (by repeat' (first | (with_reducible exact Below.refl _ _) | (with_reducible refine below_drewN ?_ _) | (with_reducible refine Below.drew ?_) | (with_reducible refine Below.alloc ?_ ?_ _) | (with_reducible refine Below.setCell ?_ ?_ _) | (with_reducible refine below_step ?_ (by assumption) ?_) | (with_reducible refine below_step ?_ (below_regrown _ _ _) ?_) | go_size))⟩
  · have c1 : decide (a ≤ e) = false := decide_eq_false (by omega)
    have c2 : decide (64 < s) = true := decide_eq_true (by omega)
    have c3 : (r : Int) = 0 := by
      rcases hT2 with ⟨_, t2⟩ | ⟨t2, _⟩ | ⟨t2, _⟩ | ⟨_, _, ⟨t2, _⟩, _⟩ | ⟨_, _, ⟨t2, _⟩, _⟩
      · exact t2
      · cases t2
      · cases t2
      · exact absurd t2 (by decide)
      · exact absurd t2 (by decide)
    clear hd hds hr hT2
    go_enter Tryd.func17, Tryd.ntmps17
    go_wp2_with (first | (go_at_call 36; refine (cS _).mono ?_; rintro e w1 ⟨rfl, rfl⟩) | (go_at_call 38; refine (cL _).mono ?_; rintro e w1 ⟨rfl, rfl⟩) | (go_at_call 37; refine (G _ _ (by omega)).mono ?_; rintro e w1 ⟨rfl, rfl⟩) | ((with_reducible change Code.wp _ (Code.region _ _ _) _ _ _); refine wp_region_quiet_below (by kernel_rfl) (by kernel_rfl) ?_; (repeat (first | go_big_quiet_step ((first | (go_at_call 36; exact Calls.regrown_of (below_of_same (cS _))) | (go_at_call 38; exact Calls.regrown_of (below_of_same (cL _))) | (go_at_call 37; exact Calls.regrown_of (below_of_same (G _ _ (by omega)))))) | quiet_step ((first | (go_at_call 36; exact Calls.regrown_of (below_of_same (cS _))) | (go_at_call 38; exact Calls.regrown_of (below_of_same (cL _))) | (go_at_call 37; exact Calls.regrown_of (below_of_same (G _ _ (by omega)))))))); refine wpQuiet_nil ?_; intro w1 hw1; have hb := below_of_regrown hw1; clear hw1; obtain ⟨hS, hE, hz, hc, hf⟩ := bcell hb; (try simp only [go_sem] at hE); subst hE))
    go_ret
    exact ⟨rfl, (by repeat' (first | (with_reducible exact Below.refl _ _) | (with_reducible refine below_drewN ?_ _) | (with_reducible refine Below.drew ?_) | (with_reducible refine Below.alloc ?_ ?_ _) | (with_reducible refine Below.setCell ?_ ?_ _) | (with_reducible refine below_step ?_ (by assumption) ?_) | (with_reducible refine below_step ?_ (below_regrown _ _ _) ?_) | go_size))⟩
  · have c1 : decide (a ≤ e) = false := decide_eq_false (by omega)
    have c2 : decide (64 < s) = false := decide_eq_false (by omega)
    clear hd hds hr
    rcases hT2 with ⟨t1, t2⟩ | ⟨rfl, t1, t2⟩ | ⟨rfl, t1, t2, t3⟩ | ⟨t0, t1, ⟨t2, t4⟩, t3, t5⟩ | ⟨t0, t1, ⟨t2, t4⟩, t3, t5⟩
    all_goals
      go_enter Tryd.func17, Tryd.ntmps17
      go_wp2_with (first | (go_at_call 36; refine (cS _).mono ?_; rintro e w1 ⟨rfl, rfl⟩) | (go_at_call 38; refine (cL _).mono ?_; rintro e w1 ⟨rfl, rfl⟩) | (go_at_call 39; refine (k3 _).mono ?_; rintro e w1 ⟨rfl, hb⟩; obtain ⟨hS, hE, hz, hc, hf⟩ := bcell hb; (try simp only [go_sem] at hE); subst hE) | (go_at_call 37; refine (G _ _ (by omega)).mono ?_; rintro e w1 ⟨rfl, rfl⟩) | ((with_reducible change Code.wp _ (Code.region _ _ _) _ _ _); refine wp_region_quiet_below (by kernel_rfl) (by kernel_rfl) ?_; (repeat (first | go_big_quiet_step ((first | (go_at_call 36; exact Calls.regrown_of (below_of_same (cS _))) | (go_at_call 38; exact Calls.regrown_of (below_of_same (cL _))) | (go_at_call 39; exact Calls.regrown_of (k3 _)) | (go_at_call 37; exact Calls.regrown_of (below_of_same (G _ _ (by omega)))))) | quiet_step ((first | (go_at_call 36; exact Calls.regrown_of (below_of_same (cS _))) | (go_at_call 38; exact Calls.regrown_of (below_of_same (cL _))) | (go_at_call 39; exact Calls.regrown_of (k3 _)) | (go_at_call 37; exact Calls.regrown_of (below_of_same (G _ _ (by omega)))))))); refine wpQuiet_nil ?_; intro w1 hw1; have hb := below_of_regrown hw1; clear hw1; obtain ⟨hS, hE, hz, hc, hf⟩ := bcell hb; (try simp only [go_sem] at hE); subst hE))
      go_ret
      exact ⟨rfl, (by repeat' (first | (with_reducible exact Below.refl _ _) | (with_reducible refine below_drewN ?_ _) | (with_reducible refine Below.drew ?_) | (with_reducible refine Below.alloc ?_ ?_ _) | (with_reducible refine Below.setCell ?_ ?_ _) | (with_reducible refine below_step ?_ (by assumption) ?_) | (with_reducible refine below_step ?_ (below_regrown _ _ _) ?_) | go_size))⟩
end Go.Proofs.YtddifbgdjdahfaaDoor.Real
