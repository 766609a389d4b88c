/- What a well holds at most, and at first. No condition. -/
import Derived.Test.YtfckciblnojniaaDoorDkP
namespace Go.Proofs.YtfckciblnojniaaDoor.Dk
open Go.ChangeShapes Go.WideShapes Go.ChangeAt Go.RowKit Go.Proofs.YtfckciblnojniaaDoor.Kit Go.Proofs.YtfckciblnojniaaDoor.Flt Go.Proofs.YtfckciblnojniaaDoor.Mem Go.Proofs.YtfckciblnojniaaDoor.Rail Go.Proofs.YtfckciblnojniaaDoor.Mix Go.Deep
set_option linter.unusedVariables false
set_option linter.unusedSimpArgs false
def InW (D : Dck) (id : Int) : Prop := chkD D = 0 ∧ 0 ≤ id ∧ id < (nW D : Int)
/-- Where on its plate a well is. -/
structure At (D : Dck) (id : Int) (j r c : Nat) : Prop where
  pt : partF D id = (⟨1, (j : Nat), (r : Nat), (c : Nat)⟩, 0)
  hj : j < D.ps.length
  hr : (r : Int) < (D.ps.getD j (⟨0, 0, 0, 0, 0, 0, none, 0, []⟩ : Plt)).r
  hc : (c : Int) < (D.ps.getD j (⟨0, 0, 0, 0, 0, 0, none, 0, []⟩ : Plt)).c
  m32 : (D.ps.getD j (⟨0, 0, 0, 0, 0, 0, none, 0, []⟩ : Plt)).r ≤ 32
  m48 : (D.ps.getD j (⟨0, 0, 0, 0, 0, 0, none, 0, []⟩ : Plt)).c ≤ 48
theorem at_of {D : Dck} {id : Int} (h : InW D id) : ∃ j r c, At D id j r c := by
  obtain ⟨h0, h1, h2⟩ := h
  have EW : nW D = sumN (D.ps.map Plt.box) := if_pos h0
  obtain ⟨j, r, c, g1, g2, g3, g4, g5⟩ := placeL_spec 1 (D.ps.map Plt.box) 0 id.toNat (by omega)
  rw [List.length_map] at g1
  rw [map_box D.ps j g1 (⟨0, 0, 0, 0, 0, 0, none, 0, []⟩ : Plt)] at g3 g4
  dsimp only at g3 g4
  rw [Nat.zero_add] at g2
  have hm := may_iff.1 (allmay_P (good_of h0).gp j (by rw [List.length_map]; exact g1))
  rw [map_box D.ps j g1 (⟨0, 0, 0, 0, 0, 0, none, 0, []⟩ : Plt)] at hm
  obtain ⟨m1, m2, m3, m4⟩ := hm
  refine ⟨j, r, c, ?_, g1, by omega, by omega, m2, m4⟩
  unfold partF
  rw [if_neg (by simpa using h0), if_neg (by omega)]
  unfold partAt
  rw [if_pos (by omega), g2]
theorem not_at {D : Dck} {id : Int} (h : ¬ InW D id) : (partF D id).2 ≠ 0 ∨ ((partF D id).2 = 0 ∧ (partF D id).1.k ≠ 1) := by
  unfold partF
  by_cases h0 : chkD D = 0
  case neg => rw [if_pos h0]; exact .inl h0
  rw [if_neg (by simpa using h0)]
  by_cases h1 : id < 0 ∨ ((nW D + nT D + nL D : Nat) : Int) ≤ id
  · rw [if_pos h1]; exact .inl (by decide)
  · rw [if_neg h1]
    right
    refine ⟨rfl, ?_⟩
    dsimp only
    rw [part_kind]
    have h2 : ¬ id.toNat < nW D := fun h3 => h ⟨h0, by omega, by omega⟩
    rw [if_neg h2]
    split <;> decide
def zeroP : Value := .agg #[.int .i64 0, .int .i64 0, .float .f64 0, .float .f64 0, .float .f64 0, .int .i64 0, .slice none 0 0]
theorem at_val {r b9 cc : Nat} (h : r * b9 + cc ≤ 1000000) : Value.int .i64 (wrap64 (wrap64 ((r : Int) * (b9 : Int)) + (cc : Int))) = Value.int .i64 ((r * b9 + cc : Nat) : Int) := by
  have e : (r : Int) * (b9 : Int) = ((r * b9 : Nat) : Int) := by rw [Int.natCast_mul]
  rw [e]
  generalize r * b9 = q at *
  rw [IntWalk.wrap64_in (q : Int) ⟨by omega, by omega⟩, IntWalk.wrap64_in _ ⟨by omega, by omega⟩]
  norm_cast
theorem at_valK {r b9 cc : Nat} (h : r * b9 + cc ≤ 1000000) : Value.int .i64 (IntKind.i64.wrap (IntKind.i64.wrap ((r : Int) * (b9 : Int)) + (cc : Int))) = Value.int .i64 ((r * b9 + cc : Nat) : Int) := by
  have e : (r : Int) * (b9 : Int) = ((r * b9 : Nat) : Int) := by rw [Int.natCast_mul]
  rw [e]
  generalize r * b9 = q at *
  rw [IntWalk.i64_in (q : Int) (by omega), IntWalk.i64_in _ (by omega)]
  norm_cast
section
variable {w : World} {B0 : Nat} {D : Dck}
set_option maxHeartbeats 8000000 in
set_option maxRecDepth 20000 in
theorem plate_not (h : DeckI w B0 D) (hB : B0 ≤ w.heap.size) (hl : SmallD D) (id : Int) (hn : ¬ InW D id) :
    Calls Tryd.prog 40 #[D.val, .int .i64 id] w fun e w' => e = .returned (.tuple #[zeroP, .int .i64 0, .bool false]) ∧ Below w.heap.size w w' := by
  have cP : ∀ W, Below w.heap.size w W → Calls Tryd.prog 12 #[D.val, .int .i64 id] W fun e w' => e = .returned (.tuple #[(partF D id).1.val, .int .i64 (partF D id).2]) ∧ Below W.heap.size W w' :=
    fun W hb => part_any (h.below hb hB) (by have := hb.size; omega) hl id
  have hna := not_at hn
  clear h hl hn
  generalize partF D id = X at *
  obtain ⟨⟨k, u, r, c⟩, e⟩ := X
  obtain ⟨bA, bc, bs, pA, pc, ps, rA, rc, rs, arms⟩ := D
  unfold Dck.val Pt.val at cP
  unfold Dck.val
  dsimp only at cP hna ⊢
  rcases hna with h1 | ⟨rfl, h1⟩
  · have g1 : (e == 0) = false := beq_false_of_ne h1
    have g2 : (e != 0) = true := bne_iff_ne.2 h1
    go_enter Tryd.func40, Tryd.ntmps40
    go_wp2_with (first | (go_at_call 12; (with_reducible refine (cP _ (by repeat' (first | (with_reducible exact Below.refl _ _) | (with_reducible refine below_drewN ?_ _) | (with_reducible refine Below.drew ?_) | (with_reducible refine Below.alloc ?_ ?_ _) | (with_reducible refine Below.setCell ?_ ?_ _) | (with_reducible refine below_step ?_ (by assumption) ?_) | (with_reducible refine below_step ?_ (below_regrown _ _ _) ?_) | go_size))).mono ?_); rintro e w1 ⟨rfl, hb⟩; obtain ⟨hS, hE, hz, hc, hf⟩ := bcell hb; (try simp only [go_sem] at hE); subst hE) | ((with_reducible change Code.wp _ (Code.region _ _ _) _ _ _); refine wp_region_quiet_below (by kernel_rfl) (by kernel_rfl) ?_; (repeat (first | go_big_quiet_step ((first | (go_at_call 12; (with_reducible refine Calls.regrown_of (cP _ (by repeat' (first | (with_reducible exact Below.refl _ _) | (with_reducible refine below_drewN ?_ _) | (with_reducible refine Below.drew ?_) | (with_reducible refine Below.alloc ?_ ?_ _) | (with_reducible refine Below.setCell ?_ ?_ _) | (with_reducible refine below_step ?_ (by assumption) ?_) | (with_reducible refine below_step ?_ (below_regrown _ _ _) ?_) | go_size))));))) | quiet_step ((first | (go_at_call 12; (with_reducible refine Calls.regrown_of (cP _ (by repeat' (first | (with_reducible exact Below.refl _ _) | (with_reducible refine below_drewN ?_ _) | (with_reducible refine Below.drew ?_) | (with_reducible refine Below.alloc ?_ ?_ _) | (with_reducible refine Below.setCell ?_ ?_ _) | (with_reducible refine below_step ?_ (by assumption) ?_) | (with_reducible refine below_step ?_ (below_regrown _ _ _) ?_) | go_size))));))))); refine wpQuiet_nil ?_; intro w1 hw1; have hb := below_of_regrown hw1; clear hw1; obtain ⟨hS, hE, hz, hc, hf⟩ := bcell hb; (try simp only [go_sem] at hE); subst hE))
    refine bodyPost_ret (v := .tuple #[zeroP, .int .i64 0, .bool false]) ?_ rfl ⟨rfl, (by repeat' (first | (with_reducible exact Below.refl _ _) | (with_reducible refine below_drewN ?_ _) | (with_reducible refine Below.drew ?_) | (with_reducible refine Below.alloc ?_ ?_ _) | (with_reducible refine Below.setCell ?_ ?_ _) | (with_reducible refine below_step ?_ (by assumption) ?_) | (with_reducible refine below_step ?_ (below_regrown _ _ _) ?_) | go_size))⟩
    simp only [results, Tryd.results40, zeroP]
    go_simp
  · have g1 : (k == 1) = false := beq_false_of_ne h1
    have g2 : (k != 1) = true := bne_iff_ne.2 h1
    go_enter Tryd.func40, Tryd.ntmps40
    go_wp2_with (first | (go_at_call 12; (with_reducible refine (cP _ (by repeat' (first | (with_reducible exact Below.refl _ _) | (with_reducible refine below_drewN ?_ _) | (with_reducible refine Below.drew ?_) | (with_reducible refine Below.alloc ?_ ?_ _) | (with_reducible refine Below.setCell ?_ ?_ _) | (with_reducible refine below_step ?_ (by assumption) ?_) | (with_reducible refine below_step ?_ (below_regrown _ _ _) ?_) | go_size))).mono ?_); rintro e w1 ⟨rfl, hb⟩; obtain ⟨hS, hE, hz, hc, hf⟩ := bcell hb; (try simp only [go_sem] at hE); subst hE) | ((with_reducible change Code.wp _ (Code.region _ _ _) _ _ _); refine wp_region_quiet_below (by kernel_rfl) (by kernel_rfl) ?_; (repeat (first | go_big_quiet_step ((first | (go_at_call 12; (with_reducible refine Calls.regrown_of (cP _ (by repeat' (first | (with_reducible exact Below.refl _ _) | (with_reducible refine below_drewN ?_ _) | (with_reducible refine Below.drew ?_) | (with_reducible refine Below.alloc ?_ ?_ _) | (with_reducible refine Below.setCell ?_ ?_ _) | (with_reducible refine below_step ?_ (by assumption) ?_) | (with_reducible refine below_step ?_ (below_regrown _ _ _) ?_) | go_size))));))) | quiet_step ((first | (go_at_call 12; (with_reducible refine Calls.regrown_of (cP _ (by repeat' (first | (with_reducible exact Below.refl _ _) | (with_reducible refine below_drewN ?_ _) | (with_reducible refine Below.drew ?_) | (with_reducible refine Below.alloc ?_ ?_ _) | (with_reducible refine Below.setCell ?_ ?_ _) | (with_reducible refine below_step ?_ (by assumption) ?_) | (with_reducible refine below_step ?_ (below_regrown _ _ _) ?_) | go_size))));))))); refine wpQuiet_nil ?_; intro w1 hw1; have hb := below_of_regrown hw1; clear hw1; obtain ⟨hS, hE, hz, hc, hf⟩ := bcell hb; (try simp only [go_sem] at hE); subst hE))
    refine bodyPost_ret (v := .tuple #[zeroP, .int .i64 0, .bool false]) ?_ rfl ⟨rfl, (by repeat' (first | (with_reducible exact Below.refl _ _) | (with_reducible refine below_drewN ?_ _) | (with_reducible refine Below.drew ?_) | (with_reducible refine Below.alloc ?_ ?_ _) | (with_reducible refine Below.setCell ?_ ?_ _) | (with_reducible refine below_step ?_ (by assumption) ?_) | (with_reducible refine below_step ?_ (below_regrown _ _ _) ?_) | go_size))⟩
    simp only [results, Tryd.results40, zeroP]
    go_simp
set_option maxHeartbeats 8000000 in
set_option maxRecDepth 20000 in
theorem plate_at (h : DeckI w B0 D) (hB : B0 ≤ w.heap.size) (hl : SmallD D) (id : Int) {j r c : Nat} (ha : At D id j r c) :
    Calls Tryd.prog 40 #[D.val, .int .i64 id] w fun e w' => e = .returned (.tuple #[(D.ps.getD j (⟨0, 0, 0, 0, 0, 0, none, 0, []⟩ : Plt)).val, .int .i64 (r * (D.ps.getD j (⟨0, 0, 0, 0, 0, 0, none, 0, []⟩ : Plt)).c.toNat + c : Nat), .bool true]) ∧ Below w.heap.size w w' := by
  have cP : ∀ W, Below w.heap.size w W → Calls Tryd.prog 12 #[D.val, .int .i64 id] W fun e w' => e = .returned (.tuple #[(partF D id).1.val, .int .i64 (partF D id).2]) ∧ Below W.heap.size W w' :=
    fun W hb => part_any (h.below hb hB) (by have := hb.size; omega) hl id
  obtain ⟨hp, hj, hr, hc, m32, m48⟩ := ha
  rw [hp] at cP
  obtain ⟨b, off, hpA, hbB, hcell⟩ := plt_cells h.ps (by omega) (⟨0, 0, 0, 0, 0, 0, none, 0, []⟩ : Plt)
  obtain ⟨p0, p1, p2, p3, p4, p5, p6⟩ := hcell j hj
  clear h hl hp hcell
  obtain ⟨bA, bc, bs, pA, pc, ps, rA, rc, rs, arms⟩ := D
  dsimp only at hpA hj hr hc m32 m48 p0 p1 p2 p3 p4 p5 p6
  subst hpA
  unfold Dck.val Pt.val at cP
  unfold Dck.val
  dsimp only at cP ⊢
  generalize ps.getD j (⟨0, 0, 0, 0, 0, 0, none, 0, []⟩ : Plt) = q at *
  obtain ⟨rows, cols, x, y, z, cap, qA, qk, ql⟩ := q
  unfold Plt.val
  dsimp only at hr hc m32 m48 p0 p1 p2 p3 p4 p5 p6 ⊢
  obtain ⟨a, rfl⟩ := Int.eq_ofNat_of_zero_le (show 0 ≤ rows by omega)
  obtain ⟨b9, rfl⟩ := Int.eq_ofNat_of_zero_le (show 0 ≤ cols by omega)
  have hbw : b < w.heap.size := by omega
  have hrb : r * b9 ≤ 32 * 48 := Nat.mul_le_mul (by omega) (by omega)
  have HE : Hid (r * b9 + c ≤ 1000000) := hide (by omega)
  clear hrb
  rw [Int.toNat_natCast]
  go_enter Tryd.func40, Tryd.ntmps40
  go_wp2_with (first | (go_at_call 12; (with_reducible refine (cP _ (by repeat' (first | (with_reducible exact Below.refl _ _) | (with_reducible refine below_drewN ?_ _) | (with_reducible refine Below.drew ?_) | (with_reducible refine Below.alloc ?_ ?_ _) | (with_reducible refine Below.setCell ?_ ?_ _) | (with_reducible refine below_step ?_ (by assumption) ?_) | (with_reducible refine below_step ?_ (below_regrown _ _ _) ?_) | go_size))).mono ?_); rintro e w1 ⟨rfl, hb⟩; obtain ⟨hS, hE, hz, hc, hf⟩ := bcell hb; (try simp only [go_sem] at hE); subst hE) | ((with_reducible change Code.wp _ (Code.region _ _ _) _ _ _); refine wp_region_quiet_below (by kernel_rfl) (by kernel_rfl) ?_; (repeat (first | go_big_quiet_step ((first | (go_at_call 12; (with_reducible refine Calls.regrown_of (cP _ (by repeat' (first | (with_reducible exact Below.refl _ _) | (with_reducible refine below_drewN ?_ _) | (with_reducible refine Below.drew ?_) | (with_reducible refine Below.alloc ?_ ?_ _) | (with_reducible refine Below.setCell ?_ ?_ _) | (with_reducible refine below_step ?_ (by assumption) ?_) | (with_reducible refine below_step ?_ (below_regrown _ _ _) ?_) | go_size))));))) | quiet_step ((first | (go_at_call 12; (with_reducible refine Calls.regrown_of (cP _ (by repeat' (first | (with_reducible exact Below.refl _ _) | (with_reducible refine below_drewN ?_ _) | (with_reducible refine Below.drew ?_) | (with_reducible refine Below.alloc ?_ ?_ _) | (with_reducible refine Below.setCell ?_ ?_ _) | (with_reducible refine below_step ?_ (by assumption) ?_) | (with_reducible refine below_step ?_ (below_regrown _ _ _) ?_) | go_size))));))))); refine wpQuiet_nil ?_; intro w1 hw1; have hb := below_of_regrown hw1; clear hw1; obtain ⟨hS, hE, hz, hc, hf⟩ := bcell hb; (try simp only [go_sem] at hE); subst hE))
  refine wp_region_mix 11 [0, 1, 2, 3, 4, 5, 6, 7, 8] [9, 10] (fun w' => w'.cell? ⟨w1.heap.size + 1, 0, none⟩ = some (.int .i64 a) ∧ w'.cell? ⟨w1.heap.size + 1, 1, none⟩ = some (.int .i64 b9) ∧ w'.cell? ⟨w1.heap.size + 1, 2, none⟩ = some (.float .f64 x) ∧ w'.cell? ⟨w1.heap.size + 1, 3, none⟩ = some (.float .f64 y) ∧ w'.cell? ⟨w1.heap.size + 1, 4, none⟩ = some (.float .f64 z) ∧
    w'.cell? ⟨w1.heap.size + 1, 5, none⟩ = some (.int .i64 cap) ∧ w'.cell? ⟨w1.heap.size + 1, 6, none⟩ = some (.slice qA ql.length qk) ∧ w'.cell? ⟨w1.heap.size, 2, none⟩ = some (.int .i64 r) ∧ w'.cell? ⟨w1.heap.size, 3, none⟩ = some (.int .i64 c)) (by kernel_rfl) (by kernel_rfl) (by (refine ⟨?_, ?_, ?_, ?_, ?_, ?_, ?_, ?_, ?_⟩ <;> go_simp)) ?_
  simp only [opsOf, List.filterMap_cons, List.filterMap_nil, List.getElem?_toArray, List.getElem?_cons_zero, List.getElem?_cons_succ]
  (refine wpPure_val (.agg #[.int .i64 a, .int .i64 b9, .float .f64 x, .float .f64 y, .float .f64 z, .int .i64 cap, .slice qA ql.length qk]) rfl (fun w' hw => by obtain ⟨h0, h1, h2, h3, h4, h5, h6, h7, h8⟩ := hw; go_simp) ?_)
  repeat (refine wpPure_any (fun K hK => ?_); go_simp; refine hK _ ?_; clear hK K)
  (refine wpPure_val (.int .i64 r) rfl (fun w' hw => by obtain ⟨h0, h1, h2, h3, h4, h5, h6, h7, h8⟩ := hw; go_simp) ?_)
  repeat (refine wpPure_any (fun K hK => ?_); go_simp; refine hK _ ?_; clear hK K)
  (refine wpPure_val (.int .i64 b9) rfl (fun w' hw => by obtain ⟨h0, h1, h2, h3, h4, h5, h6, h7, h8⟩ := hw; go_simp) ?_)
  repeat (refine wpPure_any (fun K hK => ?_); go_simp; refine hK _ ?_; clear hK K)
  (refine wpPure_val (.int .i64 c) rfl (fun w' hw => by obtain ⟨h0, h1, h2, h3, h4, h5, h6, h7, h8⟩ := hw; go_simp) ?_)
  repeat (refine wpPure_any (fun K hK => ?_); go_simp; refine hK _ ?_; clear hK K)
  refine wpPure_nil ?_
  (refine wpMid_step (fun K2 hK1 hK2 => ?_) (by (refine ⟨?_, ?_, ?_, ?_, ?_, ?_, ?_, ?_, ?_⟩ <;> go_simp)); go_simp)
  refine hK1 _ _ (by (refine ⟨?_, ?_, ?_, ?_, ?_, ?_, ?_, ?_, ?_⟩ <;> go_simp)) ?_
  (refine wpMid_step (fun K2 hK1 hK2 => ?_) (by (refine ⟨?_, ?_, ?_, ?_, ?_, ?_, ?_, ?_, ?_⟩ <;> go_simp)); go_simp)
  refine hK2 _ ?_
  refine wpMid_nil ?_
  simp only [List.drop_succ_cons, List.drop_zero]
  go_wp2_with fail
  refine bodyPost_ret (v := .tuple #[.agg #[.int .i64 a, .int .i64 b9, .float .f64 x, .float .f64 y, .float .f64 z, .int .i64 cap, .slice qA ql.length qk], .int .i64 (r * b9 + c : Nat), .bool true]) ?_ rfl ⟨rfl, (by repeat' (first | (with_reducible exact Below.refl _ _) | (with_reducible refine below_drewN ?_ _) | (with_reducible refine Below.drew ?_) | (with_reducible refine Below.alloc ?_ ?_ _) | (with_reducible refine Below.setCell ?_ ?_ _) | (with_reducible refine below_step ?_ (by assumption) ?_) | (with_reducible refine below_step ?_ (below_regrown _ _ _) ?_) | go_size))⟩
  simp only [results, Tryd.results40]
  rw [← at_valK HE.out]
  go_simp
open Classical in
noncomputable def capF (D : Dck) (id : Int) : Int := if InW D id then (D.ps.getD (partF D id).1.u.toNat (⟨0, 0, 0, 0, 0, 0, none, 0, []⟩ : Plt)).cap else 0
def atL (q : Plt) (k : Nat) : Int := if q.l.length ≤ k then 0 else q.l.getD k 0
open Classical in
noncomputable def startF (D : Dck) (id : Int) : Int := if InW D id then atL (D.ps.getD (partF D id).1.u.toNat (⟨0, 0, 0, 0, 0, 0, none, 0, []⟩ : Plt)) ((partF D id).1.r.toNat * (D.ps.getD (partF D id).1.u.toNat (⟨0, 0, 0, 0, 0, 0, none, 0, []⟩ : Plt)).c.toNat + (partF D id).1.c.toNat) else 0
theorem cap_in {D : Dck} {id : Int} {j r c : Nat} (h : InW D id) (ha : At D id j r c) : capF D id = (D.ps.getD j (⟨0, 0, 0, 0, 0, 0, none, 0, []⟩ : Plt)).cap := by
  unfold capF; rw [if_pos h, ha.pt]; rfl
theorem start_in {D : Dck} {id : Int} {j r c : Nat} (h : InW D id) (ha : At D id j r c) : startF D id = atL (D.ps.getD j (⟨0, 0, 0, 0, 0, 0, none, 0, []⟩ : Plt)) (r * (D.ps.getD j (⟨0, 0, 0, 0, 0, 0, none, 0, []⟩ : Plt)).c.toNat + c) := by
  unfold startF; rw [if_pos h, ha.pt]; rfl
set_option maxHeartbeats 8000000 in
set_option maxRecDepth 20000 in
theorem cap_any (h : DeckI w B0 D) (hB : B0 ≤ w.heap.size) (hl : SmallD D) (id : Int) :
    Calls Tryd.prog 18 #[D.val, .int .i64 id] w fun e w' => e = .returned (.int .i64 (capF D id)) ∧ Below w.heap.size w w' := by
  by_cases hn : InW D id
  · obtain ⟨j, r, c, ha⟩ := at_of hn
    have cP := fun W (hb : Below w.heap.size w W) => plate_at (h.below hb hB) (by have := hb.size; omega) hl id ha
    have hv := hide (cap_in hn ha)
    clear h hl hn ha
    generalize capF D id = X at *
    obtain ⟨bA, bc, bs, pA, pc, ps, rA, rc, rs, arms⟩ := D
    unfold Dck.val Plt.val at cP
    unfold Dck.val
    dsimp only at cP hv ⊢
    generalize ps.getD j (⟨0, 0, 0, 0, 0, 0, none, 0, []⟩ : Plt) = q at *
    obtain ⟨rows, cols, x, y, z, cap, qA, qk, ql⟩ := q
    dsimp only at cP hv
    go_enter Tryd.func18, Tryd.ntmps18
    go_wp2_with (first | (go_at_call 40; (with_reducible refine (cP _ (by repeat' (first | (with_reducible exact Below.refl _ _) | (with_reducible refine below_drewN ?_ _) | (with_reducible refine Below.drew ?_) | (with_reducible refine Below.alloc ?_ ?_ _) | (with_reducible refine Below.setCell ?_ ?_ _) | (with_reducible refine below_step ?_ (by assumption) ?_) | (with_reducible refine below_step ?_ (below_regrown _ _ _) ?_) | go_size))).mono ?_); rintro e w1 ⟨rfl, hb⟩; obtain ⟨hS, hE, hz, hc, hf⟩ := bcell hb; (try simp only [go_sem] at hE); subst hE) | ((with_reducible change Code.wp _ (Code.region _ _ _) _ _ _); refine wp_region_quiet_below (by kernel_rfl) (by kernel_rfl) ?_; (repeat (first | go_big_quiet_step ((first | (go_at_call 40; (with_reducible refine Calls.regrown_of (cP _ (by repeat' (first | (with_reducible exact Below.refl _ _) | (with_reducible refine below_drewN ?_ _) | (with_reducible refine Below.drew ?_) | (with_reducible refine Below.alloc ?_ ?_ _) | (with_reducible refine Below.setCell ?_ ?_ _) | (with_reducible refine below_step ?_ (by assumption) ?_) | (with_reducible refine below_step ?_ (below_regrown _ _ _) ?_) | go_size))));))) | quiet_step ((first | (go_at_call 40; (with_reducible refine Calls.regrown_of (cP _ (by repeat' (first | (with_reducible exact Below.refl _ _) | (with_reducible refine below_drewN ?_ _) | (with_reducible refine Below.drew ?_) | (with_reducible refine Below.alloc ?_ ?_ _) | (with_reducible refine Below.setCell ?_ ?_ _) | (with_reducible refine below_step ?_ (by assumption) ?_) | (with_reducible refine below_step ?_ (below_regrown _ _ _) ?_) | go_size))));))))); refine wpQuiet_nil ?_; intro w1 hw1; have hb := below_of_regrown hw1; clear hw1; obtain ⟨hS, hE, hz, hc, hf⟩ := bcell hb; (try simp only [go_sem] at hE); subst hE))
    go_ret
    exact ⟨by rw [hv.out]; rfl, (by repeat' (first | (with_reducible exact Below.refl _ _) | (with_reducible refine below_drewN ?_ _) | (with_reducible refine Below.drew ?_) | (with_reducible refine Below.alloc ?_ ?_ _) | (with_reducible refine Below.setCell ?_ ?_ _) | (with_reducible refine below_step ?_ (by assumption) ?_) | (with_reducible refine below_step ?_ (below_regrown _ _ _) ?_) | go_size))⟩
  · have cP := fun W (hb : Below w.heap.size w W) => plate_not (h.below hb hB) (by have := hb.size; omega) hl id hn
    have hv : Hid (capF D id = 0) := hide (if_neg hn)
    clear h hl hn
    generalize capF D id = X at *
    obtain ⟨bA, bc, bs, pA, pc, ps, rA, rc, rs, arms⟩ := D
    unfold Dck.val zeroP at cP
    unfold Dck.val
    dsimp only at cP ⊢
    go_enter Tryd.func18, Tryd.ntmps18
    go_wp2_with (first | (go_at_call 40; (with_reducible refine (cP _ (by repeat' (first | (with_reducible exact Below.refl _ _) | (with_reducible refine below_drewN ?_ _) | (with_reducible refine Below.drew ?_) | (with_reducible refine Below.alloc ?_ ?_ _) | (with_reducible refine Below.setCell ?_ ?_ _) | (with_reducible refine below_step ?_ (by assumption) ?_) | (with_reducible refine below_step ?_ (below_regrown _ _ _) ?_) | go_size))).mono ?_); rintro e w1 ⟨rfl, hb⟩; obtain ⟨hS, hE, hz, hc, hf⟩ := bcell hb; (try simp only [go_sem] at hE); subst hE) | ((with_reducible change Code.wp _ (Code.region _ _ _) _ _ _); refine wp_region_quiet_below (by kernel_rfl) (by kernel_rfl) ?_; (repeat (first | go_big_quiet_step ((first | (go_at_call 40; (with_reducible refine Calls.regrown_of (cP _ (by repeat' (first | (with_reducible exact Below.refl _ _) | (with_reducible refine below_drewN ?_ _) | (with_reducible refine Below.drew ?_) | (with_reducible refine Below.alloc ?_ ?_ _) | (with_reducible refine Below.setCell ?_ ?_ _) | (with_reducible refine below_step ?_ (by assumption) ?_) | (with_reducible refine below_step ?_ (below_regrown _ _ _) ?_) | go_size))));))) | quiet_step ((first | (go_at_call 40; (with_reducible refine Calls.regrown_of (cP _ (by repeat' (first | (with_reducible exact Below.refl _ _) | (with_reducible refine below_drewN ?_ _) | (with_reducible refine Below.drew ?_) | (with_reducible refine Below.alloc ?_ ?_ _) | (with_reducible refine Below.setCell ?_ ?_ _) | (with_reducible refine below_step ?_ (by assumption) ?_) | (with_reducible refine below_step ?_ (below_regrown _ _ _) ?_) | go_size))));))))); refine wpQuiet_nil ?_; intro w1 hw1; have hb := below_of_regrown hw1; clear hw1; obtain ⟨hS, hE, hz, hc, hf⟩ := bcell hb; (try simp only [go_sem] at hE); subst hE))
    go_ret
    exact ⟨by rw [hv.out]; rfl, (by repeat' (first | (with_reducible exact Below.refl _ _) | (with_reducible refine below_drewN ?_ _) | (with_reducible refine Below.drew ?_) | (with_reducible refine Below.alloc ?_ ?_ _) | (with_reducible refine Below.setCell ?_ ?_ _) | (with_reducible refine below_step ?_ (by assumption) ?_) | (with_reducible refine below_step ?_ (below_regrown _ _ _) ?_) | go_size))⟩
set_option maxHeartbeats 8000000 in
set_option maxRecDepth 20000 in
theorem start_any (h : DeckI w B0 D) (hB : B0 ≤ w.heap.size) (hl : SmallD D) (id : Int) :
    Calls Tryd.prog 20 #[D.val, .int .i64 id] w fun e w' => e = .returned (.int .i64 (startF D id)) ∧ Below w.heap.size w w' := by
  by_cases hn : InW D id
  · obtain ⟨j, r, c, ha⟩ := at_of hn
    have cP := fun W (hb : Below w.heap.size w W) => plate_at (h.below hb hB) (by have := hb.size; omega) hl id ha
    have hv := hide (start_in hn ha)
    have hmem : D.ps.getD j (⟨0, 0, 0, 0, 0, 0, none, 0, []⟩ : Plt) ∈ D.ps := by rw [List.getD_eq_getElem?_getD, List.getElem?_eq_getElem ha.hj]; exact List.getElem_mem ha.hj
    have hI := hide (h.st _ hmem)
    have hln := hl _ hmem
    clear h hl hn ha hmem
    generalize startF D id = X at *
    obtain ⟨bA, bc, bs, pA, pc, ps, rA, rc, rs, arms⟩ := D
    unfold Dck.val Plt.val at cP
    unfold Dck.val
    dsimp only at cP hv hI hln ⊢
    generalize ps.getD j (⟨0, 0, 0, 0, 0, 0, none, 0, []⟩ : Plt) = q at *
    obtain ⟨rows, cols, x, y, z, cap, qA, qk, ql⟩ := q
    unfold atL at hv
    dsimp only at cP hv hI hln
    generalize r * cols.toNat + c = k at *
    by_cases h1 : ql.length ≤ k
    · rw [if_pos h1] at hv
      go_enter Tryd.func20, Tryd.ntmps20
      go_wp2_with (first | (go_at_call 40; (with_reducible refine (cP _ (by repeat' (first | (with_reducible exact Below.refl _ _) | (with_reducible refine below_drewN ?_ _) | (with_reducible refine Below.drew ?_) | (with_reducible refine Below.alloc ?_ ?_ _) | (with_reducible refine Below.setCell ?_ ?_ _) | (with_reducible refine below_step ?_ (by assumption) ?_) | (with_reducible refine below_step ?_ (below_regrown _ _ _) ?_) | go_size))).mono ?_); rintro e w1 ⟨rfl, hb⟩; obtain ⟨hS, hE, hz, hc, hf⟩ := bcell hb; (try simp only [go_sem] at hE); subst hE) | ((with_reducible change Code.wp _ (Code.region _ _ _) _ _ _); refine wp_region_quiet_below (by kernel_rfl) (by kernel_rfl) ?_; (repeat (first | go_big_quiet_step ((first | (go_at_call 40; (with_reducible refine Calls.regrown_of (cP _ (by repeat' (first | (with_reducible exact Below.refl _ _) | (with_reducible refine below_drewN ?_ _) | (with_reducible refine Below.drew ?_) | (with_reducible refine Below.alloc ?_ ?_ _) | (with_reducible refine Below.setCell ?_ ?_ _) | (with_reducible refine below_step ?_ (by assumption) ?_) | (with_reducible refine below_step ?_ (below_regrown _ _ _) ?_) | go_size))));))) | quiet_step ((first | (go_at_call 40; (with_reducible refine Calls.regrown_of (cP _ (by repeat' (first | (with_reducible exact Below.refl _ _) | (with_reducible refine below_drewN ?_ _) | (with_reducible refine Below.drew ?_) | (with_reducible refine Below.alloc ?_ ?_ _) | (with_reducible refine Below.setCell ?_ ?_ _) | (with_reducible refine below_step ?_ (by assumption) ?_) | (with_reducible refine below_step ?_ (below_regrown _ _ _) ?_) | go_size))));))))); refine wpQuiet_nil ?_; intro w1 hw1; have hb := below_of_regrown hw1; clear hw1; obtain ⟨hS, hE, hz, hc, hf⟩ := bcell hb; (try simp only [go_sem] at hE); subst hE))
      go_ret
      exact ⟨by rw [hv.out]; rfl, (by repeat' (first | (with_reducible exact Below.refl _ _) | (with_reducible refine below_drewN ?_ _) | (with_reducible refine Below.drew ?_) | (with_reducible refine Below.alloc ?_ ?_ _) | (with_reducible refine Below.setCell ?_ ?_ _) | (with_reducible refine below_step ?_ (by assumption) ?_) | (with_reducible refine below_step ?_ (below_regrown _ _ _) ?_) | go_size))⟩
    · rw [if_neg h1] at hv
      obtain ⟨b, off, rfl, hbB, hcell⟩ := hI.out.2 (by omega)
      have d0 := hcell k (by omega)
      have hbw : b < w.heap.size := by omega
      clear hcell
      go_enter Tryd.func20, Tryd.ntmps20
      go_wp2_with (first | (go_at_call 40; (with_reducible refine (cP _ (by repeat' (first | (with_reducible exact Below.refl _ _) | (with_reducible refine below_drewN ?_ _) | (with_reducible refine Below.drew ?_) | (with_reducible refine Below.alloc ?_ ?_ _) | (with_reducible refine Below.setCell ?_ ?_ _) | (with_reducible refine below_step ?_ (by assumption) ?_) | (with_reducible refine below_step ?_ (below_regrown _ _ _) ?_) | go_size))).mono ?_); rintro e w1 ⟨rfl, hb⟩; obtain ⟨hS, hE, hz, hc, hf⟩ := bcell hb; (try simp only [go_sem] at hE); subst hE) | ((with_reducible change Code.wp _ (Code.region _ _ _) _ _ _); refine wp_region_quiet_below (by kernel_rfl) (by kernel_rfl) ?_; (repeat (first | go_big_quiet_step ((first | (go_at_call 40; (with_reducible refine Calls.regrown_of (cP _ (by repeat' (first | (with_reducible exact Below.refl _ _) | (with_reducible refine below_drewN ?_ _) | (with_reducible refine Below.drew ?_) | (with_reducible refine Below.alloc ?_ ?_ _) | (with_reducible refine Below.setCell ?_ ?_ _) | (with_reducible refine below_step ?_ (by assumption) ?_) | (with_reducible refine below_step ?_ (below_regrown _ _ _) ?_) | go_size))));))) | quiet_step ((first | (go_at_call 40; (with_reducible refine Calls.regrown_of (cP _ (by repeat' (first | (with_reducible exact Below.refl _ _) | (with_reducible refine below_drewN ?_ _) | (with_reducible refine Below.drew ?_) | (with_reducible refine Below.alloc ?_ ?_ _) | (with_reducible refine Below.setCell ?_ ?_ _) | (with_reducible refine below_step ?_ (by assumption) ?_) | (with_reducible refine below_step ?_ (below_regrown _ _ _) ?_) | go_size))));))))); refine wpQuiet_nil ?_; intro w1 hw1; have hb := below_of_regrown hw1; clear hw1; obtain ⟨hS, hE, hz, hc, hf⟩ := bcell hb; (try simp only [go_sem] at hE); subst hE))
      go_ret
      exact ⟨by rw [hv.out]; rfl, (by repeat' (first | (with_reducible exact Below.refl _ _) | (with_reducible refine below_drewN ?_ _) | (with_reducible refine Below.drew ?_) | (with_reducible refine Below.alloc ?_ ?_ _) | (with_reducible refine Below.setCell ?_ ?_ _) | (with_reducible refine below_step ?_ (by assumption) ?_) | (with_reducible refine below_step ?_ (below_regrown _ _ _) ?_) | go_size))⟩
  · have cP := fun W (hb : Below w.heap.size w W) => plate_not (h.below hb hB) (by have := hb.size; omega) hl id hn
    have hv : Hid (startF D id = 0) := hide (if_neg hn)
    clear h hl hn
    generalize startF D id = X at *
    obtain ⟨bA, bc, bs, pA, pc, ps, rA, rc, rs, arms⟩ := D
    unfold Dck.val zeroP at cP
    unfold Dck.val
    dsimp only at cP ⊢
    go_enter Tryd.func20, Tryd.ntmps20
    go_wp2_with (first | (go_at_call 40; (with_reducible refine (cP _ (by repeat' (first | (with_reducible exact Below.refl _ _) | (with_reducible refine below_drewN ?_ _) | (with_reducible refine Below.drew ?_) | (with_reducible refine Below.alloc ?_ ?_ _) | (with_reducible refine Below.setCell ?_ ?_ _) | (with_reducible refine below_step ?_ (by assumption) ?_) | (with_reducible refine below_step ?_ (below_regrown _ _ _) ?_) | go_size))).mono ?_); rintro e w1 ⟨rfl, hb⟩; obtain ⟨hS, hE, hz, hc, hf⟩ := bcell hb; (try simp only [go_sem] at hE); subst hE) | ((with_reducible change Code.wp _ (Code.region _ _ _) _ _ _); refine wp_region_quiet_below (by kernel_rfl) (by kernel_rfl) ?_; (repeat (first | go_big_quiet_step ((first | (go_at_call 40; (with_reducible refine Calls.regrown_of (cP _ (by repeat' (first | (with_reducible exact Below.refl _ _) | (with_reducible refine below_drewN ?_ _) | (with_reducible refine Below.drew ?_) | (with_reducible refine Below.alloc ?_ ?_ _) | (with_reducible refine Below.setCell ?_ ?_ _) | (with_reducible refine below_step ?_ (by assumption) ?_) | (with_reducible refine below_step ?_ (below_regrown _ _ _) ?_) | go_size))));))) | quiet_step ((first | (go_at_call 40; (with_reducible refine Calls.regrown_of (cP _ (by repeat' (first | (with_reducible exact Below.refl _ _) | (with_reducible refine below_drewN ?_ _) | (with_reducible refine Below.drew ?_) | (with_reducible refine Below.alloc ?_ ?_ _) | (with_reducible refine Below.setCell ?_ ?_ _) | (with_reducible refine below_step ?_ (by assumption) ?_) | (with_reducible refine below_step ?_ (below_regrown _ _ _) ?_) | go_size))));))))); refine wpQuiet_nil ?_; intro w1 hw1; have hb := below_of_regrown hw1; clear hw1; obtain ⟨hS, hE, hz, hc, hf⟩ := bcell hb; (try simp only [go_sem] at hE); subst hE))
    go_ret
    exact ⟨by rw [hv.out]; rfl, (by repeat' (first | (with_reducible exact Below.refl _ _) | (with_reducible refine below_drewN ?_ _) | (with_reducible refine Below.drew ?_) | (with_reducible refine Below.alloc ?_ ?_ _) | (with_reducible refine Below.setCell ?_ ?_ _) | (with_reducible refine below_step ?_ (by assumption) ?_) | (with_reducible refine below_step ?_ (below_regrown _ _ _) ?_) | go_size))⟩
set_option maxHeartbeats 8000000 in
set_option maxRecDepth 20000 in
theorem rcap_any (h : DeckI w B0 D) (hB : B0 ≤ w.heap.size) (hl : SmallD D) (id : Int) :
    Calls Tryd.prog 19 #[D.val, .int .i64 id] w fun e w' => e = .returned (.int .i64 (capF D id)) ∧ Below w.heap.size w w' := by
  have cP : ∀ W, Below w.heap.size w W → Calls Tryd.prog 13 #[D.val, .int .i64 id] W fun e w' => e = .returned (.tuple #[(partF D id).1.val, .int .i64 (partF D id).2]) ∧ Below W.heap.size W w' :=
    fun W hb => rpart_any (h.below hb hB) (by have := hb.size; omega) hl id
  by_cases hn : InW D id
  · obtain ⟨j, r, c, ha⟩ := at_of hn
    have hv := hide (cap_in hn ha)
    obtain ⟨hp, hj, -, -, -, -⟩ := ha
    rw [hp] at cP
    obtain ⟨b, off, hpA, hbB, hcell⟩ := plt_cells h.ps (by omega) (⟨0, 0, 0, 0, 0, 0, none, 0, []⟩ : Plt)
    obtain ⟨p0, p1, p2, p3, p4, p5, p6⟩ := hcell j hj
    clear h hl hn hp hcell p0 p1 p2 p3 p4 p6
    generalize capF D id = X at *
    obtain ⟨bA, bc, bs, pA, pc, ps, rA, rc, rs, arms⟩ := D
    dsimp only at hpA hj p5 hv
    subst hpA
    unfold Dck.val Pt.val at cP
    unfold Dck.val
    dsimp only at cP ⊢
    generalize ps.getD j (⟨0, 0, 0, 0, 0, 0, none, 0, []⟩ : Plt) = q at *
    obtain ⟨rows, cols, x, y, z, cap, qA, qk, ql⟩ := q
    dsimp only at p5 hv
    have hbw : b < w.heap.size := by omega
    go_enter Tryd.func19, Tryd.ntmps19
    go_wp2_with (first | (go_at_call 13; (with_reducible refine (cP _ (by repeat' (first | (with_reducible exact Below.refl _ _) | (with_reducible refine below_drewN ?_ _) | (with_reducible refine Below.drew ?_) | (with_reducible refine Below.alloc ?_ ?_ _) | (with_reducible refine Below.setCell ?_ ?_ _) | (with_reducible refine below_step ?_ (by assumption) ?_) | (with_reducible refine below_step ?_ (below_regrown _ _ _) ?_) | go_size))).mono ?_); rintro e w1 ⟨rfl, hb⟩; obtain ⟨hS, hE, hz, hc, hf⟩ := bcell hb; (try simp only [go_sem] at hE); subst hE) | ((with_reducible change Code.wp _ (Code.region _ _ _) _ _ _); refine wp_region_quiet_below (by kernel_rfl) (by kernel_rfl) ?_; (repeat (first | go_big_quiet_step ((first | (go_at_call 13; (with_reducible refine Calls.regrown_of (cP _ (by repeat' (first | (with_reducible exact Below.refl _ _) | (with_reducible refine below_drewN ?_ _) | (with_reducible refine Below.drew ?_) | (with_reducible refine Below.alloc ?_ ?_ _) | (with_reducible refine Below.setCell ?_ ?_ _) | (with_reducible refine below_step ?_ (by assumption) ?_) | (with_reducible refine below_step ?_ (below_regrown _ _ _) ?_) | go_size))));))) | quiet_step ((first | (go_at_call 13; (with_reducible refine Calls.regrown_of (cP _ (by repeat' (first | (with_reducible exact Below.refl _ _) | (with_reducible refine below_drewN ?_ _) | (with_reducible refine Below.drew ?_) | (with_reducible refine Below.alloc ?_ ?_ _) | (with_reducible refine Below.setCell ?_ ?_ _) | (with_reducible refine below_step ?_ (by assumption) ?_) | (with_reducible refine below_step ?_ (below_regrown _ _ _) ?_) | go_size))));))))); refine wpQuiet_nil ?_; intro w1 hw1; have hb := below_of_regrown hw1; clear hw1; obtain ⟨hS, hE, hz, hc, hf⟩ := bcell hb; (try simp only [go_sem] at hE); subst hE))
    go_ret
    exact ⟨by rw [hv.out]; rfl, (by repeat' (first | (with_reducible exact Below.refl _ _) | (with_reducible refine below_drewN ?_ _) | (with_reducible refine Below.drew ?_) | (with_reducible refine Below.alloc ?_ ?_ _) | (with_reducible refine Below.setCell ?_ ?_ _) | (with_reducible refine below_step ?_ (by assumption) ?_) | (with_reducible refine below_step ?_ (below_regrown _ _ _) ?_) | go_size))⟩
  · have hv : Hid (capF D id = 0) := hide (if_neg hn)
    have hna := not_at hn
    clear h hl hn
    generalize capF D id = Y at *
    generalize partF D id = X at *
    obtain ⟨⟨k, u, r, c⟩, e⟩ := X
    obtain ⟨bA, bc, bs, pA, pc, ps, rA, rc, rs, arms⟩ := D
    unfold Dck.val Pt.val at cP
    unfold Dck.val
    dsimp only at cP hna ⊢
    rcases hna with h1 | ⟨rfl, h1⟩
    · have g1 : (e == 0) = false := beq_false_of_ne h1
      have g2 : (e != 0) = true := bne_iff_ne.2 h1
      go_enter Tryd.func19, Tryd.ntmps19
      go_wp2_with (first | (go_at_call 13; (with_reducible refine (cP _ (by repeat' (first | (with_reducible exact Below.refl _ _) | (with_reducible refine below_drewN ?_ _) | (with_reducible refine Below.drew ?_) | (with_reducible refine Below.alloc ?_ ?_ _) | (with_reducible refine Below.setCell ?_ ?_ _) | (with_reducible refine below_step ?_ (by assumption) ?_) | (with_reducible refine below_step ?_ (below_regrown _ _ _) ?_) | go_size))).mono ?_); rintro e w1 ⟨rfl, hb⟩; obtain ⟨hS, hE, hz, hc, hf⟩ := bcell hb; (try simp only [go_sem] at hE); subst hE) | ((with_reducible change Code.wp _ (Code.region _ _ _) _ _ _); refine wp_region_quiet_below (by kernel_rfl) (by kernel_rfl) ?_; (repeat (first | go_big_quiet_step ((first | (go_at_call 13; (with_reducible refine Calls.regrown_of (cP _ (by repeat' (first | (with_reducible exact Below.refl _ _) | (with_reducible refine below_drewN ?_ _) | (with_reducible refine Below.drew ?_) | (with_reducible refine Below.alloc ?_ ?_ _) | (with_reducible refine Below.setCell ?_ ?_ _) | (with_reducible refine below_step ?_ (by assumption) ?_) | (with_reducible refine below_step ?_ (below_regrown _ _ _) ?_) | go_size))));))) | quiet_step ((first | (go_at_call 13; (with_reducible refine Calls.regrown_of (cP _ (by repeat' (first | (with_reducible exact Below.refl _ _) | (with_reducible refine below_drewN ?_ _) | (with_reducible refine Below.drew ?_) | (with_reducible refine Below.alloc ?_ ?_ _) | (with_reducible refine Below.setCell ?_ ?_ _) | (with_reducible refine below_step ?_ (by assumption) ?_) | (with_reducible refine below_step ?_ (below_regrown _ _ _) ?_) | go_size))));))))); refine wpQuiet_nil ?_; intro w1 hw1; have hb := below_of_regrown hw1; clear hw1; obtain ⟨hS, hE, hz, hc, hf⟩ := bcell hb; (try simp only [go_sem] at hE); subst hE))
      go_ret
      exact ⟨by rw [hv.out]; rfl, (by repeat' (first | (with_reducible exact Below.refl _ _) | (with_reducible refine below_drewN ?_ _) | (with_reducible refine Below.drew ?_) | (with_reducible refine Below.alloc ?_ ?_ _) | (with_reducible refine Below.setCell ?_ ?_ _) | (with_reducible refine below_step ?_ (by assumption) ?_) | (with_reducible refine below_step ?_ (below_regrown _ _ _) ?_) | go_size))⟩
    · have g1 : (k == 1) = false := beq_false_of_ne h1
      have g2 : (k != 1) = true := bne_iff_ne.2 h1
      go_enter Tryd.func19, Tryd.ntmps19
      go_wp2_with (first | (go_at_call 13; (with_reducible refine (cP _ (by repeat' (first | (with_reducible exact Below.refl _ _) | (with_reducible refine below_drewN ?_ _) | (with_reducible refine Below.drew ?_) | (with_reducible refine Below.alloc ?_ ?_ _) | (with_reducible refine Below.setCell ?_ ?_ _) | (with_reducible refine below_step ?_ (by assumption) ?_) | (with_reducible refine below_step ?_ (below_regrown _ _ _) ?_) | go_size))).mono ?_); rintro e w1 ⟨rfl, hb⟩; obtain ⟨hS, hE, hz, hc, hf⟩ := bcell hb; (try simp only [go_sem] at hE); subst hE) | ((with_reducible change Code.wp _ (Code.region _ _ _) _ _ _); refine wp_region_quiet_below (by kernel_rfl) (by kernel_rfl) ?_; (repeat (first | go_big_quiet_step ((first | (go_at_call 13; (with_reducible refine Calls.regrown_of (cP _ (by repeat' (first | (with_reducible exact Below.refl _ _) | (with_reducible refine below_drewN ?_ _) | (with_reducible refine Below.drew ?_) | (with_reducible refine Below.alloc ?_ ?_ _) | (with_reducible refine Below.setCell ?_ ?_ _) | (with_reducible refine below_step ?_ (by assumption) ?_) | (with_reducible refine below_step ?_ (below_regrown _ _ _) ?_) | go_size))));))) | quiet_step ((first | (go_at_call 13; (with_reducible refine Calls.regrown_of (cP _ (by repeat' (first | (with_reducible exact Below.refl _ _) | (with_reducible refine below_drewN ?_ _) | (with_reducible refine Below.drew ?_) | (with_reducible refine Below.alloc ?_ ?_ _) | (with_reducible refine Below.setCell ?_ ?_ _) | (with_reducible refine below_step ?_ (by assumption) ?_) | (with_reducible refine below_step ?_ (below_regrown _ _ _) ?_) | go_size))));))))); refine wpQuiet_nil ?_; intro w1 hw1; have hb := below_of_regrown hw1; clear hw1; obtain ⟨hS, hE, hz, hc, hf⟩ := bcell hb; (try simp only [go_sem] at hE); subst hE))
      go_ret
      exact ⟨by rw [hv.out]; rfl, (by repeat' (first | (with_reducible exact Below.refl _ _) | (with_reducible refine below_drewN ?_ _) | (with_reducible refine Below.drew ?_) | (with_reducible refine Below.alloc ?_ ?_ _) | (with_reducible refine Below.setCell ?_ ?_ _) | (with_reducible refine below_step ?_ (by assumption) ?_) | (with_reducible refine below_step ?_ (below_regrown _ _ _) ?_) | go_size))⟩
end
end Go.Proofs.YtfckciblnojniaaDoor.Dk
