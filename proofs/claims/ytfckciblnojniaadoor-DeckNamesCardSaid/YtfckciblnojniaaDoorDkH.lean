/- The plain law of a deck's parts: each id has one part, each part one id. No condition. -/
import Derived.Test.YtfckciblnojniaaDoorDkG
namespace Go.Proofs.YtfckciblnojniaaDoor.Dk
set_option linter.unusedVariables false
set_option linter.unusedSimpArgs false
/-- A part: kind, unit, row, column. -/
structure Pt where
  (k u r c : Int)
  deriving DecidableEq
def encPt (p : Pt) : List Value := [.int .i64 p.k, .int .i64 p.u, .int .i64 p.r, .int .i64 p.c]
theorem encPt_len (p : Pt) : (encPt p).length = 4 := rfl
theorem encPt_one (p : Pt) : ∀ u ∈ encPt p, u.oneCell' = true := by intro u hu; simp only [encPt, List.mem_cons, List.not_mem_nil, or_false] at hu; rcases hu with rfl | rfl | rfl | rfl <;> rfl
def Pt.val (p : Pt) : Value := .agg #[.int .i64 p.k, .int .i64 p.u, .int .i64 p.r, .int .i64 p.c]
def ptAt (kind : Int) (u c n : Nat) : Pt := ⟨kind, u, (n / c : Nat), (n % c : Nat)⟩
def boxParts (kind : Int) (u r c : Nat) : List Pt := (List.range (r * c)).map (ptAt kind u c)
def partsFrom (kind : Int) : Nat → List Bx → List Pt
  | _, [] => []
  | u, b :: t => boxParts kind u b.1.toNat b.2.toNat ++ partsFrom kind (u + 1) t
def placeL (kind : Int) : Nat → List Bx → Nat → Pt
  | _, [], _ => ⟨kind, 0, 0, 0⟩
  | u, b :: t, n => if n < b.1.toNat * b.2.toNat then ptAt kind u b.2.toNat n else placeL kind (u + 1) t (n - b.1.toNat * b.2.toNat)
theorem sumN_cons (b : Bx) (t : List Bx) : sumN (b :: t) = b.1.toNat * b.2.toNat + sumN t := by simp [sumN]
theorem boxParts_len (kind : Int) (u r c : Nat) : (boxParts kind u r c).length = r * c := by simp [boxParts]
theorem partsFrom_len (kind : Int) : ∀ (l : List Bx) (u : Nat), (partsFrom kind u l).length = sumN l
  | [], _ => rfl
  | b :: t, u => by rw [partsFrom, List.length_append, boxParts_len, partsFrom_len kind t, sumN_cons]
theorem partsFrom_get (kind : Int) : ∀ (l : List Bx) (u n : Nat), n < sumN l → (partsFrom kind u l)[n]? = some (placeL kind u l n)
  | [], _, n, h => absurd h (by simp [sumN])
  | b :: t, u, n, h => by
    rw [sumN_cons] at h
    rw [partsFrom, placeL]
    by_cases hn : n < b.1.toNat * b.2.toNat
    · rw [if_pos hn, List.getElem?_append_left (by rw [boxParts_len]; exact hn), boxParts, List.getElem?_map, List.getElem?_range hn]
      rfl
    · rw [if_neg hn, List.getElem?_append_right (by rw [boxParts_len]; omega), boxParts_len]
      exact partsFrom_get kind t _ _ (by omega)
/-- Where the part so far along stands. -/
theorem placeL_spec (kind : Int) : ∀ (l : List Bx) (u n : Nat), n < sumN l → ∃ j r c : Nat, j < l.length ∧ placeL kind u l n = ⟨kind, (u + j : Nat), r, c⟩ ∧ r < (l.getD j default).1.toNat ∧ c < (l.getD j default).2.toNat ∧ n = sumN (l.take j) + r * (l.getD j default).2.toNat + c
  | [], _, n, h => absurd h (by simp [sumN])
  | b :: t, u, n, h => by
    rw [sumN_cons] at h
    by_cases hn : n < b.1.toNat * b.2.toNat
    · have hc : 0 < b.2.toNat := by
        rcases Nat.eq_zero_or_pos b.2.toNat with h0 | h0
        · rw [h0, Nat.mul_zero] at hn; omega
        · exact h0
      refine ⟨0, n / b.2.toNat, n % b.2.toNat, by simp, ?_, ?_, ?_, ?_⟩
      · rw [placeL, if_pos hn]; rfl
      · exact (Nat.div_lt_iff_lt_mul hc).2 hn
      · exact Nat.mod_lt _ hc
      · have := Nat.div_add_mod n b.2.toNat
        have e : n / b.2.toNat * b.2.toNat = b.2.toNat * (n / b.2.toNat) := Nat.mul_comm _ _
        simp only [List.take_zero, List.getD_cons_zero, sumN, List.map_nil, List.sum_nil]
        omega
    · obtain ⟨j, r, c, h1, h2, h3, h4, h5⟩ := placeL_spec kind t (u + 1) (n - b.1.toNat * b.2.toNat) (by omega)
      refine ⟨j + 1, r, c, by simp; omega, ?_, by rw [List.getD_cons_succ]; exact h3, by rw [List.getD_cons_succ]; exact h4, ?_⟩
      · rw [placeL, if_neg hn, h2, show u + 1 + j = u + (j + 1) by omega]
      · rw [List.getD_cons_succ, List.take_succ_cons, sumN_cons]
        omega
theorem placeL_back (kind : Int) : ∀ (l : List Bx) (u j r c : Nat), j < l.length → r < (l.getD j default).1.toNat → c < (l.getD j default).2.toNat →
    sumN (l.take j) + r * (l.getD j default).2.toNat + c < sumN l ∧ placeL kind u l (sumN (l.take j) + r * (l.getD j default).2.toNat + c) = ⟨kind, (u + j : Nat), r, c⟩
  | [], _, j, _, _, h, _, _ => absurd h (by simp)
  | b :: t, u, 0, r, c, _, hr, hc => by
    rw [List.getD_cons_zero] at hr hc ⊢
    have hlt : r * b.2.toNat + c < b.1.toNat * b.2.toNat := by
      have h1 : (r + 1) * b.2.toNat ≤ b.1.toNat * b.2.toNat := Nat.mul_le_mul_right _ hr
      rw [Nat.succ_mul] at h1
      omega
    have e : sumN ((b :: t).take 0) + r * b.2.toNat + c = r * b.2.toNat + c := by simp [sumN]
    rw [e, placeL, if_pos hlt, sumN_cons]
    refine ⟨by omega, ?_⟩
    unfold ptAt
    rw [Nat.mul_comm r, Nat.mul_add_div (by omega), Nat.div_eq_of_lt hc, Nat.mul_add_mod, Nat.mod_eq_of_lt hc]
    rfl
  | b :: t, u, j + 1, r, c, h, hr, hc => by
    rw [List.getD_cons_succ] at hr hc ⊢
    obtain ⟨h1, h2⟩ := placeL_back kind t (u + 1) j r c (by simpa using h) hr hc
    rw [List.take_succ_cons, sumN_cons, sumN_cons, placeL]
    have e : b.1.toNat * b.2.toNat + sumN (t.take j) + r * (t.getD j default).2.toNat + c - b.1.toNat * b.2.toNat = sumN (t.take j) + r * (t.getD j default).2.toNat + c := by omega
    rw [if_neg (by omega), e, h2, show u + 1 + j = u + (j + 1) by omega]
    exact ⟨by omega, rfl⟩
def lanesL (n : Nat) : List Pt := (List.range n).map fun i => ⟨3, (i : Nat), 0, 0⟩
/-- All parts of a deck, in the order of their ids. -/
def partsD (D : Dck) : List Pt := if chkD D = 0 then partsFrom 1 0 (D.ps.map Plt.box) ++ partsFrom 2 0 (D.rs.map Rck.box) ++ lanesL (D.bs.length - 1) else []
def partAt (D : Dck) (i : Nat) : Pt := if i < nW D then placeL 1 0 (D.ps.map Plt.box) i else if i < nW D + nT D then placeL 2 0 (D.rs.map Rck.box) (i - nW D) else ⟨3, (i - nW D - nT D : Nat), 0, 0⟩
theorem parts_len (D : Dck) : (partsD D).length = nW D + nT D + nL D := by
  unfold partsD nW nT nL
  by_cases h : chkD D = 0
  · simp only [if_pos h, List.length_append, partsFrom_len, lanesL, List.length_map, List.length_range]
  · simp only [if_neg h, List.length_nil]
theorem parts_get (D : Dck) (i : Nat) (h : i < nW D + nT D + nL D) : (partsD D)[i]? = some (partAt D i) := by
  unfold partsD partAt
  by_cases h0 : chkD D = 0
  case neg => unfold nW nT nL at h; simp only [if_neg h0] at h; omega
  have e1 : nW D = sumN (D.ps.map Plt.box) := if_pos h0
  have e2 : nT D = sumN (D.rs.map Rck.box) := if_pos h0
  have e3 : nL D = D.bs.length - 1 := if_pos h0
  rw [if_pos h0, e1, e2]
  rw [e1, e2, e3] at h
  by_cases h1 : i < sumN (D.ps.map Plt.box)
  · rw [if_pos h1, List.getElem?_append_left (by rw [List.length_append, partsFrom_len]; omega), List.getElem?_append_left (by rw [partsFrom_len]; exact h1)]
    exact partsFrom_get 1 _ 0 i h1
  rw [if_neg h1]
  by_cases h2 : i < sumN (D.ps.map Plt.box) + sumN (D.rs.map Rck.box)
  · rw [if_pos h2, List.getElem?_append_left (by rw [List.length_append, partsFrom_len, partsFrom_len]; omega), List.getElem?_append_right (by rw [partsFrom_len]; omega), partsFrom_len]
    exact partsFrom_get 2 _ 0 _ (by omega)
  rw [if_neg h2, List.getElem?_append_right (by rw [List.length_append, partsFrom_len, partsFrom_len]; omega), List.length_append, partsFrom_len, partsFrom_len, lanesL, List.getElem?_map, List.getElem?_range (by omega), Option.map_some, Nat.sub_add_eq]
/-- The part of an id. -/
def partF (D : Dck) (id : Int) : Pt × Int := if chkD D ≠ 0 then (⟨0, 0, 0, 0⟩, chkD D) else if id < 0 ∨ ((nW D + nT D + nL D : Nat) : Int) ≤ id then (⟨0, 0, 0, 0⟩, 3) else (partAt D id.toNat, 0)
/-- How far along in boxes a part stands. -/
def alongF (l : List Bx) (p : Pt) : Int :=
  if p.u < 0 ∨ (l.length : Int) ≤ p.u then -1 else if p.r < 0 ∨ (l.getD p.u.toNat default).1 ≤ p.r ∨ p.c < 0 ∨ (l.getD p.u.toNat default).2 ≤ p.c then -1 else ((sumN (l.take p.u.toNat) + p.r.toNat * (l.getD p.u.toNat default).2.toNat + p.c.toNat : Nat) : Int)
def stepF (D : Dck) (p : Pt) : Int × Nat :=
  if p.k = 1 then (alongF (D.ps.map Plt.box) p, 0) else if p.k = 2 then (alongF (D.rs.map Rck.box) p, nW D) else if p.k = 3 then (if 0 ≤ p.u ∧ p.u < (nL D : Int) ∧ p.r = 0 ∧ p.c = 0 then (p.u, nW D + nT D) else (-1, 0)) else (-1, 0)
/-- A part's id. -/
def idF (D : Dck) (p : Pt) : Int × Int := if chkD D ≠ 0 then (0, chkD D) else if (stepF D p).1 < 0 then (0, 3) else (((stepF D p).2 : Int) + (stepF D p).1, 0)
theorem along_place {kind : Int} {l : List Bx} {n : Nat} (h : n < sumN l) : alongF l (placeL kind 0 l n) = n := by
  obtain ⟨j, r, c, h1, h2, h3, h4, h5⟩ := placeL_spec kind l 0 n h
  rw [h2, Nat.zero_add]
  unfold alongF
  dsimp only
  rw [if_neg (by omega), Int.toNat_natCast, Int.toNat_natCast, Int.toNat_natCast, if_neg (by omega), h5]
theorem place_along {kind : Int} {l : List Bx} {p : Pt} {n : Int} (hk : p.k = kind) (h : alongF l p = n) (h0 : 0 ≤ n) : n.toNat < sumN l ∧ placeL kind 0 l n.toNat = p := by
  unfold alongF at h
  by_cases h1 : p.u < 0 ∨ (l.length : Int) ≤ p.u
  · rw [if_pos h1] at h; omega
  rw [if_neg h1] at h
  by_cases h2 : p.r < 0 ∨ (l.getD p.u.toNat default).1 ≤ p.r ∨ p.c < 0 ∨ (l.getD p.u.toNat default).2 ≤ p.c
  · rw [if_pos h2] at h; omega
  rw [if_neg h2] at h
  obtain ⟨g1, g2⟩ := placeL_back kind l 0 p.u.toNat p.r.toNat p.c.toNat (by omega) (by omega) (by omega)
  subst h
  rw [Int.toNat_natCast]
  refine ⟨g1, ?_⟩
  rw [g2]
  obtain ⟨k, u, r, c⟩ := p
  dsimp only at hk h1 h2 ⊢
  subst hk
  rw [Nat.zero_add, Int.toNat_of_nonneg (by omega), Int.toNat_of_nonneg (by omega), Int.toNat_of_nonneg (by omega)]
theorem place_kind (kind : Int) (l : List Bx) : ∀ (u n : Nat), (placeL kind u l n).k = kind := by
  induction l with
  | nil => intro u n; rfl
  | cons b t ih =>
    intro u n
    rw [placeL]
    by_cases h : n < b.1.toNat * b.2.toNat
    · rw [if_pos h]; rfl
    · rw [if_neg h]; exact ih _ _
theorem id_part {D : Dck} (h0 : chkD D = 0) {i : Nat} (h : i < nW D + nT D + nL D) : idF D (partAt D i) = ((i : Int), 0) := by
  have e1 : nW D = sumN (D.ps.map Plt.box) := if_pos h0
  have e2 : nT D = sumN (D.rs.map Rck.box) := if_pos h0
  have hs : stepF D (partAt D i) = if i < nW D then ((i : Int), 0) else if i < nW D + nT D then (((i - nW D : Nat) : Int), nW D) else (((i - nW D - nT D : Nat) : Int), nW D + nT D) := by
    unfold partAt
    by_cases h1 : i < nW D
    · rw [if_pos h1, if_pos h1]
      unfold stepF
      rw [place_kind, if_pos rfl, along_place (by omega)]
    rw [if_neg h1, if_neg h1]
    by_cases h2 : i < nW D + nT D
    · rw [if_pos h2, if_pos h2]
      unfold stepF
      rw [place_kind, if_neg (by decide), if_pos rfl, along_place (by omega)]
    rw [if_neg h2, if_neg h2]
    unfold stepF
    dsimp only
    rw [if_neg (by decide), if_neg (by decide), if_pos rfl, if_pos ⟨by omega, by omega, rfl, rfl⟩]
  unfold idF
  rw [if_neg (by simpa using h0), hs]
  by_cases h1 : i < nW D
  · rw [if_pos h1, if_neg (by dsimp only; omega)]; simp
  rw [if_neg h1]
  by_cases h2 : i < nW D + nT D
  · rw [if_pos h2, if_neg (by dsimp only; omega)]; simp only [Prod.mk.injEq, and_true]; omega
  rw [if_neg h2, if_neg (by dsimp only; omega)]
  simp only [Prod.mk.injEq, and_true]; omega
theorem part_id {D : Dck} (h0 : chkD D = 0) {p : Pt} {n : Int} (h : idF D p = (n, 0)) : 0 ≤ n ∧ n.toNat < nW D + nT D + nL D ∧ partAt D n.toNat = p := by
  have e1 : nW D = sumN (D.ps.map Plt.box) := if_pos h0
  have e2 : nT D = sumN (D.rs.map Rck.box) := if_pos h0
  unfold idF at h
  rw [if_neg (by simpa using h0)] at h
  by_cases g : (stepF D p).1 < 0
  · rw [if_pos g] at h; simp at h
  rw [if_neg g] at h
  simp only [Prod.mk.injEq, and_true] at h
  subst h
  unfold stepF at g ⊢
  by_cases k1 : p.k = 1
  · simp only [if_pos k1] at g ⊢
    obtain ⟨g1, g2⟩ := place_along (kind := 1) (l := D.ps.map Plt.box) k1 rfl (by omega)
    have e : ((0 : Nat) : Int) + alongF (D.ps.map Plt.box) p = alongF (D.ps.map Plt.box) p := by omega
    rw [e]
    refine ⟨by omega, by omega, ?_⟩
    unfold partAt
    rw [if_pos (by omega)]
    exact g2
  by_cases k2 : p.k = 2
  · simp only [if_neg k1, if_pos k2] at g ⊢
    obtain ⟨g1, g2⟩ := place_along (kind := 2) (l := D.rs.map Rck.box) k2 rfl (by omega)
    refine ⟨by omega, by omega, ?_⟩
    unfold partAt
    rw [if_neg (by omega), if_pos (by omega)]
    rw [show ((nW D : Int) + alongF (D.rs.map Rck.box) p).toNat - nW D = (alongF (D.rs.map Rck.box) p).toNat by omega]
    exact g2
  by_cases k3 : p.k = 3
  · by_cases g3 : 0 ≤ p.u ∧ p.u < (nL D : Int) ∧ p.r = 0 ∧ p.c = 0
    · simp only [if_neg k1, if_neg k2, if_pos k3, if_pos g3] at g ⊢
      obtain ⟨a1, a2, a3, a4⟩ := g3
      refine ⟨by omega, by omega, ?_⟩
      unfold partAt
      rw [if_neg (by omega), if_neg (by omega)]
      obtain ⟨k, u, r, c⟩ := p
      dsimp only at *
      subst k3 a3 a4
      simp only [Pt.mk.injEq, and_true, true_and]
      omega
    · simp only [if_neg k1, if_neg k2, if_pos k3, if_neg g3] at g
      omega
  · simp only [if_neg k1, if_neg k2, if_neg k3] at g
    omega
end Go.Proofs.YtfckciblnojniaaDoor.Dk
