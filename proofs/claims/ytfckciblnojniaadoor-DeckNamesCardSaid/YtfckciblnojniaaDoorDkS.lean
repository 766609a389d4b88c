/- The plain law of a deck's names: each id has one name, each name one id. No condition. -/
import Derived.Test.YtfckciblnojniaaDoorDkQ
import Derived.Test.YtfckciblnojniaaDoorWCut
namespace Go.Proofs.YtfckciblnojniaaDoor.Dk
open Go.Proofs.YtfckciblnojniaaDoor.Num Go.Proofs.YtfckciblnojniaaDoor.Well
set_option linter.unusedVariables false
set_option linter.unusedSimpArgs false
def letterB (k : Int) : UInt8 := if k = 1 then 80 else if k = 2 then 84 else 76
def kindOf (x : UInt8) : Int := Lib.indexByte [80, 84, 76] x + 1
theorem kind_cases (x : UInt8) : (x = 80 ∧ kindOf x = 1) ∨ (x = 84 ∧ kindOf x = 2) ∨ (x = 76 ∧ kindOf x = 3) ∨ kindOf x = 0 := by
  unfold kindOf Lib.indexByte Lib.indexByte Lib.indexByte Lib.indexByte
  by_cases h1 : x = 80
  · subst h1; exact .inl ⟨rfl, by decide⟩
  by_cases h2 : x = 84
  · subst h2; exact .inr (.inl ⟨rfl, by decide⟩)
  by_cases h3 : x = 76
  · subst h3; exact .inr (.inr (.inl ⟨rfl, by decide⟩))
  right; right; right
  have e1 : ((80 : UInt8) == x) = false := beq_false_of_ne (fun h => h1 h.symm)
  have e2 : ((84 : UInt8) == x) = false := beq_false_of_ne (fun h => h2 h.symm)
  have e3 : ((76 : UInt8) == x) = false := beq_false_of_ne (fun h => h3 h.symm)
  simp [e1, e2, e3]
/-- The name of a part. -/
def partNm (p : Pt) : List UInt8 := letterB p.k :: (Lib.itoa p.u ++ (if p.k = 3 then [] else 46 :: (nameS p.r p.c).data.toList))
def bad3 : Int × Int := (0, 3)
/-- The id of a text's tail, where its kind is told. -/
def findT (D : Dck) (k : Int) (t : List UInt8) : Int × Int :=
  if (parseL (Lib.cut t [46]).1).2 ≠ 0 ∨ (Lib.cut t [46]).2.2 = decide (k = 3) then (0, 3)
  else if (Lib.cut t [46]).2.2 = true then
    (if (parseW ⟨(Lib.cut t [46]).2.1.toArray⟩).2.2 ≠ 0 then (0, 3) else idF D ⟨k, (parseL (Lib.cut t [46]).1).1, (parseW ⟨(Lib.cut t [46]).2.1.toArray⟩).1, (parseW ⟨(Lib.cut t [46]).2.1.toArray⟩).2.1⟩)
  else idF D ⟨k, (parseL (Lib.cut t [46]).1).1, 0, 0⟩
/-- The id of a text. -/
def findF (D : Dck) : List UInt8 → Int × Int
  | [] => if chkD D ≠ 0 then (0, chkD D) else (0, 3)
  | x :: t => if chkD D ≠ 0 then (0, chkD D) else findT D (kindOf x) t
theorem cut_mid (c : UInt8) (r : List UInt8) : ∀ l : List UInt8, c ∉ l → Lib.cut (l ++ c :: r) [c] = (l, r, true)
  | [], _ => cut_here c r
  | x :: l, h => by
    simp only [List.mem_cons, not_or] at h
    rw [List.cons_append, cut_on _ (fun e => h.1 e.symm), cut_mid c r l h.2]
    rfl
theorem cut_not (c : UInt8) (l : List UInt8) (h : c ∉ l) : Lib.cut l [c] = (l, [], false) := by
  rcases cut_split c l with ⟨_, h2, _⟩ | ⟨_, _, h3⟩
  · exact h2
  · exact absurd (by rw [h3]; simp) h
theorem no_dot (u : Nat) : (46 : UInt8) ∉ Lib.itoa (u : Int) := by
  intro h
  unfold Lib.itoa at h
  rw [if_neg (by omega), Int.toNat_natCast] at h
  obtain ⟨j, hj, e⟩ := List.getElem_of_mem h
  obtain ⟨_, h2, _⟩ := dec_ok u
  have h3 := allD_get h2 j hj
  unfold fb at h3
  rw [List.getD_eq_getElem?_getD, List.getElem?_eq_getElem hj, e] at h3
  simp at h3
theorem idF_cases {D : Dck} (h0 : chkD D = 0) (p : Pt) : idF D p = (0, 3) ∨ ∃ n : Nat, idF D p = ((n : Int), 0) ∧ n < nW D + nT D + nL D ∧ partAt D n = p := by
  by_cases g : (stepF D p).1 < 0
  · left; unfold idF; rw [if_neg (by simpa using h0), if_pos g]
  · right
    have e : idF D p = (((stepF D p).2 : Int) + (stepF D p).1, 0) := by unfold idF; rw [if_neg (by simpa using h0), if_neg g]
    obtain ⟨h1, h2, h3⟩ := part_id h0 e
    refine ⟨_, ?_, h2, h3⟩
    rw [e, Int.toNat_of_nonneg h1]
/-- What a part of a deck is. -/
theorem part_form {D : Dck} (h0 : chkD D = 0) {i : Nat} (h : i < nW D + nT D + nL D) : ∃ u r c : Nat, u ≤ 24 ∧ r ≤ 31 ∧ c ≤ 47 ∧ ((partAt D i = ⟨1, (u : Nat), (r : Nat), (c : Nat)⟩ ∧ i < nW D) ∨ (partAt D i = ⟨2, (u : Nat), (r : Nat), (c : Nat)⟩ ∧ ¬ i < nW D) ∨ (partAt D i = ⟨3, (u : Nat), 0, 0⟩ ∧ ¬ i < nW D)) := by
  have hg := good_of h0
  have e1 : nW D = sumN (D.ps.map Plt.box) := if_pos h0
  have e2 : nT D = sumN (D.rs.map Rck.box) := if_pos h0
  have e3 : nL D = D.bs.length - 1 := if_pos h0
  have hb := hg.b25
  have hp4 := hg.p4
  have hr4 := hg.r4
  unfold partAt
  by_cases h1 : i < nW D
  · rw [if_pos h1]
    obtain ⟨j, r, c, g1, g2, g3, g4, _⟩ := placeL_spec 1 (D.ps.map Plt.box) 0 i (by omega)
    obtain ⟨m1, m2, m3, m4⟩ := may_iff.1 (allmay_P hg.gp j g1)
    rw [List.length_map] at g1
    exact ⟨j, r, c, by omega, by omega, by omega, .inl ⟨by rw [g2, Nat.zero_add], h1⟩⟩
  rw [if_neg h1]
  by_cases h2 : i < nW D + nT D
  · rw [if_pos h2]
    obtain ⟨j, r, c, g1, g2, g3, g4, _⟩ := placeL_spec 2 (D.rs.map Rck.box) 0 (i - nW D) (by omega)
    obtain ⟨m1, m2, m3, m4⟩ := may_iff.1 (allmay_R hg.gr j g1)
    rw [List.length_map] at g1
    exact ⟨j, r, c, by omega, by omega, by omega, .inr (.inl ⟨by rw [g2, Nat.zero_add], h1⟩)⟩
  · rw [if_neg h2]
    exact ⟨i - nW D - nT D, 0, 0, by omega, by omega, by omega, .inr (.inr ⟨rfl, h1⟩)⟩
theorem mk_list (l : List UInt8) : (⟨(l.toArray)⟩ : ByteArray).data.toList = l := by simp
theorem mk_of (s : ByteArray) : (⟨s.data.toList.toArray⟩ : ByteArray) = s := by
  cases s; simp
theorem find_box {D : Dck} {k u r c : Nat} (hk : k = 1 ∨ k = 2) (hu : u ≤ 24) (hr : r ≤ 31) (hc : c ≤ 47) :
    findT D k (Lib.itoa (u : Int) ++ 46 :: (nameS r c).data.toList) = idF D ⟨k, (u : Nat), (r : Nat), (c : Nat)⟩ := by
  unfold findT
  rw [cut_mid 46 _ _ (no_dot u)]
  dsimp only
  rw [read_of_text (u : Int) (by unfold In64; omega), mk_of, nameS_nat hr hc, parse_name r c hr hc]
  have h3 : decide ((k : Int) = 3) = false := by rcases hk with rfl | rfl <;> decide
  rw [h3]
  simp
theorem find_lane {D : Dck} {u : Nat} (hu : u ≤ 24) : findT D 3 (Lib.itoa (u : Int)) = idF D ⟨3, (u : Nat), 0, 0⟩ := by
  unfold findT
  rw [cut_not 46 _ (no_dot u)]
  dsimp only
  rw [read_of_text (u : Int) (by unfold In64; omega)]
  simp
theorem find_nil {D : Dck} (h0 : chkD D = 0) : findF D [] = (0, 3) := by
  unfold findF; exact if_neg (by simpa using h0)
theorem find_cons {D : Dck} (h0 : chkD D = 0) (x : UInt8) (t : List UInt8) : findF D (x :: t) = findT D (kindOf x) t := by
  show (if chkD D ≠ 0 then (0, chkD D) else findT D (kindOf x) t) = _
  exact if_neg (by simpa using h0)
theorem nm_box (k u r c : Int) (h : k ≠ 3) : partNm ⟨k, u, r, c⟩ = letterB k :: (Lib.itoa u ++ 46 :: (nameS r c).data.toList) := by
  unfold partNm; rw [if_neg h]
theorem nm_lane (u r c : Int) : partNm ⟨3, u, r, c⟩ = letterB 3 :: Lib.itoa u := by
  unfold partNm; rw [if_pos rfl, List.append_nil]
theorem find_name {D : Dck} (h0 : chkD D = 0) {i : Nat} (h : i < nW D + nT D + nL D) : findF D (partNm (partAt D i)) = ((i : Int), 0) := by
  rw [← id_part h0 h]
  obtain ⟨u, r, c, hu, hr, hc, ⟨e, _⟩ | ⟨e, _⟩ | ⟨e, _⟩⟩ := part_form h0 h
  · rw [e, nm_box _ _ _ _ (by decide), find_cons h0]
    exact find_box (D := D) (k := 1) (.inl rfl) hu hr hc
  · rw [e, nm_box _ _ _ _ (by decide), find_cons h0]
    exact find_box (D := D) (k := 2) (.inr rfl) hu hr hc
  · rw [e, nm_lane, find_cons h0]
    exact find_lane (D := D) hu
theorem name_find {D : Dck} (h0 : chkD D = 0) (s : List UInt8) : findF D s = (0, 3) ∨ ∃ n : Nat, findF D s = ((n : Int), 0) ∧ n < nW D + nT D + nL D ∧ partNm (partAt D n) = s := by
  match s with
  | [] => exact .inl (find_nil h0)
  | x :: t =>
    rw [find_cons h0]
    unfold findT
    by_cases h1 : (parseL (Lib.cut t [46]).1).2 ≠ 0 ∨ (Lib.cut t [46]).2.2 = decide (kindOf x = 3)
    · rw [if_pos h1]; exact .inl rfl
    rw [if_neg h1]
    rw [not_or] at h1
    obtain ⟨h1, h2⟩ := h1
    have hit : Lib.itoa (parseL (Lib.cut t [46]).1).1 = (Lib.cut t [46]).1 := by
      rcases text_of_read (Lib.cut t [46]).1 with e | ⟨_, _, e⟩
      · rw [e] at h1; exact absurd (by decide) h1
      · exact e
    have hkind : ∀ p : Pt, p.k = kindOf x → (∃ n : Nat, n < nW D + nT D + nL D ∧ partAt D n = p) → letterB p.k = x ∧ (p.k = 3 ↔ kindOf x = 3) := by
      intro p hp ⟨n, hn, e⟩
      have hpk := part_kind D n
      rw [e, hp] at hpk
      refine ⟨?_, by rw [hp]⟩
      rw [hp]
      rcases kind_cases x with ⟨rfl, g⟩ | ⟨rfl, g⟩ | ⟨rfl, g⟩ | g
      · rw [g]; rfl
      · rw [g]; rfl
      · rw [g]; rfl
      · rw [g] at hpk; split at hpk <;> (try split at hpk) <;> simp at hpk
    rcases cut_split 46 t with ⟨c1, c2, _⟩ | ⟨c1, _, c3⟩
    · rw [c1] at h2 ⊢
      rw [if_neg (by decide)]
      have hk3 : kindOf x = 3 := by simpa using h2
      rcases idF_cases h0 ⟨kindOf x, (parseL (Lib.cut t [46]).1).1, 0, 0⟩ with e | ⟨n, e, hn, hp⟩
      · exact .inl e
      · right
        refine ⟨n, e, hn, ?_⟩
        obtain ⟨g1, g2⟩ := hkind ⟨kindOf x, (parseL (Lib.cut t [46]).1).1, 0, 0⟩ rfl ⟨n, hn, hp⟩
        rw [hp]
        unfold partNm
        dsimp only at g1 ⊢
        rw [g1, hit, if_pos hk3, List.append_nil, c2]
    · rw [c1] at h2 ⊢
      rw [if_pos rfl]
      have hk3 : ¬ kindOf x = 3 := by simpa using h2
      rcases parse_inv ⟨(Lib.cut t [46]).2.1.toArray⟩ with e | ⟨a, b, ha, hb, e, hs⟩
      · rw [e]; exact .inl (if_pos (by decide))
      · rw [e]
        rw [if_neg (by simp)]
        dsimp only
        rcases idF_cases h0 ⟨kindOf x, (parseL (Lib.cut t [46]).1).1, (a : Nat), (b : Nat)⟩ with e2 | ⟨n, e2, hn, hp⟩
        · exact .inl e2
        · right
          refine ⟨n, e2, hn, ?_⟩
          obtain ⟨g1, g2⟩ := hkind _ rfl ⟨n, hn, hp⟩
          rw [hp]
          unfold partNm
          dsimp only at g1 ⊢
          rw [g1, hit, if_neg hk3, nameS_nat ha hb, ← hs, mk_list]
          conv => rhs; rw [c3]
end Go.Proofs.YtfckciblnojniaaDoor.Dk
