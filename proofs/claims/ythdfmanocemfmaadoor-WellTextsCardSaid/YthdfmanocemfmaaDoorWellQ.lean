/- Names of places with commas between them are read as these places: plain. No condition. -/
import Derived.Test.YthdfmanocemfmaaDoorWellO
namespace Go.Proofs.YthdfmanocemfmaaDoor.Well
open Go.ChangeShapes Go.WideShapes Go.ChangeAt Go.RowKit Go.Proofs.YthdfmanocemfmaaDoor.Kit Go.Proofs.YthdfmanocemfmaaDoor.Num Go.Proofs.YthdfmanocemfmaaDoor.Mem Go.Deep Go.PlainAid
set_option linter.unusedVariables false
theorem split_snoc (c : UInt8) (m : List UInt8) (hm : c ∉ m) : ∀ l : List UInt8, splitL c (l ++ c :: m) = splitL c l ++ [m]
  | [] => by
    have : splitL c m = [m] := by
      rcases cut_split c m with ⟨_, _, h, _⟩ | ⟨_, _, h⟩
      · exact h
      · exact absurd (by rw [h]; simp) hm
    show splitL c (c :: m) = _
    unfold splitL
    rw [if_pos rfl, this]
    rfl
  | x :: r => by
    have ih := split_snoc c m hm r
    have hne := split_ht c r
    show splitL c (x :: (r ++ c :: m)) = _
    unfold splitL
    rw [ih]
    split
    · rfl
    · rw [hne]
      rfl
theorem comma_clean {p : Pl} : (44 : UInt8) ∉ nmL p := by
  intro h
  rcases name_clean _ _ 44 h with ⟨h3, _⟩ | h3
  · exact absurd h3 (by decide)
  · exact absurd h3 (by decide)
theorem colon_clean {p : Pl} : (58 : UInt8) ∉ nmL p := by
  intro h
  rcases name_clean _ _ 58 h with ⟨_, h3⟩ | h3
  · exact absurd h3 (by decide)
  · exact absurd h3 (by decide)
theorem piece_name {x y : Int} (h : rightP x y = true) : pieceV (nmL (x, y)) = ([(x, y)], 0) := by
  have hp : parseW ⟨(nmL (x, y)).toArray⟩ = (x, y, 0) := by
    obtain ⟨a, b, rfl, rfl, h1, h2⟩ := right_nat h
    exact parse_name a b h1 h2
  unfold pieceV
  rcases cut_split 58 (nmL (x, y)) with ⟨h1, h2, _, _⟩ | ⟨_, _, h3⟩
  · rw [h2]
    show twoV (parseW ⟨(nmL (x, y)).toArray⟩) (parseW ⟨(nmL (x, y)).toArray⟩) = _
    rw [hp]
    obtain ⟨a, b, rfl, rfl, h1, h2⟩ := right_nat h
    rw [show twoV ((a : Int), (b : Int), 0) ((a : Int), (b : Int), 0) = (rectV ((a : Int), (b : Int), 0) ((a : Int), (b : Int), 0), 0) from if_pos ⟨rfl, rfl⟩]
    unfold rectV
    simp only [Int.toNat_natCast, Nat.min_self, Nat.max_self, Nat.sub_self, Nat.zero_add]
    rfl
  · exact absurd (by rw [h3]; simp) (colon_clean (p := (x, y)))
theorem listV_names : ∀ (qs : List Pl) (k : Nat) (acc : List Pl), (∀ q ∈ qs, rightP q.1 q.2 = true) → acc.length = k → k ≤ 384 → listV (qs.map nmL) k acc = if k + qs.length ≤ 384 then (acc ++ qs, 0, 0) else ([], 2, 384)
  | [], k, acc, _, h1, h2 => by
    rw [if_pos (by simpa using h2), List.append_nil]
    rfl
  | (x, y) :: r, k, acc, h0, h1, h2 => by
    have hp := piece_name (h0 (x, y) (by simp))
    rw [List.map_cons]
    unfold listV
    rw [hp]
    simp only [ne_eq, not_true_eq_false, if_false, List.length_cons, List.length_nil, h1]
    by_cases h3 : 384 < k + (0 + 1)
    · rw [if_pos h3, if_neg (by omega)]
      have : k = 384 := by omega
      subst this
      rfl
    · rw [if_neg h3, listV_names r (k + 1) (acc ++ [(x, y)]) (fun q hq => h0 q (by simp [hq])) (by simp; omega) (by omega)]
      by_cases h4 : k + 1 + r.length ≤ 384
      · rw [if_pos h4, if_pos (by omega), List.append_assoc]
        rfl
      · rw [if_neg h4, if_neg (by omega)]
theorem okL_all {ps : List Pl} : ∀ {n : Nat}, okL ps n = true → ∀ j, j < n → rightP (ps.getD j (0, 0)).1 (ps.getD j (0, 0)).2 = true
  | 0, _, j, hj => by omega
  | n + 1, h, j, hj => by
    unfold okL at h
    rw [Bool.and_eq_true] at h
    rcases Nat.lt_succ_iff_lt_or_eq.1 hj with h1 | rfl
    · exact okL_all h.1 j h1
    · exact h.2
theorem acc_split (ps : List Pl) : ∀ n, n < ps.length → splitL 44 (accL ps (n + 1)) = (ps.take (n + 1)).map nmL
  | 0, h => by
    have e : accL ps 1 = nmL (ps.getD 0 (0, 0)) := by simp [accL]
    rw [e]
    have : splitL 44 (nmL (ps.getD 0 (0, 0))) = [nmL (ps.getD 0 (0, 0))] := by
      rcases cut_split 44 (nmL (ps.getD 0 (0, 0))) with ⟨_, _, h1, _⟩ | ⟨_, _, h1⟩
      · exact h1
      · exact absurd (by rw [h1]; simp) (comma_clean (p := ps.getD 0 (0, 0)))
    rw [this]
    match ps, h with
    | p :: r, _ => rfl
  | n + 1, h => by
    have ih := acc_split ps n (by omega)
    have e : accL ps (n + 1 + 1) = accL ps (n + 1) ++ 44 :: nmL (ps.getD (n + 1) (0, 0)) := by
      conv => lhs; unfold accL
      rw [if_pos (by omega), List.append_assoc]
      rfl
    rw [e, split_snoc 44 _ comma_clean, ih, List.take_succ_eq_append_getElem h, List.map_append]
    simp only [List.getD_eq_getElem?_getD, List.getElem?_eq_getElem h, Option.getD_some, List.map_cons, List.map_nil]
theorem text_list (ps : List Pl) (h : okL ps ps.length = true) : listS (accL ps ps.length) = if ps.length ≤ 384 then (ps, 0, 0) else ([], 2, 384) := by
  by_cases h0 : ps.length = 0
  · have e : ps = [] := List.length_eq_zero_iff.1 h0
    subst e
    rfl
  · obtain ⟨n, hn⟩ : ∃ n, ps.length = n + 1 := ⟨ps.length - 1, by omega⟩
    have hs := acc_split ps n (by omega)
    have hne : accL ps ps.length ≠ [] := by
      intro h1
      rw [hn] at h1
      rw [h1] at hs
      have h2 := congrArg List.length hs
      have h3 := okL_all h 0 (by omega)
      have h4 := dec_ok ((ps.getD 0 (0, 0)).2.toNat + 1)
      unfold accL at h1
      have h5 := (List.append_eq_nil_iff.1 h1).2
      unfold nmL nameB at h5
      have h6 := (List.append_eq_nil_iff.1 h5).2
      have h7 := dec_ok ((ps.getD n (0, 0)).2.toNat + 1)
      rw [h6] at h7
      exact absurd h7.1 (by decide)
    unfold listS
    rw [if_neg hne]
    have hs2 : splitL 44 (accL ps ps.length) = ps.map nmL := by
      rw [hn, hs, ← hn, List.take_length]
    rw [hs2, listV_names ps 0 [] (fun q hq => by
      obtain ⟨j, hj, rfl⟩ := List.mem_iff_getElem.1 hq
      have := okL_all h j hj
      simpa only [List.getD_eq_getElem?_getD, List.getElem?_eq_getElem hj, Option.getD_some] using this) rfl (by omega)]
    simp only [Nat.zero_add, List.nil_append]
end Go.Proofs.YthdfmanocemfmaaDoor.Well
