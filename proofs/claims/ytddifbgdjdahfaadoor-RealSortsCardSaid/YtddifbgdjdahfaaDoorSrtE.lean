/- The ends of any floats are those of the sorted ones that are numbers: plain. No condition. -/
import Derived.Test.YtddifbgdjdahfaaDoorEnds
namespace Go.Proofs.YtddifbgdjdahfaaDoor.Real
open Go.ChangeShapes Go.WideShapes Go.ChangeAt Go.RowKit Go.Proofs.YtddifbgdjdahfaaDoor.Kit Go.Proofs.YtddifbgdjdahfaaDoor.Flt
set_option linter.unusedVariables false
theorem rank_nan {x : Nat} (h : nanB x = true) : rankV x = 18446744073709551615 := by unfold rankV; rw [if_pos h]
theorem rank_le {x : Nat} (hx : x < 18446744073709551616) : rankV x ≤ 18446744073709551615 := by have := rank_lt hx; omega
theorem rank_num {x : Nat} (hx : x < 18446744073709551616) (h : nanB x = false) : rankV x < 18446744073709551615 := by
  obtain ⟨g1, g2⟩ := neg_ge hx
  have hr := of_decide_eq_false h
  unfold rg at hr
  unfold rankV
  rw [if_neg (by rw [h]; decide)]
  cases hs : NEG x
  · have := g2 hs
    rw [if_neg (by decide)]
    omega
  · have := g1 hs
    rw [if_pos rfl]
    omega
theorem rank_inj {x y : Nat} (hx : x < 18446744073709551616) (hy : y < 18446744073709551616) (h1 : nanB x = false) (h2 : nanB y = false) (h : rankV x = rankV y) : x = y := by
  obtain ⟨g1, g2⟩ := neg_ge hx
  obtain ⟨g3, g4⟩ := neg_ge hy
  unfold rankV at h
  rw [h1, h2] at h
  simp only [Bool.false_eq_true, if_false] at h
  cases hs : NEG x <;> cases ht : NEG y <;> rw [hs, ht] at h <;> simp at h
  · omega
  · have := g2 hs
    have := g3 ht
    omega
  · have := g1 hs
    have := g4 ht
    omega
  · omega
theorem ins_end (f : Nat) : ∀ l : List Nat, (∀ z ∈ l, rankV z ≤ rankV f) → insV f l = l ++ [f]
  | [], _ => rfl
  | y :: r, h => by
    unfold insV
    rw [if_pos (h y (List.mem_cons_self ..)), ins_end f r fun z hz => h z (List.mem_cons_of_mem _ hz)]
    rfl
theorem ins_app (f : Nat) (M : List Nat) (hM : ∀ z ∈ M, rankV f < rankV z) : ∀ N : List Nat, insV f (N ++ M) = insV f N ++ M
  | [] => by
    cases M with
    | nil => rfl
    | cons y r =>
      show insV f (y :: r) = f :: y :: r
      unfold insV
      rw [if_neg (by have := hM y (List.mem_cons_self ..); omega)]
  | y :: r => by
    show insV f (y :: (r ++ M)) = insV f (y :: r) ++ M
    unfold insV
    split
    · rw [ins_app f M hM r]
      rfl
    · rfl
/-- How the sorted floats lie, and what of them is known. -/
def EndI (S : List Nat) (s : Nat × Nat × Nat) : Prop :=
  ∃ N M, S = N ++ M ∧ (∀ z ∈ N, nanB z = false) ∧ (∀ z ∈ M, nanB z = true) ∧ s.2.2 = N.length ∧ ((N = [] ∧ s.1 = 0 ∧ s.2.1 = 0) ∨ ((∃ N1, N = s.1 :: N1) ∧ ∃ N2, N = N2 ++ [s.2.1]))
theorem endI_step {S : List Nat} {s : Nat × Nat × Nat} {f : Nat} (h : EndI S s) (hs : Srt S) (hS : ∀ z ∈ S, z < 18446744073709551616) (hf : f < 18446744073709551616) : EndI (insV f S) (endS s f) := by
  obtain ⟨N, M, rfl, hN, hM, hm, hx⟩ := h
  obtain ⟨x, y, m⟩ := s
  dsimp only at hm hx
  unfold endS
  by_cases hn : nanB f = true
  · rw [if_pos hn, ins_end f _ (fun z hz => by rw [rank_nan hn]; exact rank_le (hS z hz))]
    exact ⟨N, M ++ [f], by rw [List.append_assoc], hN, fun z hz => by
      rcases List.mem_append.1 hz with h | h
      · exact hM z h
      · rw [List.mem_singleton.1 h]
        exact hn, hm, hx⟩
  · have hn2 : nanB f = false := by simpa using hn
    rw [if_neg hn, ins_app f M (fun z hz => by rw [rank_nan (hM z hz)]; exact rank_num hf hn2) N]
    refine ⟨insV f N, M, rfl, fun z hz => ?_, hM, ?_, .inr ?_⟩
    · rcases (ins_mem f z N).1 hz with rfl | h
      · exact hn2
      · exact hN z h
    · dsimp only
      rw [ins_len, hm]
    · dsimp only
      rcases hx with ⟨rfl, rfl, rfl⟩ | ⟨⟨N1, hN1⟩, N2, hN2⟩
      · have hm0 : m = 0 := hm
        subst hm0
        exact ⟨⟨[], by simp [insV]⟩, [], by simp [insV]⟩
      · have hm0 : ¬ m = 0 := by rw [hm, hN1]; simp
        have hyN : y ∈ N := by rw [hN2]; simp
        have hsN : Srt N := (List.pairwise_append.1 hs).1
        constructor
        · by_cases h1 : rankV f < rankV x
          · rw [if_pos (.inr h1), hN1]
            unfold insV
            rw [if_neg (by omega)]
            exact ⟨_, rfl⟩
          · rw [if_neg (fun h => h.elim hm0 h1), hN1]
            unfold insV
            rw [if_pos (by omega)]
            exact ⟨_, rfl⟩
        · by_cases h1 : rankV y ≤ rankV f
          · have hall : ∀ z ∈ N, rankV z ≤ rankV f := fun z hz => by
              refine Nat.le_trans ?_ h1
              rw [hN2] at hz hsN
              rcases List.mem_append.1 hz with h | h
              · exact (List.pairwise_append.1 hsN).2.2 z h y (by simp)
              · rw [List.mem_singleton.1 h]
                exact Nat.le_refl _
            rw [ins_end f N hall]
            by_cases h2 : rankV y < rankV f
            · rw [if_pos (.inr h2)]
              exact ⟨N, rfl⟩
            · rw [if_neg (fun h => h.elim hm0 h2)]
              have : f = y := rank_inj hf (hS y (List.mem_append_left _ hyN)) hn2 (hN y hyN) (by omega)
              rw [this]
              exact ⟨N, rfl⟩
          · rw [if_neg (fun h => h.elim hm0 (by omega)), hN2, ins_app f [y] (fun z hz => by rw [List.mem_singleton.1 hz]; omega) N2]
            exact ⟨_, rfl⟩
theorem endI_all (l : List Nat) (h : ∀ z ∈ l, z < 18446744073709551616) : ∀ k, k ≤ l.length → EndI (sortV (l.take k)) (endsV (l.take k))
  | 0, _ => ⟨[], [], rfl, fun _ h => (by cases h), fun _ h => (by cases h), rfl, .inl ⟨rfl, rfl, rfl⟩⟩
  | k + 1, hk => by
    rw [sort_take l k (by omega), ends_take l k (by omega)]
    refine endI_step (endI_all l h k (by omega)) (sort_srt _) (fun z hz => h z (List.mem_of_mem_take ((sort_mem _ _).1 hz))) ?_
    rw [List.getD_eq_getElem?_getD, List.getElem?_eq_getElem (by omega : k < l.length)]
    exact h _ (List.getElem_mem _)
theorem endI_full (l : List Nat) (h : ∀ z ∈ l, z < 18446744073709551616) : EndI (sortV l) (endsV l) := by
  have := endI_all l h l.length (Nat.le_refl _)
  rwa [List.take_length] at this
/-- What the law asks. -/
theorem ends_facts (l : List Nat) (h : ∀ z ∈ l, z < 18446744073709551616) : (endsV l).2.2 ≤ l.length ∧ (∀ i, i < l.length → nanB ((sortV l).getD i 0) = decide ((endsV l).2.2 ≤ i)) ∧ ((endsV l).2.2 = 0 → (endsV l).1 = 0 ∧ (endsV l).2.1 = 0) ∧
    ((endsV l).2.2 ≠ 0 → (sortV l).getD 0 0 = (endsV l).1 ∧ (sortV l).getD ((endsV l).2.2 - 1) 0 = (endsV l).2.1) := by
  obtain ⟨N, M, hS, hN, hM, hm, hx⟩ := endI_full l h
  have hl := sort_len l
  rw [hS, List.length_append] at hl
  generalize endsV l = s at *
  obtain ⟨x, y, m⟩ := s
  dsimp only at hm hx ⊢
  rw [hS]
  refine ⟨by omega, fun i hi => ?_, fun h0 => ?_, fun h0 => ?_⟩
  · by_cases him : i < N.length
    · rw [List.getD_eq_getElem?_getD, List.getElem?_append_left him, List.getElem?_eq_getElem him, Option.getD_some, hN _ (List.getElem_mem him)]
      exact (decide_eq_false (by omega)).symm
    · rw [List.getD_eq_getElem?_getD, List.getElem?_append_right (by omega), List.getElem?_eq_getElem (by omega), Option.getD_some, hM _ (List.getElem_mem _)]
      exact (decide_eq_true (by omega)).symm
  · rcases hx with ⟨_, h1, h2⟩ | ⟨⟨N1, hN1⟩, _⟩
    · exact ⟨h1, h2⟩
    · rw [hN1] at hm
      simp at hm
      omega
  · rcases hx with ⟨h1, _⟩ | ⟨⟨N1, hN1⟩, N2, hN2⟩
    · rw [h1] at hm
      exact absurd hm h0
    · constructor
      · rw [hN1]
        rfl
      · have e : m - 1 = N2.length := by rw [hm, hN2]; simp
        rw [e, hN2, List.append_assoc, List.getD_eq_getElem?_getD, List.getElem?_append_right (Nat.le_refl _), Nat.sub_self]
        rfl
end Go.Proofs.YtddifbgdjdahfaaDoor.Real
