/- The floats of a list that are numbers, in their order: plain. No condition. -/
import Derived.Test.YtkkapajpgfjomaaSrtP
namespace Go.Proofs.Ytkkapajpgfjomaa.Real
open Go.ChangeShapes Go.WideShapes Go.ChangeAt Go.RowKit Go.Proofs.Ytkkapajpgfjomaa.Kit Go.Proofs.Ytkkapajpgfjomaa.Flt
set_option linter.unusedVariables false
theorem rank_nan {x : Nat} (h : nanB x = true) : rankV x = 18446744073709551615 := by unfold rankV; rw [if_pos h]
theorem rank_num {x : Nat} (hx : x < 18446744073709551616) (h : nanB x = false) : rankV x < 18446744073709551615 := by
  obtain ⟨g1, g2⟩ := neg_ge hx
  have hr := of_decide_eq_false h
  unfold rg at hr
  unfold rankV
  rw [if_neg (by rw [h]; decide)]
  cases hs : NEG x
  · have := g2 hs
    rw [if_neg (by decide)]
    omega
  · have := g1 hs
    rw [if_pos rfl]
    omega
def numsV (l : List Nat) : List Nat := (sortV l).filter fun z => !nanB z
theorem split_nums : ∀ S : List Nat, Srt S → (∀ z ∈ S, z < 18446744073709551616) → S = (S.filter fun z => !nanB z) ++ S.filter fun z => nanB z
  | [], _, _ => rfl
  | y :: r, h, hf => by
    obtain ⟨h1, h2⟩ := List.pairwise_cons.1 h
    have ih := split_nums r h2 fun z hz => hf z (List.mem_cons_of_mem _ hz)
    cases hn : nanB y
    · rw [List.filter_cons_of_pos (by rw [hn]; rfl), List.filter_cons_of_neg (by rw [hn]; decide)]
      conv => lhs; rw [ih]
      rfl
    · have hall : ∀ z ∈ r, nanB z = true := fun z hz => by
        cases hz2 : nanB z
        · have h3 := rank_num (hf z (List.mem_cons_of_mem _ hz)) hz2
          have h4 := h1 z hz
          rw [rank_nan hn] at h4
          omega
        · rfl
      rw [List.filter_cons_of_neg (by rw [hn]; decide), List.filter_cons_of_pos (by rw [hn])]
      have e1 : (r.filter fun z => !nanB z) = [] := List.filter_eq_nil_iff.2 fun z hz => by rw [hall z hz]; decide
      have e2 : (r.filter fun z => nanB z) = r := List.filter_eq_self.2 fun z hz => hall z hz
      rw [e1, e2]
      rfl
theorem nums_facts (l : List Nat) (h : ∀ z ∈ l, z < 18446744073709551616) : (numsV l).length ≤ l.length ∧ (∀ i, i < l.length → nanB ((sortV l).getD i 0) = decide ((numsV l).length ≤ i)) ∧ (sortV l).take (numsV l).length = numsV l ∧ ∀ z ∈ numsV l, z < 18446744073709551616 := by
  have hs := split_nums (sortV l) (sort_srt l) (fun z hz => h z ((sort_mem z l).1 hz))
  have hl := sort_len l
  have hN : ∀ z ∈ numsV l, nanB z = false := fun z hz => by
    have := (List.mem_filter.1 hz).2
    simpa using this
  have hM : ∀ z ∈ (sortV l).filter (fun z => nanB z), nanB z = true := fun z hz => by simpa using (List.mem_filter.1 hz).2
  have hF : ∀ z ∈ numsV l, z < 18446744073709551616 := fun z hz => h z ((sort_mem z l).1 (List.mem_filter.1 hz).1)
  change sortV l = numsV l ++ _ at hs
  generalize (sortV l).filter (fun z => nanB z) = M at *
  generalize numsV l = N at *
  rw [hs] at hl ⊢
  rw [List.length_append] at hl
  refine ⟨by omega, fun i hi => ?_, List.take_left' rfl, hF⟩
  by_cases him : i < N.length
  · rw [List.getD_eq_getElem?_getD, List.getElem?_append_left him, List.getElem?_eq_getElem him, Option.getD_some, hN _ (List.getElem_mem him)]
    exact (decide_eq_false (by omega)).symm
  · rw [List.getD_eq_getElem?_getD, List.getElem?_append_right (by omega), List.getElem?_eq_getElem (by omega), Option.getD_some, hM _ (List.getElem_mem _)]
    exact (decide_eq_true (by omega)).symm
end Go.Proofs.Ytkkapajpgfjomaa.Real
