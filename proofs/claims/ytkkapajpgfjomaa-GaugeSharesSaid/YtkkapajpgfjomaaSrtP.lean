/- Floats sorted by insertion: plain. No condition. -/
import Derived.Test.YtkkapajpgfjomaaRank
namespace Go.Proofs.Ytkkapajpgfjomaa.Real
open Go.ChangeShapes Go.WideShapes Go.ChangeAt Go.RowKit Go.Proofs.Ytkkapajpgfjomaa.Kit Go.Proofs.Ytkkapajpgfjomaa.Flt
set_option linter.unusedVariables false
/-- A float put in its place. -/
def insV (f : Nat) : List Nat → List Nat
  | [] => [f]
  | y :: r => if rankV y ≤ rankV f then y :: insV f r else f :: y :: r
def sortV (l : List Nat) : List Nat := l.foldl (fun a f => insV f a) []
def Srt (l : List Nat) : Prop := l.Pairwise fun a b => rankV a ≤ rankV b
theorem ins_len (f : Nat) : ∀ l, (insV f l).length = l.length + 1
  | [] => rfl
  | y :: r => by
    unfold insV
    split
    · rw [List.length_cons, ins_len f r, List.length_cons]
    · rfl
theorem ins_mem (f z : Nat) : ∀ l, z ∈ insV f l ↔ z = f ∨ z ∈ l
  | [] => by simp [insV]
  | y :: r => by
    unfold insV
    split
    · rw [List.mem_cons, ins_mem f z r, List.mem_cons]
      constructor
      · rintro (h | h | h)
        · exact .inr (.inl h)
        · exact .inl h
        · exact .inr (.inr h)
      · rintro (h | h | h)
        · exact .inr (.inl h)
        · exact .inl h
        · exact .inr (.inr h)
    · simp
theorem ins_srt (f : Nat) : ∀ l, Srt l → Srt (insV f l)
  | [], _ => by simp [insV, Srt]
  | y :: r, h => by
    obtain ⟨h1, h2⟩ := List.pairwise_cons.1 h
    unfold insV
    split
    · rename_i hle
      refine List.pairwise_cons.2 ⟨fun z hz => ?_, ins_srt f r h2⟩
      rcases (ins_mem f z r).1 hz with rfl | hz
      · exact hle
      · exact h1 z hz
    · rename_i hlt
      refine List.pairwise_cons.2 ⟨fun z hz => ?_, h⟩
      rcases List.mem_cons.1 hz with rfl | hz
      · omega
      · have := h1 z hz
        omega
theorem fold_srt : ∀ (l a : List Nat), Srt a → Srt (l.foldl (fun a f => insV f a) a)
  | [], a, h => h
  | f :: l, a, h => fold_srt l _ (ins_srt f a h)
theorem sort_srt (l : List Nat) : Srt (sortV l) := fold_srt l [] List.Pairwise.nil
theorem fold_len : ∀ (l a : List Nat), (l.foldl (fun a f => insV f a) a).length = a.length + l.length
  | [], a => rfl
  | f :: l, a => by rw [List.foldl_cons, fold_len l, ins_len, List.length_cons]; omega
theorem sort_len (l : List Nat) : (sortV l).length = l.length := by rw [sortV, fold_len]; simp
theorem fold_mem (z : Nat) : ∀ (l a : List Nat), z ∈ l.foldl (fun a f => insV f a) a ↔ z ∈ l ∨ z ∈ a
  | [], a => by simp
  | f :: l, a => by
    rw [List.foldl_cons, fold_mem z l, ins_mem, List.mem_cons]
    constructor
    · rintro (h | h | h)
      · exact .inl (.inr h)
      · exact .inl (.inl h)
      · exact .inr h
    · rintro ((h | h) | h)
      · exact .inr (.inl h)
      · exact .inl h
      · exact .inr (.inr h)
theorem sort_mem (z : Nat) (l : List Nat) : z ∈ sortV l ↔ z ∈ l := by rw [sortV, fold_mem]; simp
theorem sort_take (l : List Nat) (k : Nat) (h : k < l.length) : sortV (l.take (k + 1)) = insV (l.getD k 0) (sortV (l.take k)) := by
  unfold sortV
  rw [List.take_add_one, List.foldl_append, List.getElem?_eq_getElem h, List.getD_eq_getElem?_getD, List.getElem?_eq_getElem h]
  rfl
theorem srt_head {y : Nat} {r : List Nat} (h : Srt (y :: r)) (i : Nat) (hi : i < r.length) : rankV y ≤ rankV (r.getD i 0) := by
  rw [List.getD_eq_getElem?_getD, List.getElem?_eq_getElem hi, Option.getD_some]
  exact (List.pairwise_cons.1 h).1 _ (List.getElem_mem hi)
/-- The place where it is put: behind the last that is no greater. -/
theorem ins_at (f : Nat) : ∀ (l : List Nat) (i : Nat), Srt l → i ≤ l.length → (i = 0 ∨ rankV (l.getD (i - 1) 0) ≤ rankV f) → (i = l.length ∨ rankV f < rankV (l.getD i 0)) → insV f l = l.take i ++ f :: l.drop i
  | [], i, _, hi, _, _ => by
    have : i = 0 := Nat.le_zero.1 hi
    subst this
    rfl
  | y :: r, 0, h, hi, h1, h2 => by
    unfold insV
    have h3 : rankV f < rankV y := by
      rcases h2 with h2 | h2
      · cases h2
      · exact h2
    rw [if_neg (by omega)]
    rfl
  | y :: r, i + 1, h, hi, h1, h2 => by
    have hi2 : i ≤ r.length := Nat.le_of_succ_le_succ hi
    have h3 : rankV (List.getD (y :: r) i 0) ≤ rankV f := by
      rcases h1 with h1 | h1
      · omega
      · exact h1
    have h4 : rankV y ≤ rankV f := by
      cases i with
      | zero => exact h3
      | succ i => exact Nat.le_trans (srt_head h i (by omega)) h3
    unfold insV
    rw [if_pos h4, ins_at f r i (List.pairwise_cons.1 h).2 hi2 ?_ ?_]
    · rfl
    · cases i with
      | zero => exact .inl rfl
      | succ i => exact .inr h3
    · rcases h2 with h2 | h2
      · exact .inl (by simpa using h2)
      · exact .inr h2
theorem sort_fit {l : List Nat} (h : ∀ z ∈ l, z < 18446744073709551616) (j : Nat) : (sortV l).getD j 0 < 18446744073709551616 := by
  by_cases hj : j < (sortV l).length
  · rw [List.getD_eq_getElem?_getD, List.getElem?_eq_getElem hj, Option.getD_some]
    exact h _ ((sort_mem _ l).1 (List.getElem_mem hj))
  · rw [List.getD_eq_getElem?_getD, List.getElem?_eq_none (by omega), Option.getD_none]
    decide
end Go.Proofs.Ytkkapajpgfjomaa.Real
