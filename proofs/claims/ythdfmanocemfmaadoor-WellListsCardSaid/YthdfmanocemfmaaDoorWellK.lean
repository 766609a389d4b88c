/- A piece by the reference is that piece by this layer: plain. No condition. -/
import Derived.Test.YthdfmanocemfmaaDoorWellJ
namespace Go.Proofs.YthdfmanocemfmaaDoor.Well
open Go.ChangeShapes Go.WideShapes Go.ChangeAt Go.RowKit Go.Proofs.YthdfmanocemfmaaDoor.Kit Go.Proofs.YthdfmanocemfmaaDoor.Num Go.Proofs.YthdfmanocemfmaaDoor.Mem Go.Deep Go.PlainAid
set_option linter.unusedVariables false
theorem dec_clean (n : Nat) : ∀ x ∈ Lib.decDigits n, 48 ≤ x.toNat ∧ x.toNat ≤ 57 := by
  obtain ⟨d1, d2, _, _⟩ := dec_ok n
  intro x hx
  obtain ⟨j, hj, rfl⟩ := List.mem_iff_getElem.1 hx
  have h := allD_get d2 j hj
  unfold fb at h
  simp only [List.getD_eq_getElem?_getD, List.getElem?_eq_getElem hj, Option.getD_some] at h
  omega
/-- A name has digits and letters alone. -/
theorem name_clean (a b : Nat) : ∀ x ∈ nameB a b, (48 ≤ x.toNat ∧ x.toNat ≤ 57) ∨ 65 ≤ x.toNat := by
  intro x hx
  unfold nameB ltr at hx
  rw [List.mem_append, List.mem_append] at hx
  rcases hx with (hx | hx) | hx
  · split at hx
    · rw [List.mem_singleton] at hx
      subst hx
      exact .inr (by decide)
    · cases hx
  · rw [List.mem_singleton] at hx
    subst hx
    right
    have := ltr_nat (a % 26) (by omega)
    omega
  · exact .inl (dec_clean _ x hx)
theorem parse_colon {l : List UInt8} (h : (58 : UInt8) ∈ l) : parseW ⟨l.toArray⟩ = (0, 0, 60) := by
  rcases parse_inv ⟨l.toArray⟩ with h1 | ⟨a, b, _, _, _, h2⟩
  · exact h1
  · have e : l = nameB a b := by
      have := congrArg (fun s : ByteArray => s.data.toList) h2
      simpa using this
    rw [e] at h
    rcases name_clean a b 58 h with ⟨_, h3⟩ | h3
    · exact absurd h3 (by decide)
    · exact absurd h3 (by decide)
theorem two_bad (a : Int × Int × Int) : twoV a (0, 0, 60) = ([], 60) := if_neg (by rintro ⟨_, h5⟩; cases h5)
/-- What the reference makes of the pieces of a piece. -/
def rpieceV : List (List UInt8) → List Pl × Int
  | [x] => twoV (parseW ⟨x.toArray⟩) (parseW ⟨x.toArray⟩)
  | [x, y] => twoV (parseW ⟨x.toArray⟩) (parseW ⟨y.toArray⟩)
  | _ => ([], 60)
theorem rpiece_eq (l : List UInt8) : rpieceV (splitL 58 l) = pieceV l := by
  unfold pieceV
  rcases cut_split 58 l with ⟨_, h2, h3, _⟩ | ⟨h1, h2, h3⟩
  · rw [h2, h3]
    rfl
  · rw [h1, h2, if_pos rfl]
    generalize (Lib.cut l [58]).1 = f at *
    generalize (Lib.cut l [58]).2.1 = r at *
    rcases cut_split 58 r with ⟨_, _, h5, _⟩ | ⟨_, h5, h6⟩
    · rw [h5]
      rfl
    · have e : parseW ⟨r.toArray⟩ = (0, 0, 60) := by
        rw [h6]
        exact parse_colon (by simp)
      rw [e, two_bad, h5]
      have := split_ht 58 (Lib.cut r [58]).2.1
      rw [this]
      rfl
theorem split_len (c : UInt8) : ∀ (l : List UInt8) (x : List UInt8), x ∈ splitL c l → x.length ≤ l.length
  | [], x, h => by
    simp [splitL] at h
    subst h
    exact Nat.le_refl _
  | y :: r, x, h => by
    unfold splitL at h
    have hne := split_ht c r
    split at h
    · rcases List.mem_cons.1 h with rfl | h
      · exact Nat.zero_le _
      · have := split_len c r x h
        simp only [List.length_cons]
        omega
    · rcases List.mem_cons.1 h with rfl | h
      · have := split_len c r ((splitL c r).headD []) (by rw [hne]; exact List.mem_cons_self ..)
        simp only [List.length_cons]
        omega
      · have := split_len c r x (by rw [hne]; exact List.mem_cons_of_mem _ h)
        simp only [List.length_cons]
        omega
theorem split_count (c : UInt8) : ∀ l : List UInt8, (splitL c l).length ≤ l.length + 1
  | [] => by simp [splitL]
  | y :: r => by
    have := split_count c r
    unfold splitL
    split
    · simp only [List.length_cons]
      omega
    · have hne := split_ht c r
      rw [hne] at this
      simp only [List.length_cons] at this ⊢
      omega
end Go.Proofs.YthdfmanocemfmaaDoor.Well
