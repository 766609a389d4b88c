/- Texts cut at a byte: the library's Cut and all pieces, plain; rows of places and of texts. No condition. -/
import Derived.Test.YtfckciblnojniaaDoorWellF
import Derived.Test.YtfckciblnojniaaDoorWellE
import Derived.Test.YtfckciblnojniaaDoorSRow
namespace Go.Proofs.YtfckciblnojniaaDoor.Well
open Go.ChangeShapes Go.WideShapes Go.ChangeAt Go.RowKit Go.Proofs.YtfckciblnojniaaDoor.Kit Go.Proofs.YtfckciblnojniaaDoor.Num Go.Proofs.YtfckciblnojniaaDoor.Mem Go.Deep Go.PlainAid
set_option linter.unusedVariables false
/-- All pieces of a text, cut at each byte c. -/
def splitL (c : UInt8) : List UInt8 → List (List UInt8)
  | [] => [[]]
  | x :: r => if x = c then [] :: splitL c r else (x :: (splitL c r).headD []) :: (splitL c r).tail
theorem split_pos (c : UInt8) : ∀ l, splitL c l ≠ []
  | [] => by simp [splitL]
  | x :: r => by
    unfold splitL
    split <;> simp
theorem split_ht (c : UInt8) (l : List UInt8) : splitL c l = (splitL c l).headD [] :: (splitL c l).tail := by
  have := split_pos c l
  cases h : splitL c l with
  | nil => exact absurd h this
  | cons a t => rfl
theorem cut_nil (c : UInt8) : Lib.cut [] [c] = ([], [], false) := rfl
theorem cut_here (c : UInt8) (r : List UInt8) : Lib.cut (c :: r) [c] = ([], r, true) := by
  have : Lib.index (c :: r) [c] = 0 := by
    unfold Lib.index
    rw [if_pos (by simp [List.isPrefixOf])]
  unfold Lib.cut
  rw [this]
  rfl
theorem cut_on {x c : UInt8} (r : List UInt8) (h : x ≠ c) : Lib.cut (x :: r) [c] = if (Lib.cut r [c]).2.2 = true then (x :: (Lib.cut r [c]).1, (Lib.cut r [c]).2.1, true) else (x :: r, [], false) := by
  have hge := Lib.index_ge r [c]
  have e : Lib.index (x :: r) [c] = if Lib.index r [c] == -1 then -1 else Lib.index r [c] + 1 := by
    conv => lhs; unfold Lib.index
    rw [if_neg (by simp [List.isPrefixOf]; exact fun e => h e.symm)]
  unfold Lib.cut
  rw [e]
  generalize Lib.index r [c] = i at *
  by_cases hi : i = -1
  · subst hi
    rfl
  · have hb : (i == -1) = false := by simpa using hi
    rw [hb]
    obtain ⟨n, rfl⟩ : ∃ n : Nat, i = n := ⟨i.toNat, by omega⟩
    have hn : (0 : Int) ≤ (n : Int) := by omega
    have hn1 : (0 : Int) ≤ (n : Int) + 1 := by omega
    have e1 : ((n : Int) + 1).toNat = n + 1 := by omega
    have e2 : (n : Int).toNat = n := by omega
    simp only [hn, hn1, e1, e2, if_true, if_false, Bool.false_eq_true]
    rfl
/-- The library's Cut: no c, or the first piece and the rest. -/
theorem cut_split (c : UInt8) : ∀ l : List UInt8, ((Lib.cut l [c]).2.2 = false ∧ Lib.cut l [c] = (l, [], false) ∧ splitL c l = [l] ∧ c ∉ l) ∨
    ((Lib.cut l [c]).2.2 = true ∧ splitL c l = (Lib.cut l [c]).1 :: splitL c (Lib.cut l [c]).2.1 ∧ l = (Lib.cut l [c]).1 ++ c :: (Lib.cut l [c]).2.1)
  | [] => .inl ⟨rfl, rfl, rfl, by simp⟩
  | x :: r => by
    by_cases h : x = c
    · subst h
      right
      rw [cut_here]
      exact ⟨rfl, by simp [splitL], rfl⟩
    · rw [cut_on r h]
      rcases cut_split c r with ⟨h1, h2, h3, h4⟩ | ⟨h1, h2, h3⟩
      · left
        rw [h1]
        refine ⟨rfl, rfl, ?_, by simp [h4]; exact fun e => h e.symm⟩
        unfold splitL
        rw [if_neg h, h3]
        rfl
      · right
        rw [h1]
        refine ⟨rfl, ?_, ?_⟩
        · conv => lhs; unfold splitL
          rw [if_neg h, h2]
          rfl
        · conv => lhs; rw [h3]
          rfl
/-- The environment of this chapter's walks: the library's table of powers, and its variable that holds some number. -/
def Env (w : World) : Prop := Pow w ∧ ∃ m, w.cell? ⟨0, 0, none⟩ = some (.int .i64 m)
theorem env_size {w : World} (h : Env w) : 0 < w.heap.size := by
  obtain ⟨_, m, hm⟩ := h
  exact block_lt_of_cell hm
theorem Env.below {B : Nat} {w w' : World} (h : Env w) (hb : Below B w w') (hB : w.heap.size ≤ B) : Env w' :=
  ⟨h.1.below hb hB, h.2.imp fun m hm => (hb.cell (p := ⟨0, 0, none⟩) (Nat.lt_of_lt_of_le (block_lt_of_cell hm) hB)).trans hm⟩
theorem cut_any (s sep : ByteArray) (w : World) (hs : s.size < 4294967281) (h : Env w) : Calls Tryd.prog 42 #[.string s, .string sep] w fun e w' => e = .returned (.tuple #[.string ⟨(Lib.cut s.data.toList sep.data.toList).1.toArray⟩, .string ⟨(Lib.cut s.data.toList sep.data.toList).2.1.toArray⟩, .bool (Lib.cut s.data.toList sep.data.toList).2.2]) ∧ Below w.heap.size w w' := by
  obtain ⟨m, hm⟩ := h.2
  exact (Tryd.strings_Cut s sep m w hs hm).mono fun e w' ⟨he, n, hn⟩ => ⟨he, by subst hn; exact below_drewN (Below.refl _ _) n⟩
end Go.Proofs.YtfckciblnojniaaDoor.Well
