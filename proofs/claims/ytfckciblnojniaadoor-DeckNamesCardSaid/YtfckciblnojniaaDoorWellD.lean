/- A text read as the name of a place, by this layer. Condition: the text's size is an int. -/
import Derived.Test.YtfckciblnojniaaDoorWellC
import Derived.Laws.RangeAny
namespace Go.Proofs.YtfckciblnojniaaDoor.Well
open Go.ChangeShapes Go.WideShapes Go.ChangeAt Go.RowKit Go.Proofs.YtfckciblnojniaaDoor.Kit Go.Proofs.YtfckciblnojniaaDoor.Num Go.Deep Go.PlainAid
set_option linter.unusedVariables false
theorem wname_none (r c : Int) (w : World) (h : rightP r c = false) : Calls Tryd.prog 38 #[.agg #[.int .i64 r, .int .i64 c]] w fun e w' => e = .returned (.string ⟨#[]⟩) ∧ Below w.heap.size w w' := by
  have R := fun w => right_any r c w
  rw [h] at R
  go_enter Tryd.func38, Tryd.ntmps38
  go_wp2_with (first | (go_at_call 50; refine (R _).mono ?_; rintro e w1 ⟨rfl, hb⟩; obtain ⟨hS, hE, hz, hc, hf⟩ := bcell hb; (try simp only [go_sem] at hE); subst hE) | ((with_reducible change Code.wp _ (Code.region _ _ _) _ _ _); refine wp_region_quiet_below (by kernel_rfl) (by kernel_rfl) ?_; (repeat (first | go_big_quiet_step ((first | (go_at_call 50; exact Calls.regrown_of (R _)))) | quiet_step ((first | (go_at_call 50; exact Calls.regrown_of (R _)))))); refine wpQuiet_nil ?_; intro w1 hw1; have hb := below_of_regrown hw1; clear hw1; obtain ⟨hS, hE, hz, hc, hf⟩ := bcell hb; (try simp only [go_sem] at hE); subst hE))
  go_ret
  exact ⟨rfl, (by repeat' (first | (with_reducible exact Below.refl _ _) | (with_reducible refine below_drewN ?_ _) | (with_reducible refine Below.drew ?_) | (with_reducible refine Below.alloc ?_ ?_ _) | (with_reducible refine Below.setCell ?_ ?_ _) | (with_reducible refine below_step ?_ (by assumption) ?_) | (with_reducible refine below_step ?_ (below_regrown _ _ _) ?_) | go_size))⟩
/-- The name of any two numbers. -/
def nameS (r c : Int) : ByteArray := if rightP r c = true then ⟨(nameB r.toNat c.toNat).toArray⟩ else ⟨#[]⟩
theorem right_nat {r c : Int} (h : rightP r c = true) : ∃ a b : Nat, r = a ∧ c = b ∧ a ≤ 31 ∧ b ≤ 47 := by
  have := of_decide_eq_true h
  exact ⟨r.toNat, c.toNat, by omega, by omega, by omega, by omega⟩
theorem nameS_nat {a b : Nat} (h1 : a ≤ 31) (h2 : b ≤ 47) : nameS a b = ⟨(nameB a b).toArray⟩ := by
  unfold nameS
  rw [if_pos (show rightP a b = true from decide_eq_true (by omega))]
  rfl
theorem name_any (r c : Int) (w : World) (hp : Pow w) : Calls Tryd.prog 38 #[.agg #[.int .i64 r, .int .i64 c]] w fun e w' => e = .returned (.string (nameS r c)) ∧ Below w.heap.size w w' := by
  by_cases h : rightP r c = true
  · obtain ⟨a, b, rfl, rfl, h1, h2⟩ := right_nat h
    rw [nameS_nat h1 h2]
    by_cases h3 : a ≤ 25
    · exact name_low a b w hp h3 h2
    · exact name_high a b w hp (by omega) h1 h2
  · rw [Bool.not_eq_true] at h
    unfold nameS
    rw [h]
    exact wname_none r c w h
theorem rname_any (r c : Int) (w : World) : Calls Tryd.prog 52 #[.agg #[.int .i64 r, .int .i64 c]] w fun e w' => e = .returned (.string (nameS r c)) ∧ Below w.heap.size w w' := by
  by_cases h : rightP r c = true
  · obtain ⟨a, b, rfl, rfl, h1, h2⟩ := right_nat h
    rw [nameS_nat h1 h2]
    by_cases h3 : a ≤ 25
    · exact rname_low a b w h3 h2
    · exact rname_high a b w (by omega) h1 h2
  · rw [Bool.not_eq_true] at h
    unfold nameS
    rw [h]
    exact name_none r c w h
/-- What is made of a row (by one too many) and the digits behind it. -/
def stopW (row : Int) (D : ByteArray) : Int × Int × Int :=
  if (parseS D).2 = 0 ∧ 1 ≤ (parseS D).1 ∧ rightP (row - 1) ((parseS D).1 - 1) = true then (row - 1, (parseS D).1 - 1, 0) else (0, 0, 60)
def loopW (s : ByteArray) : Nat → Nat → Int → Int × Int × Int
  | 0, pos, row => stopW row (s.extract pos s.size)
  | f + 1, pos, row => if pos < s.size ∧ 65 ≤ bt s pos ∧ bt s pos ≤ 90 then loopW s f (pos + 1) (row * 26 + (bt s pos - 65) + 1) else if pos = 0 then (0, 0, 60) else stopW row (s.extract pos s.size)
def parseW (s : ByteArray) : Int × Int × Int := loopW s 2 0 0
theorem parseS_cases (D : ByteArray) : (parseS D).2 = 0 ∧ In64 (parseS D).1 ∨ (parseS D).2 = 30 := by
  have key : ∀ neg f m size, (∀ (h : allD f m = true), 0 ≤ valD f m) → (parseD neg f m size).2 = 0 ∧ In64 (parseD neg f m size).1 ∨ (parseD neg f m size).2 = 30 := by
    intro neg f m size h
    unfold parseD In64
    split
    · exact .inr rfl
    · rename_i h1
      have h0 := h (by simpa using fun hh => h1 (.inr (.inr hh)))
      split
      · split
        · exact .inl ⟨rfl, by dsimp only; omega, by dsimp only; omega⟩
        · exact .inr rfl
      · split
        · exact .inl ⟨rfl, by dsimp only; omega, by dsimp only; omega⟩
        · exact .inr rfl
  unfold parseS
  split
  · exact key _ _ _ _ fun h => valD_nonneg h
  · exact key _ _ _ _ fun h => valD_nonneg h
theorem parseS_none {D : ByteArray} (h : D.size = 0) : parseS D = (0, 30) := by
  unfold parseS
  rw [if_neg (by omega), h]
  rfl
theorem rune_at (s : ByteArray) (pos : Nat) (h : pos < s.size) : (bt s pos < 128 ∧ ((Utf8.decode s pos).1 : Int) = bt s pos ∧ (Utf8.decode s pos).2 = 1) ∨ (128 ≤ bt s pos ∧ 128 ≤ (Utf8.decode s pos).1) := by
  have e : bt s pos = ((s[pos]'h).toNat : Int) := by
    unfold bt
    rw [dif_pos h]
  by_cases ha : (s[pos]'h).toNat < 128
  · refine .inl ⟨by omega, ?_⟩
    rw [decode_ascii s pos h ha]
    exact ⟨e.symm, rfl⟩
  · exact .inr ⟨by omega, (decode_high s pos h (by omega)).1⟩
end Go.Proofs.YtfckciblnojniaaDoor.Well
