/- The reader of bytes: its block in memory, and what fail, At, Left, Err and next do to it. No condition but sizes. -/
import Derived.Test.YtmnkgmadogkjbaaPutB
import Derived.Laws.Rows
namespace Go.Proofs.Ytmnkgmadogkjbaa.Pack
open Go.ChangeShapes Go.WideShapes Go.ChangeAt Go.RowKit Go.Proofs.Ytmnkgmadogkjbaa.Kit Go.Proofs.Ytmnkgmadogkjbaa.Mem
set_option linter.unusedVariables false
/-- The reader's block. -/
def RB (w : World) (g : Nat) (p e : Int) (A : Option Addr) (n c : Nat) : Prop := w.heap[g]? = some (.cells #[.int .i64 p, .int .i64 e, .slice A n c] 57 (0, 0))
section
variable {w w' : World} {g : Nat} {p e : Int} {A : Option Addr} {n c : Nat}
theorem rb_facts (h : RB w g p e A n c) : g < w.heap.size ∧ w.cell? ⟨g, 0, none⟩ = some (.int .i64 p) ∧ w.cell? ⟨g, 1, none⟩ = some (.int .i64 e) ∧ w.cell? ⟨g, 2, none⟩ = some (.slice A n c) ∧
    w.frozen? ⟨g, 0, none⟩ = false ∧ w.frozen? ⟨g, 1, none⟩ = false ∧ w.frozen? ⟨g, 2, none⟩ = false := by
  unfold RB at h
  have hlt : g < w.heap.size := by
    rcases Nat.lt_or_ge g w.heap.size with hlt | hge
    · exact hlt
    · rw [Array.getElem?_eq_none hge] at h; cases h
  exact ⟨hlt, cell_of_row w g 0 _ _ (0, 0) h, cell_of_row w g 1 _ _ (0, 0) h, cell_of_row w g 2 _ _ (0, 0) h, by simp [World.frozen?, h], by simp [World.frozen?, h], by simp [World.frozen?, h]⟩
theorem rb_set0 (h : RB w g p e A n c) (x : Int) : RB (w.setCell ⟨g, 0, none⟩ (.int .i64 x)) g x e A n c := by
  unfold RB at h ⊢
  simp [World.setCell, Array.getElem?_modify, h]
theorem rb_set1 (h : RB w g p e A n c) (x : Int) : RB (w.setCell ⟨g, 1, none⟩ (.int .i64 x)) g p x A n c := by
  unfold RB at h ⊢
  simp [World.setCell, Array.getElem?_modify, h]
theorem rb_below {B : Nat} (h : RB w g p e A n c) (hb : Below B w w') (hg : g < B) : RB w' g p e A n c := (hb.block g hg).trans h
theorem rb_drewN (h : RB w g p e A n c) (k : Nat) : RB (w.drewN k) g p e A n c := h
theorem rb_drew (h : RB w g p e A n c) : RB w.drew g p e A n c := h
theorem rb_alloc (h : RB w g p e A n c) (o : Obj) : RB (w.alloc o) g p e A n c := (Below.heap_alloc w o g (rb_facts h).1).trans h
theorem up_refl (w : World) (g : Nat) : w.grownBy w (some g) := ⟨rfl, rfl, rfl, Nat.le_refl _, fun _ _ _ => rfl⟩
theorem up_drewN {a : World} (h : a.grownBy w (some g)) (k : Nat) : a.grownBy (w.drewN k) (some g) := ⟨h.os, h.tape, h.output, h.size, h.block⟩
theorem up_drew {a : World} (h : a.grownBy w (some g)) : a.grownBy w.drew (some g) := ⟨h.os, h.tape, h.output, h.size, h.block⟩
theorem up_set {a : World} (h : a.grownBy w (some g)) (j : Nat) (u : Value) : a.grownBy (w.setCell ⟨g, j, none⟩ u) (some g) :=
  ⟨h.os, h.tape, h.output, by simpa [World.setCell] using h.size, fun i hi hne => (Below.heap_setCell w ⟨g, j, none⟩ u i (fun e => hne (by rw [e]))).trans (h.block i hi hne)⟩
theorem up_alloc {a : World} (h : a.grownBy w (some g)) (o : Obj) : a.grownBy (w.alloc o) (some g) :=
  ⟨h.os, h.tape, h.output, Nat.le_trans h.size (by simp), fun i hi hne => (Below.heap_alloc w o i (Nat.lt_of_lt_of_le hi h.size)).trans (h.block i hi hne)⟩
theorem up_below {a : World} (h : a.grownBy w (some g)) {B : Nat} (hb : Below B w w') (hB : a.heap.size ≤ B) : a.grownBy w' (some g) :=
  ⟨hb.os.trans h.os, hb.tape.trans h.tape, hb.output.trans h.output, Nat.le_trans h.size hb.size, fun i hi hne => (hb.block i (by omega)).trans (h.block i hi hne)⟩
/-- What stands in other blocks stays. -/
theorem ucell {W w1 : World} (hu : W.grownBy w1 (some g)) :
    ∃ S, S = W.heap.size ∧ S ≤ w1.heap.size ∧ (∀ b o, ltA b S → ¬ ((⟨b, 0, none⟩ : Addr) = ⟨g, 0, none⟩) → w1.cell? ⟨b, o, none⟩ = W.cell? ⟨b, o, none⟩) ∧ (∀ b o, ltA b S → ¬ ((⟨b, 0, none⟩ : Addr) = ⟨g, 0, none⟩) → w1.frozen? ⟨b, o, none⟩ = W.frozen? ⟨b, o, none⟩) :=
  ⟨_, rfl, hu.size, fun b o h hne => hu.cell_far ⟨b, o, none⟩ h (fun e => hne (by injection e with e; exact congrArg (fun x => (⟨x, 0, none⟩ : Addr)) e)), fun b o h hne => hu.frozen_far ⟨b, o, none⟩ h (fun e => hne (by injection e with e; exact congrArg (fun x => (⟨x, 0, none⟩ : Addr)) e))⟩
end

def failE (e x : Int) : Int := if e = 0 then x else e
section
variable (g : Nat) (p e x : Int) (A : Option Addr) (n c : Nat) (w : World)
theorem fail_any (h : RB w g p e A n c) : Calls Try.prog 25 #[.pointer (some ⟨g, 0, none⟩), .int .i64 x] w (fun en w' => en = .returned (.tuple #[]) ∧ RB w' g (p) (failE e x) A n c ∧ w.grownBy w' (some g)) := by
  obtain ⟨hl, c0, c1, c2, d0, d1, d2⟩ := rb_facts h
  by_cases he : e = 0
  · subst he
    have H := hide (rb_set1 h x)
    clear h
    go_enter Try.func25, Try.ntmps25
    go_wp2
    go_end0
    exact ⟨rfl, H.out, up_set (up_refl _ _) _ _⟩
  · have hb : (e == 0) = false := by simpa using he
    have H := hide h
    have he2 : failE e x = e := by unfold failE; rw [if_neg he]
    clear h
    go_enter Try.func25, Try.ntmps25
    go_wp2
    go_end0
    exact ⟨rfl, by rw [he2]; exact H.out, up_refl _ _⟩
theorem err_any (h : RB w g p e A n c) : Calls Try.prog 24 #[.pointer (some ⟨g, 0, none⟩)] w (fun en w' => en = .returned (.int .i64 e) ∧ RB w' g (p) (e) A n c ∧ w.grownBy w' (some g)) := by
  obtain ⟨hl, c0, c1, c2, d0, d1, d2⟩ := rb_facts h
  have H := hide h
  clear h
  go_enter Try.func24, Try.ntmps24
  go_wp2
  go_ret
  exact ⟨rfl, H.out, up_refl _ _⟩
theorem err_eq (h : RB w g p e A n c) : Calls Try.prog 24 #[.pointer (some ⟨g, 0, none⟩)] w fun en w' => en = .returned (.int .i64 e) ∧ w = w' := by
  obtain ⟨hl, c0, c1, c2, d0, d1, d2⟩ := rb_facts h
  clear h
  go_enter Try.func24, Try.ntmps24
  go_wp2
  go_ret
  exact ⟨rfl, rfl⟩
end
end Go.Proofs.Ytmnkgmadogkjbaa.Pack
