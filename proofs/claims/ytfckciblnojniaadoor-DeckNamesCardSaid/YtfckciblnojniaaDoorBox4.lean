/- A block of four cells: what it holds. No condition. -/
import Derived.Test.YtfckciblnojniaaDoorKit
namespace Go.Proofs.YtfckciblnojniaaDoor.Kit
open Go.ChangeShapes Go.WideShapes Go.ChangeAt Go.RowKit
theorem heap_new (w : World) (o : Obj) : (w.alloc o).heap[w.heap.size]? = some o := by unfold World.alloc; simp
theorem heap_old (w : World) (o : Obj) {g : Nat} (h : g < w.heap.size) : (w.alloc o).heap[g]? = w.heap[g]? := by
  unfold World.alloc; simp [Array.getElem?_push, Nat.ne_of_lt h]
theorem cell_row (w : World) (g : Nat) {cs : Array Value} {t : TypeId} {m : Nat × Nat} (hg : w.heap[g]? = some (.cells cs t m)) (i : Nat) : w.cell? ⟨g, i, none⟩ = cs[i]? := cell_of_row w g i cs t m hg
theorem box4_cells {w : World} {g : Nat} {a b c d : Value} {t : TypeId} (hg : w.heap[g]? = some (.cells #[a, b, c, d] t (0, 0))) :
    w.cell? ⟨g, 0, none⟩ = some a ∧ w.cell? ⟨g, 1, none⟩ = some b ∧ w.cell? ⟨g, 2, none⟩ = some c ∧ w.cell? ⟨g, 3, none⟩ = some d ∧ w.frozen? ⟨g, 0, none⟩ = false ∧ w.frozen? ⟨g, 1, none⟩ = false ∧ w.frozen? ⟨g, 2, none⟩ = false ∧ w.frozen? ⟨g, 3, none⟩ = false := by
  refine ⟨?_, ?_, ?_, ?_, ?_, ?_, ?_, ?_⟩
  · rw [cell_row w g hg]; rfl
  · rw [cell_row w g hg]; rfl
  · rw [cell_row w g hg]; rfl
  · rw [cell_row w g hg]; rfl
  · simp [World.frozen?, hg]
  · simp [World.frozen?, hg]
  · simp [World.frozen?, hg]
  · simp [World.frozen?, hg]
end Go.Proofs.YtfckciblnojniaaDoor.Kit
