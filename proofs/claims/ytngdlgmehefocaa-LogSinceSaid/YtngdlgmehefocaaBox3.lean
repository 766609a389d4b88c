/- A block of three cells: what it holds, and holds when it is written anew. No condition. -/
import Derived.Test.YtngdlgmehefocaaMem
namespace Go.Proofs.Ytngdlgmehefocaa.Mem
open Go.ChangeShapes Go.WideShapes Go.ChangeAt Go.RowKit Go.Proofs.Ytngdlgmehefocaa.Kit
theorem box3_set {w : World} {g : Nat} {a b c : Value} {t : TypeId} {m : Nat × Nat} (hg : w.heap[g]? = some (.cells #[a, b, c] t m)) (u v x : Value) : (((w.setCell ⟨g, 0, none⟩ u).setCell ⟨g, 1, none⟩ v).setCell ⟨g, 2, none⟩ x).heap[g]? = some (.cells #[u, v, x] t m) := by
  simp [World.setCell, Array.getElem?_modify, hg]
theorem box3_cells {w : World} {g : Nat} {a b c : Value} {t : TypeId} (hg : w.heap[g]? = some (.cells #[a, b, c] t (0, 0))) :
    w.cell? ⟨g, 0, none⟩ = some a ∧ w.cell? ⟨g, 1, none⟩ = some b ∧ w.cell? ⟨g, 2, none⟩ = some c ∧ w.frozen? ⟨g, 0, none⟩ = false ∧ w.frozen? ⟨g, 1, none⟩ = false ∧ w.frozen? ⟨g, 2, none⟩ = false := by
  refine ⟨?_, ?_, ?_, ?_, ?_, ?_⟩
  · rw [cell_of_row w g 0 _ t _ hg]; rfl
  · rw [cell_of_row w g 1 _ t _ hg]; rfl
  · rw [cell_of_row w g 2 _ t _ hg]; rfl
  · simp [World.frozen?, hg]
  · simp [World.frozen?, hg]
  · simp [World.frozen?, hg]
end Go.Proofs.Ytngdlgmehefocaa.Mem
