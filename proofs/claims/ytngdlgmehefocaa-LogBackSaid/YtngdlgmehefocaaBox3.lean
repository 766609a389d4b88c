/- A block of three cells: what it holds, and holds when it is written anew. No condition. -/
import Derived.Test.YtngdlgmehefocaaMem
namespace Go.Proofs.Ytngdlgmehefocaa.Mem
open Go.ChangeShapes Go.WideShapes Go.ChangeAt Go.RowKit Go.Proofs.Ytngdlgmehefocaa.Kit
theorem box3_set {w : World} {g : Nat} {a b c : Value} {t : TypeId} {m : Nat × Nat} (hg : w.heap[g]? = some (.cells #[a, b, c] t m)) (u v x : Value) : (((w.setCell ⟨g, 0, none⟩ u).setCell ⟨g, 1, none⟩ v).setCell ⟨g, 2, none⟩ x).heap[g]? = some (.cells #[u, v, x] t m) := by
  simp [World.setCell, Array.getElem?_modify, hg]
theorem box3_cells {w : World} {g : Nat} {a b c : Value} {t : TypeId} (hg : w.heap[g]? = some (.cells #[a, b, c] t (0, 0))) :
    w.cell? ⟨g, 0, none⟩ = some a ∧ w.cell? ⟨g, 1, none⟩ = some b ∧ w.cell? ⟨g, 2, none⟩ = some c ∧ w.frozen? ⟨g, 0, none⟩ = false ∧ w.frozen? ⟨g, 1, none⟩ = false ∧ w.frozen? ⟨g, 2, none⟩ = false := by
  refine ⟨?_, ?_, ?_, ?_, ?_, ?_⟩
  · rw [cell_of_row w g 0 _ t _ hg]; rfl
  · rw [cell_of_row w g 1 _ t _ hg]; rfl
  · rw [cell_of_row w g 2 _ t _ hg]; rfl
  · simp [World.frozen?, hg]
  · simp [World.frozen?, hg]
  · simp [World.frozen?, hg]
theorem own_setT {w : World} {base n size : Nat} {e t : TypeId} {v : Value} {xs : List Value} {p : Addr} {cs : Array Value} {fr : Nat × Nat} (h : w.ownsRow base e size v n xs) (hb : w.heap[p.block]? = some (.cells cs t fr)) (ht : t ≠ e) (u : Value) : (w.setCell p u).ownsRow base e size v n xs := by
  refine ⟨h.1, ?_⟩
  rcases h.2 with h0 | ⟨b, cap, cur, hv, hbg, hg, hr⟩
  · exact .inl h0
  · refine .inr ⟨b, cap, cur, hv, hbg, (Below.heap_setCell _ _ _ b fun e2 => ?_).trans hg, hr⟩
    rw [← e2, hg] at hb
    injection hb with hb
    injection hb with _ h2
    exact ht h2.symm
theorem own_set3T {w : World} {base n size g : Nat} {e t : TypeId} {v a b c : Value} {xs : List Value} {fr : Nat × Nat} (h : w.ownsRow base e size v n xs) (hb : w.heap[g]? = some (.cells #[a, b, c] t fr)) (ht : t ≠ e) (x y z : Value) : (((w.setCell ⟨g, 0, none⟩ x).setCell ⟨g, 1, none⟩ y).setCell ⟨g, 2, none⟩ z).ownsRow base e size v n xs := by
  have h1 : (w.setCell ⟨g, 0, none⟩ x).heap[g]? = some (.cells #[x, b, c] t fr) := by simp [World.setCell, Array.getElem?_modify, hb]
  have h2 : ((w.setCell ⟨g, 0, none⟩ x).setCell ⟨g, 1, none⟩ y).heap[g]? = some (.cells #[x, y, c] t fr) := by simp [World.setCell, Array.getElem?_modify, hb]
  exact own_setT (p := ⟨g, 2, none⟩) (own_setT (p := ⟨g, 1, none⟩) (own_setT (p := ⟨g, 0, none⟩) h hb ht x) h1 ht y) h2 ht z
end Go.Proofs.Ytngdlgmehefocaa.Mem
