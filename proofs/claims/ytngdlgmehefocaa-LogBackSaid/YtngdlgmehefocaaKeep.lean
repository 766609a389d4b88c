/- Blocks that a call made, told apart by what they hold. No condition. -/
import Derived.Test.YtngdlgmehefocaaMem
import Derived.Laws.Rows
namespace Go.Proofs.Ytngdlgmehefocaa.Mem
open Go.ChangeShapes Go.WideShapes Go.ChangeAt Go.RowKit Go.Proofs.Ytngdlgmehefocaa.Kit
set_option linter.unusedVariables false
/-- The blocks of cells of the type t are as they were. -/
def KeepT (w w' : World) (t : TypeId) : Prop := ∀ (b : Nat) (cur : Array Value) (m : Nat × Nat), w.heap[b]? = some (.cells cur t m) → w'.heap[b]? = some (.cells cur t m)
theorem keepT_refl (w : World) (t : TypeId) : KeepT w w t := fun _ _ _ h => h
theorem KeepT.trans {w w' w'' : World} {t : TypeId} (h : KeepT w w' t) (k : KeepT w' w'' t) : KeepT w w'' t := fun b cur m hb => k b cur m (h b cur m hb)
theorem lt_of_blk {w : World} {b : Nat} {o : Obj} (h : w.heap[b]? = some o) : b < w.heap.size := by
  rcases Nat.lt_or_ge b w.heap.size with hlt | hge
  · exact hlt
  · rw [Array.getElem?_eq_none hge] at h; cases h
theorem keepT_below {w w' : World} {B : Nat} (h : Below B w w') (hB : w.heap.size ≤ B) (t : TypeId) : KeepT w w' t := fun b cur m hb => by
  rw [h.block b (by have := lt_of_blk hb; omega)]; exact hb
theorem keepT_alloc (w : World) (o : Obj) (t : TypeId) : KeepT w (w.alloc o) t := fun b cur m hb => by
  rw [Below.heap_alloc w o b (lt_of_blk hb)]; exact hb
theorem keepT_drew (w : World) (t : TypeId) : KeepT w w.drew t := fun _ _ _ h => h
theorem keepT_drewN (w : World) (n : Nat) (t : TypeId) : KeepT w (w.drewN n) t := fun _ _ _ h => h
theorem keepT_set {w : World} {g : Nat} {cs : Array Value} {t t' : TypeId} {fr : Nat × Nat} (hg : w.heap[g]? = some (.cells cs t' fr)) (hne : t' ≠ t) (j : Nat) (u : Value) : KeepT w (w.setCell ⟨g, j, none⟩ u) t := fun b cur m hb => by
  rw [Below.heap_setCell w ⟨g, j, none⟩ u b (fun e => by
    have e : b = g := e
    subst e
    rw [hg] at hb
    injection hb with hb
    injection hb with _ hb
    exact hne hb)]
  exact hb
theorem blk_set {w : World} {g : Nat} {cs : Array Value} {t : TypeId} {fr : Nat × Nat} (hg : w.heap[g]? = some (.cells cs t fr)) (j : Nat) (u : Value) : ∃ cs', (w.setCell ⟨g, j, none⟩ u).heap[g]? = some (.cells cs' t fr) := by
  simp [World.setCell, Array.getElem?_modify, hg]
theorem keepT_set2 {w : World} {g : Nat} {cs : Array Value} {t t' : TypeId} {fr : Nat × Nat} (hg : w.heap[g]? = some (.cells cs t' fr)) (hne : t' ≠ t) (j k : Nat) (u v : Value) : KeepT w ((w.setCell ⟨g, j, none⟩ u).setCell ⟨g, k, none⟩ v) t := by
  obtain ⟨cs', h⟩ := blk_set hg j u
  exact (keepT_set hg hne j u).trans (keepT_set h hne k v)
theorem keepT_own {w w' : World} {base size n : Nat} {e t : TypeId} {v : Value} {xs : List Value} (h : w.ownsRow base e size v n xs) (hg : w.grownBy w' v.ownBlock) (hne : e ≠ t) : KeepT w w' t := fun b cur m hb => by
  rw [hg.block b (lt_of_blk hb) (fun e' => by
    rcases h.2 with ⟨rfl, _⟩ | ⟨g, cap, cur', rfl, _, hg', _⟩
    · cases e'
    · injection e' with e'
      have e' : b = g := e'
      subst e'
      rw [hg'] at hb
      injection hb with hb
      injection hb with _ hb
      exact hne hb)]
  exact hb
theorem own_keepT {w w' : World} {base size n : Nat} {e : TypeId} {v : Value} {xs : List Value} (h : w.ownsRow base e size v n xs) (hk : KeepT w w' e) : w'.ownsRow base e size v n xs := by
  refine ⟨h.1, ?_⟩
  rcases h.2 with h0 | ⟨g, cap, cur, e1, e2, e3, e4⟩
  · exact .inl h0
  · exact .inr ⟨g, cap, cur, e1, e2, hk _ _ _ e3, e4⟩
theorem own_base {w : World} {base base' size n : Nat} {e : TypeId} {v : Value} {xs : List Value} (h : w.ownsRow base e size v n xs) (hb : base' ≤ base) : w.ownsRow base' e size v n xs := by
  refine ⟨h.1, ?_⟩
  rcases h.2 with h0 | ⟨g, cap, cur, e1, e2, e3⟩
  · exact .inl h0
  · exact .inr ⟨g, cap, cur, e1, Nat.le_trans hb e2, e3⟩

end Go.Proofs.Ytngdlgmehefocaa.Mem
