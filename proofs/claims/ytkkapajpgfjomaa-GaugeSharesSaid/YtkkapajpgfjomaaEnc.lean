/- Rows of floats and of their bits; the append of one onto them. No condition. -/
import Derived.Test.YtkkapajpgfjomaaSRow
namespace Go.Proofs.Ytkkapajpgfjomaa.Mem
open Go.ChangeShapes Go.WideShapes Go.ChangeAt Go.RowKit Go.Proofs.Ytkkapajpgfjomaa.Kit
set_option linter.unusedVariables false
def encF (x : Nat) : List Value := [.float .f64 x]
theorem encF_len (x : Nat) : (encF x).length = 1 := rfl
theorem encF_one (x : Nat) : ∀ u ∈ encF x, u.oneCell' = true := by intro u hu; simp only [encF, List.mem_cons, List.not_mem_nil, or_false] at hu; subst hu; rfl
def encU (x : Nat) : List Value := [.int .u64 x]
theorem encU_len (x : Nat) : (encU x).length = 1 := rfl
theorem encU_one (x : Nat) : ∀ u ∈ encU x, u.oneCell' = true := by intro u hu; simp only [encU, List.mem_cons, List.not_mem_nil, or_false] at hu; subst hu; rfl
theorem info_u64 : (Try.prog.info? 51).map (fun i => (i.zero, i.size, i.bytes)) = some (some (.int .u64 0), 1, 8) := by kernel_rfl
theorem info_f64 : (Try.prog.info? 32).map (fun i => (i.zero, i.size, i.bytes)) = some (some (.float .f64 0), 1, 8) := by kernel_rfl
theorem frow_cells {w : World} {B n : Nat} {A : Option Addr} {l : List Nat} (h : SRow encF 1 w B A n l) (h0 : 0 < n) : ∃ b off, A = some ⟨b, off, none⟩ ∧ b < B ∧ ∀ j, j < n → w.cell? ⟨b, off + j, none⟩ = some (.float .f64 (l.getD j 0)) := by
  obtain ⟨b, off, rfl, hb, hc⟩ := h.cells encF_len (by decide) 0 h0
  exact ⟨b, off, rfl, hb, fun j hj => by have := hc j hj 0 (by decide); rw [Nat.mul_one] at this; exact this⟩
theorem urow_cells {w : World} {B n : Nat} {A : Option Addr} {l : List Nat} (h : SRow encU 1 w B A n l) (h0 : 0 < n) : ∃ b off, A = some ⟨b, off, none⟩ ∧ b < B ∧ ∀ j, j < n → w.cell? ⟨b, off + j, none⟩ = some (.int .u64 (l.getD j 0 : Nat)) := by
  obtain ⟨b, off, rfl, hb, hc⟩ := h.cells encU_len (by decide) 0 h0
  exact ⟨b, off, rfl, hb, fun j hj => by have := hc j hj 0 (by decide); rw [Nat.mul_one] at this; exact this⟩
/-- A row of a call's own, cut short. -/
theorem own_cut {w : World} {base c n m : Nat} {A : Option Addr} {e : TypeId} {α : Type} {enc : α → List Value} (hk : ∀ x, (enc x).length = 1) {l : List α} (h : w.ownsRow base e 1 (.slice A n c) n (SV enc l)) (hm : m ≤ n) : w.ownsRow base e 1 (.slice A m c) m (SV enc (l.take m)) := by
  have hl : l.length = n := by have := h.1; rw [sv_len hk, Nat.mul_one, Nat.mul_one] at this; exact this
  have ht : SV enc (l.take m) = (SV enc l).take m := by
    have e1 : SV enc l = SV enc (l.take m) ++ SV enc (l.drop m) := by rw [sv_append, List.take_append_drop]
    rw [e1, List.take_left' (by rw [sv_len hk, List.length_take]; omega)]
  refine ⟨by rw [sv_len hk, List.length_take]; omega, ?_⟩
  rcases h.2 with ⟨hv, hn⟩ | ⟨b, cap, cur, hv, hbg, hg, hnc, hcm, hcs, htk⟩
  · simp only [Value.slice.injEq] at hv
    obtain ⟨rfl, -, rfl⟩ := hv
    have : m = 0 := by omega
    subst this
    exact .inl ⟨rfl, rfl⟩
  · simp only [Value.slice.injEq] at hv
    obtain ⟨rfl, -, rfl⟩ := hv
    refine .inr ⟨b, c, cur, rfl, hbg, hg, by omega, hcm, hcs, ?_⟩
    rw [ht, ← htk, List.take_take]
    congr 1
    omega
theorem sized_own {w : World} {base c n : Nat} {A : Option Addr} {e : TypeId} {α : Type} {enc : α → List Value} {l : List α} (h : w.ownsRow base e 1 (.slice A n c) n (SV enc l)) : n ≤ c ∧ c ≤ maxLen := by
  rcases h.2 with ⟨hv, hn⟩ | ⟨b, cap, cur, hv, hbg, hg, hnc, hcm, hcs, htk⟩
  · simp only [Value.slice.injEq] at hv
    obtain ⟨-, rfl, rfl⟩ := hv
    exact ⟨Nat.le_refl _, Nat.zero_le _⟩
  · simp only [Value.slice.injEq] at hv
    obtain ⟨-, -, rfl⟩ := hv
    exact ⟨hnc, hcm⟩
theorem own_new (w : World) {base : Nat} (hb : base ≤ w.heap.size) (u : Value) (e : TypeId) : (w.alloc (.cells #[u] e)).ownsRow base e 1 (.slice (some ⟨w.heap.size, 0, none⟩) 1 1) 1 [u] :=
  ⟨rfl, .inr ⟨w.heap.size, 1, #[u], rfl, hb, heap_alloc_new w _, Nat.le_refl _, by decide, rfl, rfl⟩⟩
end Go.Proofs.Ytkkapajpgfjomaa.Mem
