/- Arguments opened, however deep: what is read of cells. No condition. -/
import Derived.Test.YtfckciblnojniaaDoorMem
import Derived.Deep.Slices
namespace Go.Proofs.YtfckciblnojniaaDoor.Mem
open Go.ChangeShapes Go.WideShapes Go.ChangeAt Go.RowKit Go.Proofs.YtfckciblnojniaaDoor.Kit Go.Deep
set_option linter.unusedVariables false
section
variable {H : Type} {enc : TypeId × Value → H} {P : Program} {w : World}
/-- A datum of the type t is read of these cells. -/
def Rd (enc : TypeId × Value → H) (P : Program) (w : World) (t : TypeId) (cs : List Value) : Prop := ∃ (spare : Nat → Bool) (held : Bool) (fuel : Nat) (x : DataW H × List MemPlace), DataW.trod enc P w 0 spare held fuel t cs = some x
theorem rd_of {spare : Nat → Bool} {held : Bool} {t : TypeId} {v : Value} {d : DataW H} {p : List MemPlace} (h : DataW.Trod enc P w 0 spare held t v d p) : Rd enc P w t v.cells.toList := by
  obtain ⟨fuel, hf⟩ := h
  exact ⟨spare, held, fuel, _, hf⟩
theorem rd_int {t : TypeId} {k : IntKind} {cs : List Value} (ht : P.underlying t = some (.int k)) (h : Rd enc P w t cs) : ∃ n, cs = [.int k n] ∧ (Lit.int k n).wf = true := by
  obtain ⟨_, _, _, _, h⟩ := h
  obtain ⟨n, e, _, hw⟩ := DataW.trod_int ht h
  exact ⟨n, e, hw⟩
theorem rd_i64 {t : TypeId} {cs : List Value} (ht : P.underlying t = some (.int .i64)) (h : Rd enc P w t cs) : ∃ n : Int, cs = [.int .i64 n] ∧ -9223372036854775808 ≤ n ∧ n ≤ 9223372036854775807 := by
  obtain ⟨n, e, hw⟩ := rd_int ht h
  exact ⟨n, e, bounds_i64 hw⟩
theorem rd_bool {t : TypeId} {cs : List Value} (ht : P.underlying t = some .bool) (h : Rd enc P w t cs) : ∃ b, cs = [.bool b] := by
  obtain ⟨_, _, _, _, h⟩ := h
  obtain ⟨b, e, _⟩ := DataW.trod_bool ht h
  exact ⟨b, e⟩
theorem rd_string {t : TypeId} {cs : List Value} (ht : P.underlying t = some .string) (h : Rd enc P w t cs) : ∃ s : ByteArray, cs = [.string s] ∧ s.size ≤ maxLen := by
  obtain ⟨_, _, _, _, h⟩ := h
  obtain ⟨s, e, _, hs⟩ := DataW.trod_string ht h
  exact ⟨s, e, hs⟩
theorem rd_float {t : TypeId} {cs : List Value} (ht : P.underlying t = some (.float .f64)) (h : Rd enc P w t cs) : ∃ x : Nat, cs = [.float .f64 x] ∧ x < 18446744073709551616 := by
  obtain ⟨_, _, fuel, x, h⟩ := h
  cases fuel with
  | zero => simp [DataW.trod] at h
  | succ n =>
    unfold DataW.trod at h
    rw [ht] at h
    split at h <;> simp_all
    rename_i e
    subst e
    have := h.1
    simp [Lit.wf] at this
    exact this.2
theorem rd_struct {t : TypeId} {fs : Array Field} {cs : List Value} (ht : P.underlying t = some (.struct fs)) (h : Rd enc P w t cs) :
    cs.length = P.cellsOf t ∧ ∀ (i : Nat) (f : Field), fs[i]? = some f → Rd enc P w f.type ((cs.drop f.offset).take (P.cellsOf f.type)) := by
  obtain ⟨s, hd, _, _, h⟩ := h
  obtain ⟨xs, n, _, _, hl, hx, hi⟩ := DataW.trod_struct ht h
  refine ⟨hl, fun i f hf => ?_⟩
  have hlt : i < fs.size := by
    rcases Nat.lt_or_ge i fs.size with h | h
    · exact h
    · rw [Array.getElem?_eq_none h] at hf; cases hf
  have := hi i f hf
  rw [List.getElem?_eq_getElem (by omega)] at this
  exact ⟨s, hd, n, _, this⟩
theorem rd_slice {t e : TypeId} {size : Nat} {cs : List Value} (ht : P.underlying t = some (.slice e)) (hC : P.cellsOf e = size) (hp : 0 < size) (h : Rd enc P w t cs) :
    ∃ (A : Option Addr) (len cap : Nat), cs = [.slice A len cap] ∧ len ≤ cap ∧ cap ≤ maxLen ∧
      (0 < len → ∃ b off, A = some ⟨b, off, none⟩ ∧ b < w.heap.size ∧ ∀ j, j < len → ∃ cs', cs'.length = size ∧ (∀ i, i < size → w.cell? ⟨b, off + (j * size + i), none⟩ = cs'[i]?) ∧ Rd enc P w e cs') := by
  obtain ⟨s, hd, _, _, h⟩ := h
  rcases open_slice ht h with ⟨rfl, _⟩ | ⟨x, len, cap, m, n, D, Pl, rfl, _, hl, hm, hmm, _, hi⟩
  · exact ⟨none, 0, 0, rfl, Nat.le_refl _, Nat.zero_le _, fun h0 => absurd h0 (by omega)⟩
  · have hlm : len ≤ m := by rw [hmm]; split <;> omega
    refine ⟨some x, len, cap, rfl, hl, hm, fun h0 => ?_⟩
    rw [hC] at hi
    obtain ⟨cs0, h1, _⟩ := hi 0 (by omega)
    obtain ⟨_, hl0, h3⟩ := World.cells?_some h1
    have h4 := h3 0 hp
    rw [List.getElem?_eq_getElem (by omega), Nat.zero_mul] at h4
    obtain ⟨b, off, spot⟩ := x
    have hspot : spot = none := by simpa [Addr.add] using World.cell?_spot h4
    subst hspot
    refine ⟨b, off, rfl, block_lt_of_cell h4, fun j hj => ?_⟩
    obtain ⟨cs1, k1, k2⟩ := hi j (by omega)
    obtain ⟨_, hl1, k3⟩ := World.cells?_some k1
    refine ⟨cs1, hl1, fun i hi => ?_, s, hd, n, _, k2⟩
    have := k3 i hi
    rwa [Go.Deep.add_add, add_mk] at this
/-- A slice of elements of one cell each, as a row. -/
theorem rd_row {t e : TypeId} {cs : List Value} {Q : Value → Prop} (ht : P.underlying t = some (.slice e)) (hC : P.cellsOf e = 1) (hQ : ∀ cs, Rd enc P w e cs → ∃ v, cs = [v] ∧ Q v) (h : Rd enc P w t cs) :
    ∃ (A : Option Addr) (len cap : Nat) (f : Nat → Value), cs = [.slice A len cap] ∧ len ≤ cap ∧ cap ≤ maxLen ∧ Row w w.heap.size A len f ∧ ∀ j, j < len → Q (f j) := by
  obtain ⟨A, len, cap, rfl, hl, hm, hr⟩ := rd_slice ht hC (by decide) h
  rcases Nat.eq_zero_or_pos len with h0 | h0
  · subst h0
    exact ⟨A, 0, cap, fun _ => undef, rfl, hl, hm, row_zero, fun j hj => absurd hj (by omega)⟩
  · obtain ⟨b, off, rfl, hb, hc⟩ := hr h0
    have key : ∀ j, j < len → ∃ v, w.cell? ⟨b, off + j, none⟩ = some v ∧ Q v := fun j hj => by
      obtain ⟨cs', hl', h1, h2⟩ := hc j hj
      obtain ⟨v, rfl, hv⟩ := hQ cs' h2
      have := h1 0 (by decide)
      rw [Nat.mul_one, Nat.add_zero] at this
      exact ⟨v, this, hv⟩
    refine ⟨some ⟨b, off, none⟩, len, cap, fun j => if h : j < len then (key j h).choose else undef, rfl, hl, hm, fun _ => ⟨b, off, rfl, hb, fun j hj => ?_⟩, fun j hj => ?_⟩
    · simp only [hj, dite_true]; exact (key j hj).choose_spec.1
    · simp only [hj, dite_true]; exact (key j hj).choose_spec.2
/-- .. told by a list. -/
theorem rd_list {α : Type} {t e : TypeId} {cs : List Value} {val : α → Value} {good : α → Prop} (z : α) (ht : P.underlying t = some (.slice e)) (hC : P.cellsOf e = 1) (hQ : ∀ cs, Rd enc P w e cs → ∃ x, cs = [val x] ∧ good x) (h : Rd enc P w t cs) :
    ∃ (A : Option Addr) (len cap : Nat) (zs : List α), cs = [.slice A len cap] ∧ len ≤ cap ∧ cap ≤ maxLen ∧ zs.length = len ∧ Row w w.heap.size A len (fun j => val (zs.getD j z)) ∧ ∀ x ∈ zs, good x := by
  obtain ⟨A, len, cap, f, rfl, hl, hm, hr, hQ2⟩ := rd_row (Q := fun v => ∃ x, v = val x ∧ good x) ht hC (fun cs hcs => by obtain ⟨x, e, g⟩ := hQ cs hcs; exact ⟨_, e, x, rfl, g⟩) h
  refine ⟨A, len, cap, (List.range len).pmap (fun j hj => (hQ2 j hj).choose) (fun j hj => List.mem_range.1 hj), rfl, hl, hm, by simp, row_of hr fun j hj => ?_, fun x hx => ?_⟩
  · rw [(hQ2 j hj).choose_spec.1]
    congr 1
    simp [List.getD_eq_getElem?_getD, hj]
  · obtain ⟨j, hj, rfl⟩ := List.mem_pmap.1 hx
    exact (hQ2 j (List.mem_range.1 hj)).choose_spec.2
theorem rd_floats {t e : TypeId} {cs : List Value} (ht : P.underlying t = some (.slice e)) (he : P.underlying e = some (.float .f64)) (hC : P.cellsOf e = 1) (h : Rd enc P w t cs) :
    ∃ (A : Option Addr) (len cap : Nat) (zs : List Nat), cs = [.slice A len cap] ∧ len ≤ cap ∧ cap ≤ maxLen ∧ zs.length = len ∧ Row w w.heap.size A len (fun j => .float .f64 (zs.getD j 0)) ∧ ∀ x ∈ zs, x < 18446744073709551616 :=
  rd_list 0 ht hC (fun cs h => rd_float he h) h
/-- A slice handed in. -/
theorem rd_arg {r : Reach} {b0 : Nat} {t e : TypeId} {v : Value} {cs : List Value} (ht : P.underlying t = some (.slice e)) (hv : Value.okWide P w r b0 t v) (h : v.cells.toList = cs) : ∃ A len cap, v = .slice A len cap ∧ cs = [.slice A len cap] := by
  obtain ⟨A, len, cap, rfl⟩ := okWide_slice ht hv
  exact ⟨A, len, cap, rfl, h.symm⟩
theorem arg_floats {spare : Nat → Bool} {held : Bool} {r : Reach} {b0 : Nat} {t e : TypeId} {v : Value} {d : DataW H} {p : List MemPlace} (ht : P.underlying t = some (.slice e)) (he : P.underlying e = some (.float .f64)) (hC : P.cellsOf e = 1)
    (hv : Value.okWide P w r b0 t v) (h : DataW.Trod enc P w 0 spare held t v d p) :
    ∃ (A : Option Addr) (len cap : Nat) (zs : List Nat), v = .slice A len cap ∧ len ≤ cap ∧ cap ≤ maxLen ∧ zs.length = len ∧ Row w w.heap.size A len (fun j => .float .f64 (zs.getD j 0)) ∧ ∀ x ∈ zs, x < 18446744073709551616 := by
  obtain ⟨A, len, cap, rfl⟩ := okWide_slice ht hv
  obtain ⟨A', len', cap', zs, e, h1, h2, h3, h4, h5⟩ := rd_floats ht he hC (rd_of h)
  simp only [Value.cells, List.cons.injEq, Value.slice.injEq, and_true] at e
  obtain ⟨rfl, rfl, rfl⟩ := e
  exact ⟨A, len, cap, zs, rfl, h1, h2, h3, h4, h5⟩
end
end Go.Proofs.YtfckciblnojniaaDoor.Mem
