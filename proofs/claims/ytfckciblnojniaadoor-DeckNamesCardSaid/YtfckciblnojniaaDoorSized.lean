/- Arguments opened, however deep, with their sizes. No condition. -/
import Derived.Test.YtfckciblnojniaaDoorMem
import Derived.Deep.Slices
namespace Go.Proofs.YtfckciblnojniaaDoor.Mem
open Go.ChangeShapes Go.WideShapes Go.ChangeAt Go.RowKit Go.Proofs.YtfckciblnojniaaDoor.Kit Go.Deep
set_option linter.unusedVariables false
section
variable {H : Type} {enc : TypeId × Value → H} {P : Program} {w : World}
/-- A datum of the type t is read of these cells, and nothing in it passes the reach. -/
def RdS (enc : TypeId × Value → H) (P : Program) (w : World) (t : TypeId) (cs : List Value) : Prop := ∃ (spare : Nat → Bool) (held : Bool) (fuel : Nat) (x : DataW H × List MemPlace), DataW.trod enc P w 0 spare held fuel t cs = some x ∧ ∀ n ∈ x.1.weights P t, n ≤ 140737488351232
theorem weightsEach_at {ts : List TypeId} {ds : List (DataW H)} (h : ∀ n ∈ DataW.weightsEach P ts ds, n ≤ 140737488351232) : ∀ (j : Nat) (t : TypeId) (d : DataW H), ts[j]? = some t → ds[j]? = some d → ∀ n ∈ d.weights P t, n ≤ 140737488351232 := by
  induction ts generalizing ds with
  | nil => intro j t d ht; cases ht
  | cons t0 ts ih =>
    intro j t d ht hd
    cases ds with
    | nil => cases hd
    | cons d0 ds =>
      simp only [DataW.weightsEach] at h
      cases j with
      | zero =>
        simp only [List.getElem?_cons_zero, Option.some.injEq] at ht hd
        subst ht hd
        exact fun n hn => h n (List.mem_append.2 (.inl hn))
      | succ j =>
        simp only [List.getElem?_cons_succ] at ht hd
        exact ih (fun n hn => h n (List.mem_append.2 (.inr hn))) j t d ht hd
theorem weightsAll_at {e : TypeId} {ds : List (DataW H)} (h : ∀ n ∈ DataW.weightsAll P e ds, n ≤ 140737488351232) : ∀ d ∈ ds, ∀ n ∈ d.weights P e, n ≤ 140737488351232 := by
  induction ds with
  | nil => intro d hd; cases hd
  | cons d0 ds ih =>
    simp only [DataW.weightsAll] at h
    intro d hd
    rcases List.mem_cons.1 hd with rfl | hd
    · exact fun n hn => h n (List.mem_append.2 (.inl hn))
    · exact ih (fun n hn => h n (List.mem_append.2 (.inr hn))) d hd
/-- The arguments' weights, one by one. -/
theorem sized_args {ts : List TypeId} {ds : List (DataW H)} (h : (DataW.weightsEach P ts ds).all (· ≤ reachBytes) = true) : ∀ n ∈ DataW.weightsEach P ts ds, n ≤ 140737488351232 := fun n hn => by
  have := List.all_eq_true.1 h n hn
  exact (of_decide_eq_true this : n ≤ reachBytes)
theorem rdS_of {spare : Nat → Bool} {held : Bool} {t : TypeId} {v : Value} {d : DataW H} {p : List MemPlace} (h : DataW.Trod enc P w 0 spare held t v d p) (hw : ∀ n ∈ d.weights P t, n ≤ 140737488351232) : RdS enc P w t v.cells.toList := by
  obtain ⟨fuel, hf⟩ := h
  exact ⟨spare, held, fuel, _, hf, hw⟩
theorem rdS_int {t : TypeId} {k : IntKind} {cs : List Value} (ht : P.underlying t = some (.int k)) (h : RdS enc P w t cs) : ∃ n, cs = [.int k n] ∧ (Lit.int k n).wf = true := by
  obtain ⟨_, _, _, _, h, _⟩ := h
  obtain ⟨n, e, _, hw⟩ := DataW.trod_int ht h
  exact ⟨n, e, hw⟩
theorem rdS_i64 {t : TypeId} {cs : List Value} (ht : P.underlying t = some (.int .i64)) (h : RdS enc P w t cs) : ∃ n : Int, cs = [.int .i64 n] ∧ -9223372036854775808 ≤ n ∧ n ≤ 9223372036854775807 := by
  obtain ⟨n, e, hw⟩ := rdS_int ht h
  exact ⟨n, e, bounds_i64 hw⟩
theorem rdS_u8 {t : TypeId} {cs : List Value} (ht : P.underlying t = some (.int .u8)) (h : RdS enc P w t cs) : ∃ n : Int, cs = [.int .u8 n] ∧ 0 ≤ n ∧ n ≤ 255 := by
  obtain ⟨n, e, hw⟩ := rdS_int ht h
  refine ⟨n, e, ?_⟩
  simp [Lit.wf, IntKind.min, IntKind.max, IntKind.signed, IntKind.bits] at hw
  omega
theorem rdS_u64 {t : TypeId} {cs : List Value} (ht : P.underlying t = some (.int .u64)) (h : RdS enc P w t cs) : ∃ n : Int, cs = [.int .u64 n] ∧ 0 ≤ n ∧ n ≤ 18446744073709551615 := by
  obtain ⟨n, e, hw⟩ := rdS_int ht h
  refine ⟨n, e, ?_⟩
  simp [Lit.wf, IntKind.min, IntKind.max, IntKind.signed, IntKind.bits] at hw
  omega
theorem rdS_bool {t : TypeId} {cs : List Value} (ht : P.underlying t = some .bool) (h : RdS enc P w t cs) : ∃ b, cs = [.bool b] := by
  obtain ⟨_, _, _, _, h, _⟩ := h
  obtain ⟨b, e, _⟩ := DataW.trod_bool ht h
  exact ⟨b, e⟩
theorem rdS_string {t : TypeId} {cs : List Value} (ht : P.underlying t = some .string) (h : RdS enc P w t cs) : ∃ s : ByteArray, cs = [.string s] ∧ s.size ≤ 140737488351232 := by
  obtain ⟨_, _, _, x, h, hw⟩ := h
  obtain ⟨s, e, rfl, hs⟩ := DataW.trod_string ht h
  refine ⟨s, e, ?_⟩
  have := hw s.data.toList.length (by simp [DataW.weights])
  simpa using this
theorem rdS_struct {t : TypeId} {fs : Array Field} {cs : List Value} (ht : P.underlying t = some (.struct fs)) (h : RdS enc P w t cs) :
    cs.length = P.cellsOf t ∧ ∀ (i : Nat) (f : Field), fs[i]? = some f → RdS enc P w f.type ((cs.drop f.offset).take (P.cellsOf f.type)) := by
  obtain ⟨s, hd, _, _, h, hw⟩ := h
  obtain ⟨xs, n, _, rfl, hl, hx, hi⟩ := DataW.trod_struct ht h
  refine ⟨hl, fun i f hf => ?_⟩
  have hlt : i < fs.size := by
    rcases Nat.lt_or_ge i fs.size with h | h
    · exact h
    · rw [Array.getElem?_eq_none h] at hf; cases hf
  have := hi i f hf
  rw [List.getElem?_eq_getElem (by omega)] at this
  refine ⟨s, hd, n, _, this, ?_⟩
  simp only [DataW.weights, ht] at hw
  refine weightsEach_at hw i f.type _ ?_ ?_
  · rw [List.getElem?_map, Array.getElem?_toList, hf]; rfl
  · rw [List.getElem?_map, List.getElem?_eq_getElem (by omega)]; rfl
theorem rdS_slice {t e : TypeId} {size bytes : Nat} {cs : List Value} (ht : P.underlying t = some (.slice e)) (hC : P.cellsOf e = size) (hby : P.bytesOf e = bytes) (hp : 0 < size) (h : RdS enc P w t cs) :
    ∃ (A : Option Addr) (len cap : Nat), cs = [.slice A len cap] ∧ len ≤ cap ∧ cap ≤ maxLen ∧ len * bytes ≤ 140737488351232 ∧
      (0 < len → ∃ b off, A = some ⟨b, off, none⟩ ∧ b < w.heap.size ∧ ∀ j, j < len → ∃ cs', cs'.length = size ∧ (∀ i, i < size → w.cell? ⟨b, off + (j * size + i), none⟩ = cs'[i]?) ∧ RdS enc P w e cs') := by
  obtain ⟨s, hd, _, _, h, hw⟩ := h
  rcases open_slice ht h with ⟨rfl, _⟩ | ⟨x, len, cap, m, n, D, Pl, rfl, _, hl, hm, hmm, rfl, hi⟩
  · exact ⟨none, 0, 0, rfl, Nat.le_refl _, Nat.zero_le _, by omega, fun h0 => absurd h0 (by omega)⟩
  · have hlm : len ≤ m := by rw [hmm]; split <;> omega
    simp only [DataW.weights, ht, hby] at hw
    have hw1 := hw _ (List.mem_cons_self ..)
    simp only [List.length_map, List.length_range] at hw1
    have hw2 : len * bytes ≤ 140737488351232 := Nat.le_trans (Nat.mul_le_mul_right bytes (by omega)) hw1
    have hw3 : ∀ j, j < len → ∀ n ∈ (D j).weights P e, n ≤ 140737488351232 := fun j hj =>
      weightsAll_at (fun n hn => hw n (List.mem_cons_of_mem _ (List.mem_append.2 (.inl hn)))) (D j) (List.mem_map.2 ⟨j, List.mem_range.2 hj, rfl⟩)
    refine ⟨some x, len, cap, rfl, hl, hm, hw2, fun h0 => ?_⟩
    rw [hC] at hi
    obtain ⟨cs0, h1, _⟩ := hi 0 (by omega)
    obtain ⟨_, hl0, h3⟩ := World.cells?_some h1
    have h4 := h3 0 hp
    rw [List.getElem?_eq_getElem (by omega), Nat.zero_mul] at h4
    obtain ⟨b, off, spot⟩ := x
    have hspot : spot = none := by simpa [Addr.add] using World.cell?_spot h4
    subst hspot
    refine ⟨b, off, rfl, block_lt_of_cell h4, fun j hj => ?_⟩
    obtain ⟨cs1, k1, k2⟩ := hi j (by omega)
    obtain ⟨_, hl1, k3⟩ := World.cells?_some k1
    refine ⟨cs1, hl1, fun i hi => ?_, s, hd, n, _, k2, hw3 j hj⟩
    have := k3 i hi
    rwa [Go.Deep.add_add, add_mk] at this
/-- A slice of elements of one cell each, as a row. -/
theorem rdS_row {t e : TypeId} {bytes : Nat} {cs : List Value} {Q : Value → Prop} (ht : P.underlying t = some (.slice e)) (hC : P.cellsOf e = 1) (hby : P.bytesOf e = bytes) (hQ : ∀ cs, RdS enc P w e cs → ∃ v, cs = [v] ∧ Q v) (h : RdS enc P w t cs) :
    ∃ (A : Option Addr) (len cap : Nat) (f : Nat → Value), cs = [.slice A len cap] ∧ len ≤ cap ∧ cap ≤ maxLen ∧ len * bytes ≤ 140737488351232 ∧ Row w w.heap.size A len f ∧ ∀ j, j < len → Q (f j) := by
  obtain ⟨A, len, cap, rfl, hl, hm, hs, hr⟩ := rdS_slice ht hC hby (by decide) h
  rcases Nat.eq_zero_or_pos len with h0 | h0
  · subst h0
    exact ⟨A, 0, cap, fun _ => undef, rfl, hl, hm, hs, row_zero, fun j hj => absurd hj (by omega)⟩
  · obtain ⟨b, off, rfl, hb, hc⟩ := hr h0
    have key : ∀ j, j < len → ∃ v, w.cell? ⟨b, off + j, none⟩ = some v ∧ Q v := fun j hj => by
      obtain ⟨cs', hl', h1, h2⟩ := hc j hj
      obtain ⟨v, rfl, hv⟩ := hQ cs' h2
      have := h1 0 (by decide)
      rw [Nat.mul_one, Nat.add_zero] at this
      exact ⟨v, this, hv⟩
    refine ⟨some ⟨b, off, none⟩, len, cap, fun j => if h : j < len then (key j h).choose else undef, rfl, hl, hm, hs, fun _ => ⟨b, off, rfl, hb, fun j hj => ?_⟩, fun j hj => ?_⟩
    · simp only [hj, dite_true]; exact (key j hj).choose_spec.1
    · simp only [hj, dite_true]; exact (key j hj).choose_spec.2
/-- .. told by a list. -/
theorem rdS_list {α : Type} {t e : TypeId} {bytes : Nat} {cs : List Value} {val : α → Value} {good : α → Prop} (z : α) (ht : P.underlying t = some (.slice e)) (hC : P.cellsOf e = 1) (hby : P.bytesOf e = bytes) (hQ : ∀ cs, RdS enc P w e cs → ∃ x, cs = [val x] ∧ good x) (h : RdS enc P w t cs) :
    ∃ (A : Option Addr) (len cap : Nat) (zs : List α), cs = [.slice A len cap] ∧ len ≤ cap ∧ cap ≤ maxLen ∧ len * bytes ≤ 140737488351232 ∧ zs.length = len ∧ Row w w.heap.size A len (fun j => val (zs.getD j z)) ∧ ∀ x ∈ zs, good x := by
  obtain ⟨A, len, cap, f, rfl, hl, hm, hs, hr, hQ2⟩ := rdS_row (Q := fun v => ∃ x, v = val x ∧ good x) ht hC hby (fun cs hcs => by obtain ⟨x, e, g⟩ := hQ cs hcs; exact ⟨_, e, x, rfl, g⟩) h
  refine ⟨A, len, cap, (List.range len).pmap (fun j hj => (hQ2 j hj).choose) (fun j hj => List.mem_range.1 hj), rfl, hl, hm, hs, by simp, row_of hr fun j hj => ?_, fun x hx => ?_⟩
  · rw [(hQ2 j hj).choose_spec.1]
    congr 1
    simp [List.getD_eq_getElem?_getD, hj]
  · obtain ⟨j, hj, rfl⟩ := List.mem_pmap.1 hx
    exact (hQ2 j (List.mem_range.1 hj)).choose_spec.2
/-- A slice of bytes. -/
theorem rdS_bytes {t e : TypeId} {cs : List Value} (ht : P.underlying t = some (.slice e)) (he : P.underlying e = some (.int .u8)) (hC : P.cellsOf e = 1) (hby : P.bytesOf e = 1) (h : RdS enc P w t cs) :
    ∃ (A : Option Addr) (len cap : Nat) (l : List Int), cs = [.slice A len cap] ∧ len ≤ cap ∧ cap ≤ maxLen ∧ len ≤ 140737488351232 ∧ Bytes w w.heap.size A len l ∧ ∀ x ∈ l, 0 ≤ x ∧ x ≤ 255 := by
  obtain ⟨A, len, cap, zs, e1, h1, h2, h3, h4, h5, h6⟩ := rdS_list (0 : Int) ht hC hby (fun cs h => rdS_u8 he h) h
  exact ⟨A, len, cap, zs, e1, h1, h2, by omega, ⟨h4, h5⟩, h6⟩
end
end Go.Proofs.YtfckciblnojniaaDoor.Mem
