/- Arguments opened: a slice of structs of integers, as a row of cells. No condition. -/
import Derived.Test.YtngdlgmehefocaaMem
import Derived.Deep.Slices
namespace Go.Proofs.Ytngdlgmehefocaa.Mem
open Go.ChangeShapes Go.WideShapes Go.ChangeAt Go.RowKit Go.Proofs.Ytngdlgmehefocaa.Kit Go.Deep
section
variable {H : Type} {enc : TypeId × Value → H} {P : Program} {w : World} {spare : Nat → Bool} {held : Bool}
theorem arg_rowI {r : Reach} {b0 : Nat} {t e : TypeId} {fs : Array Field} {v : Value} {d : DataW H} {p : List MemPlace} (ht : P.underlying t = some (.slice e)) (he : P.underlying e = some (.struct fs)) (hone : oneCellFields P fs = true) (hC : P.cellsOf e = fs.size) (hk : 0 < fs.size)
    (hint : ∀ (j : Nat) (f : Field), fs[j]? = some f → P.underlying f.type = some (.int .i64)) (hv : Value.okWide P w r b0 t v) (h : DataW.Trod enc P w 0 spare held t v d p) :
    ∃ (A : Option Addr) (len cap : Nat) (zs : Nat → Int), v = .slice A len cap ∧ len ≤ cap ∧ cap ≤ maxLen ∧ Row w w.heap.size A (len * fs.size) (fun j => .int .i64 (zs j)) ∧ ∀ j, -9223372036854775808 ≤ zs j ∧ zs j ≤ 9223372036854775807 := by
  obtain ⟨a0, len0, cap0, rfl⟩ := okWide_slice ht hv
  obtain ⟨fuel, hf⟩ := h
  rcases open_slice ht hf with ⟨hcs, _⟩ | ⟨x, l, c, m, n, D, Pl, hcs, _, hl, hm, hmm, _, hi⟩
  · simp only [Value.cells, List.cons.injEq, Value.slice.injEq, and_true] at hcs
    obtain ⟨rfl, rfl, rfl⟩ := hcs
    exact ⟨none, 0, 0, fun _ => 0, rfl, Nat.le_refl _, Nat.zero_le _, fun h0 => absurd h0 (by omega), fun _ => by show (-9223372036854775808 : Int) ≤ 0 ∧ (0 : Int) ≤ 9223372036854775807; omega⟩
  · simp only [Value.cells, List.cons.injEq, Value.slice.injEq, and_true] at hcs
    obtain ⟨rfl, rfl, rfl⟩ := hcs
    have hlm : len0 ≤ m := by rw [hmm]; split <;> omega
    have key : ∀ j, j < len0 * fs.size → ∃ z : Int, w.cell? (x.add j) = some (.int .i64 z) ∧ (-9223372036854775808 ≤ z ∧ z ≤ 9223372036854775807) := by
      intro j hj
      have hq : j / fs.size < len0 := Nat.div_lt_of_lt_mul (by rw [Nat.mul_comm]; exact hj)
      have hr : j % fs.size < fs.size := Nat.mod_lt _ hk
      obtain ⟨cs', hc, ht'⟩ := hi (j / fs.size) (by omega)
      rw [hC] at hc
      obtain ⟨_, hcl, hat⟩ := World.cells?_some hc
      obtain ⟨ys, n', _, _, _, hyl, hg⟩ := DataW.trod_struct he ht'
      have hfr : fs[j % fs.size]? = some (fs[j % fs.size]'hr) := Array.getElem?_eq_getElem hr
      obtain ⟨ho, hk1⟩ := hone_of hone _ _ hfr
      have h1 := hg _ _ hfr
      have hjl : j % fs.size < cs'.length := by omega
      have hsub : (cs'.drop (j % fs.size)).take 1 = [cs'[j % fs.size]'hjl] := by
        rw [List.drop_eq_getElem_cons hjl]; rfl
      rw [ho, hk1, hsub, List.getElem?_eq_getElem (show j % fs.size < ys.length by omega)] at h1
      obtain ⟨z, e1, _, wz⟩ := DataW.trod_int (hint _ _ hfr) h1
      simp only [List.cons.injEq, and_true] at e1
      refine ⟨z, ?_, bounds_i64 wz⟩
      have h2 := hat (j % fs.size) hr
      rw [List.getElem?_eq_getElem hjl, e1, Go.Deep.add_add] at h2
      have h3 : j / fs.size * fs.size + j % fs.size = j := by rw [Nat.mul_comm]; exact Nat.div_add_mod j fs.size
      rw [h3] at h2
      exact h2
    refine ⟨some x, len0, cap0, fun j => if h : j < len0 * fs.size then (key j h).choose else 0, rfl, hl, hm, fun h0 => ?_, fun j => ?_⟩
    · have h1 := (key 0 h0).choose_spec.1
      obtain ⟨b, off, spot⟩ := x
      have hspot : spot = none := by simpa [Addr.add] using World.cell?_spot h1
      subst hspot
      refine ⟨b, off, rfl, block_lt_of_cell h1, fun j hj => ?_⟩
      have h2 := (key j hj).choose_spec.1
      have h4 : w.cell? ⟨b, off + j, none⟩ = w.cell? ((⟨b, off, none⟩ : Addr).add j) := by rw [add_mk]
      simp only [hj, dite_true]
      exact h4.trans h2
    · by_cases h : j < len0 * fs.size
      · simp only [h, dite_true]; exact (key j h).choose_spec.2
      · simp only [h, dite_false]; omega
end
end Go.Proofs.Ytngdlgmehefocaa.Mem
