/- Whether a stock is too large to be looked at; stocks that are handed in. No condition. -/
import Derived.Test.YtkkapajpgfjomaaGw
import Derived.Test.YtkkapajpgfjomaaSized
namespace Go.Proofs.Ytkkapajpgfjomaa.Gauge
open Go.ChangeShapes Go.WideShapes Go.ChangeAt Go.RowKit Go.Proofs.Ytkkapajpgfjomaa.Kit Go.Proofs.Ytkkapajpgfjomaa.Flt Go.Proofs.Ytkkapajpgfjomaa.Real Go.Proofs.Ytkkapajpgfjomaa.Mem Go.Deep
set_option linter.unusedVariables false
set_option linter.unusedSimpArgs false
/-- A log, as its cells. -/
abbrev LogV := Int × Int × Option Addr × Nat × Nat
def encL (x : LogV) : List Value := [.int .i64 x.1, .int .i64 x.2.1, .slice x.2.2.1 x.2.2.2.1 x.2.2.2.2]
theorem encL_len (x : LogV) : (encL x).length = 3 := rfl
theorem log_cells {w : World} {B n : Nat} {A : Option Addr} {ls : List LogV} (h : SRow encL 3 w B A n ls) (h0 : 0 < n) : ∃ b off, A = some ⟨b, off, none⟩ ∧ b < B ∧ ∀ j, j < n → ∃ A2 m c, w.cell? ⟨b, off + j * 3 + 2, none⟩ = some (.slice A2 m c) := by
  obtain ⟨b, off, rfl, hb, hc⟩ := h.cells encL_len (by decide) (0, 0, none, 0, 0) h0
  exact ⟨b, off, rfl, hb, fun j hj => ⟨_, _, _, hc j hj 2 (by decide)⟩⟩
def LargePost (w : World) (n : Nat) (e : Ending) (w' : World) : Prop := ∃ b, e = .returned (.bool b) ∧ (b = false → n ≤ 400) ∧ Below w.heap.size w w'
set_option maxHeartbeats 2000000 in
theorem large_any {w : World} {B n1 c1 n2 c2 n3 c3 : Nat} {A1 A2 A3 : Option Addr} {ls : List LogV} (hr : SRow encL 3 w B A2 n2 ls) (hB : B ≤ w.heap.size) (v4 v5 v6 : Value) :
    Calls Try.prog 7 #[.agg #[.slice A1 n1 c1, .slice A2 n2 c2, .slice A3 n3 c3, v4, v5, v6]] w (LargePost w n1) := by
  have HR := hide hr
  clear hr
  by_cases h1 : 400 < n1
  · go_enter Try.func7, Try.ntmps7
    go_wp2
    go_ret
    exact ⟨true, rfl, (fun h => by cases h), (Below.refl _ _).alloc (Nat.le_refl _) _⟩
  by_cases h2 : 400 < n2
  · go_enter Try.func7, Try.ntmps7
    go_wp2
    go_ret
    exact ⟨true, rfl, (fun h => by cases h), (Below.refl _ _).alloc (Nat.le_refl _) _⟩
  by_cases h3 : 400 < n3
  · go_enter Try.func7, Try.ntmps7
    go_wp2
    go_ret
    exact ⟨true, rfl, (fun h => by cases h), (Below.refl _ _).alloc (Nat.le_refl _) _⟩
  go_enter Try.func7, Try.ntmps7
  go_wp2
  have HB0 : Hid (Below w.heap.size w (w.alloc (.cells #[.slice A1 n1 c1, .slice A2 n2 c2, .slice A3 n3 c3, v4, v5, v6] 26))) := hide ((Below.refl _ _).alloc (Nat.le_refl _) _)
  go_loopw [3] (fun i wr => ∃ k : Nat, k ≤ n2 ∧ i = .int .i64 k ∧ wr = w.alloc (.cells #[.slice A1 n1 c1, .slice A2 n2 c2, .slice A3 n3 c3, v4, v5, v6] 26)) (fun i _ => n2 - (intOf i).toNat)
  case atStart => exact ⟨0, Nat.zero_le _, rfl, rfl⟩
  case round =>
    obtain ⟨k, hk, rfl, rfl⟩ := hrel
    by_cases hlt : k < n2
    · obtain ⟨b, off, rfl, hbB, hcell⟩ := log_cells HR.out (by omega)
      obtain ⟨A5, m5, c5, hc5⟩ := hcell k hlt
      have hb0 : b < w.heap.size := by omega
      clear hcell
      by_cases hm : 100 < m5
      · go_wp2
        go_ret
        exact ⟨true, rfl, (fun h => by cases h), HB0.out⟩
      · go_wp2
        exact ⟨⟨k + 1, by omega, by go_num, trivial⟩, by simp [intOf]; omega⟩
    · go_wp2
      go_ret
      exact ⟨false, rfl, (fun _ => by omega), HB0.out⟩
section
variable {H : Type} {enc : TypeId × Value → H} {w : World}
theorem len3 {cs : List Value} (h : cs.length = 3) : ∃ a b c, cs = [a, b, c] := by
  match cs, h with
  | [a, b, c], _ => exact ⟨a, b, c, rfl⟩
theorem len6 {cs : List Value} (h : cs.length = 6) : ∃ a b c d e f, cs = [a, b, c, d, e, f] := by
  match cs, h with
  | [a, b, c, d, e, f], _ => exact ⟨a, b, c, d, e, f, rfl⟩
theorem rdS_cel {cs : List Value} (h : RdS enc Try.prog w 35 cs) : ∃ x : Cel, cs = encC x ∧ True := by
  obtain ⟨hl, hf⟩ := rdS_struct Try.underlying35 h
  obtain ⟨a, b, c, rfl⟩ := len3 (hl.trans (by kernel_rfl))
  obtain ⟨n0, e0, _⟩ := rdS_i64 (cs := [a]) Try.underlying3 (hf 0 _ rfl)
  obtain ⟨n1, e1, _⟩ := rdS_i64 (cs := [b]) Try.underlying3 (hf 1 _ rfl)
  obtain ⟨n2, e2, _⟩ := rdS_i64 (cs := [c]) Try.underlying3 (hf 2 _ rfl)
  simp only [List.cons.injEq, and_true] at e0 e1 e2
  subst e0 e1 e2
  exact ⟨(n0, n1, n2), rfl, trivial⟩
theorem rdS_logv {cs : List Value} (h : RdS enc Try.prog w 49 cs) : ∃ x : LogV, cs = encL x ∧ True := by
  obtain ⟨hl, hf⟩ := rdS_struct Try.underlying49 h
  obtain ⟨a, b, c, rfl⟩ := len3 (hl.trans (by kernel_rfl))
  obtain ⟨n0, e0, _⟩ := rdS_i64 (cs := [a]) Try.underlying3 (hf 0 _ rfl)
  obtain ⟨n1, e1, _⟩ := rdS_i64 (cs := [b]) Try.underlying3 (hf 1 _ rfl)
  obtain ⟨A, len, cap, e2, _⟩ := rdS_slice (cs := [c]) (size := 3) (bytes := 24) Try.underlying47 (by kernel_rfl) (by kernel_rfl) (by decide) (hf 2 _ rfl)
  simp only [List.cons.injEq, and_true] at e0 e1 e2
  subst e0 e1 e2
  exact ⟨(n0, n1, A, len, cap), rfl, trivial⟩
theorem rdS_stock {cs : List Value} (h : RdS enc Try.prog w 26 cs) : ∃ (A1 A2 A3 : Option Addr) (n1 c1 n2 c2 n3 c3 : Nat) (v4 v5 v6 : Value) (xs : List Cel) (ls : List LogV), cs = [.slice A1 n1 c1, .slice A2 n2 c2, .slice A3 n3 c3, v4, v5, v6] ∧ SRow encC 3 w w.heap.size A1 n1 xs ∧ SRow encL 3 w w.heap.size A2 n2 ls := by
  obtain ⟨hl, hf⟩ := rdS_struct Try.underlying26 h
  obtain ⟨a, b, c, d, e, f, rfl⟩ := len6 (hl.trans (by kernel_rfl))
  obtain ⟨A1, n1, c1, xs, e0, h2, h3, h4, h5, _⟩ := rdS_srow (cs := [a]) (enc := encC) (good := fun _ => True) (bytes := 24) Try.underlying22 (by kernel_rfl) (by kernel_rfl) (by decide) encC_len (fun cs hcs => rdS_cel hcs) (hf 0 _ rfl)
  obtain ⟨A2, n2, c2, ls, e1, k2, k3, k4, k5, _⟩ := rdS_srow (cs := [b]) (enc := encL) (good := fun _ => True) (bytes := 40) Try.underlying23 (by kernel_rfl) (by kernel_rfl) (by decide) encL_len (fun cs hcs => rdS_logv hcs) (hf 1 _ rfl)
  obtain ⟨A3, n3, c3, e2, _⟩ := rdS_slice (cs := [c]) (size := 2) (bytes := 16) Try.underlying24 (by kernel_rfl) (by kernel_rfl) (by decide) (hf 2 _ rfl)
  simp only [List.cons.injEq, and_true] at e0 e1 e2
  subst e0 e1 e2
  exact ⟨A1, A2, A3, n1, c1, n2, c2, n3, c3, d, e, f, xs, ls, rfl, h5, k5⟩
end
end Go.Proofs.Ytkkapajpgfjomaa.Gauge
