/- How many parts there are of each kind, by the reference. No condition. -/
import Derived.Test.YtfckciblnojniaaDoorDkO
namespace Go.Proofs.YtfckciblnojniaaDoor.Dk
open Go.ChangeShapes Go.WideShapes Go.ChangeAt Go.RowKit Go.Proofs.YtfckciblnojniaaDoor.Kit Go.Proofs.YtfckciblnojniaaDoor.Flt Go.Proofs.YtfckciblnojniaaDoor.Mem Go.Proofs.YtfckciblnojniaaDoor.Rail Go.Proofs.YtfckciblnojniaaDoor.Mix Go.Deep
set_option linter.unusedVariables false
set_option linter.unusedSimpArgs false
theorem part_kind (D : Dck) (i : Nat) : (partAt D i).k = if i < nW D then 1 else if i < nW D + nT D then 2 else 3 := by
  unfold partAt
  by_cases h1 : i < nW D
  · rw [if_pos h1, if_pos h1, place_kind]
  by_cases h2 : i < nW D + nT D
  · rw [if_neg h1, if_neg h1, if_pos h2, if_pos h2, place_kind]
  · rw [if_neg h1, if_neg h1, if_neg h2, if_neg h2]
theorem box4_set1 {w : World} {g : Nat} {a b c d : Value} {t : TypeId} {m : Nat × Nat} (hg : w.heap[g]? = some (.cells #[a, b, c, d] t m)) (u : Value) : (w.setCell ⟨g, 1, none⟩ u).heap[g]? = some (.cells #[a, u, c, d] t m) := by
  simp [World.setCell, Array.getElem?_modify, hg]
theorem box4_set2 {w : World} {g : Nat} {a b c d : Value} {t : TypeId} {m : Nat × Nat} (hg : w.heap[g]? = some (.cells #[a, b, c, d] t m)) (u : Value) : (w.setCell ⟨g, 2, none⟩ u).heap[g]? = some (.cells #[a, b, u, d] t m) := by
  simp [World.setCell, Array.getElem?_modify, hg]
theorem box4_set3 {w : World} {g : Nat} {a b c d : Value} {t : TypeId} {m : Nat × Nat} (hg : w.heap[g]? = some (.cells #[a, b, c, d] t m)) (u : Value) : (w.setCell ⟨g, 3, none⟩ u).heap[g]? = some (.cells #[a, b, c, u] t m) := by
  simp [World.setCell, Array.getElem?_modify, hg]
set_option maxHeartbeats 8000000 in
set_option maxRecDepth 20000 in
theorem rcounts_any {w : World} {B0 : Nat} {D : Dck} (h : DeckI w B0 D) (hB : B0 ≤ w.heap.size) (hl : SmallD D) :
    Calls Tryd.prog 9 #[D.val] w fun e w' => e = .returned (.tuple #[.int .i64 (nW D : Nat), .int .i64 (nT D : Nat), .int .i64 (nL D : Nat)]) ∧ Below w.heap.size w w' := by
  have cP : ∀ W, Below w.heap.size w W → Calls Tryd.prog 28 #[D.val] W (PtPost W (partsD D)) :=
    fun W hb => parts_any (h.below hb hB) (by have := hb.size; omega) hl
  unfold PtPost at cP
  have HK := hide (part_kind D)
  have HL := parts_len D
  have HG := hide (fun i hi => parts_at (D := D) (i := i) hi ⟨0, 0, 0, 0⟩)
  have hlen : (partsD D).length ≤ 1000 := by
    by_cases h0 : chkD D = 0
    · have hcl := counts_le h0; omega
    · have : partsD D = [] := if_neg h0
      rw [this]; exact Nat.zero_le _
  rw [← HL] at HG
  clear h hl
  generalize nW D = n1 at *
  generalize nT D = n2 at *
  generalize nL D = n3 at *
  generalize partAt D = pa at *
  generalize partsD D = L at *
  obtain ⟨bA, bc, bs, pA, pc, ps, rA, rc, rs, arms⟩ := D
  unfold Dck.val at cP ⊢
  dsimp only at cP ⊢
  have HLL := hide HL
  clear HL
  go_enter Tryd.func9, Tryd.ntmps9
  go_wp2_with (first | (go_at_call 28; (with_reducible refine (cP _ ?_).mono ?_); (focus (exact (by repeat' (first | (with_reducible exact Below.refl _ _) | (with_reducible refine below_drewN ?_ _) | (with_reducible refine Below.drew ?_) | (with_reducible refine Below.alloc ?_ ?_ _) | (with_reducible refine Below.setCell ?_ ?_ _) | (with_reducible refine below_step ?_ (by assumption) ?_) | (with_reducible refine below_step ?_ (below_regrown _ _ _) ?_) | go_size)))); rintro e w5 ⟨A5, c5, rfl, ho5, hb5⟩; obtain ⟨hS5, hE5, hz5, hc5, hf5⟩ := bcell hb5; (try simp only [go_sem] at hE5); subst hE5))
  have HB1 := hide (show Below w.heap.size w w5 from (by repeat' (first | (with_reducible exact Below.refl _ _) | (with_reducible refine below_drewN ?_ _) | (with_reducible refine Below.drew ?_) | (with_reducible refine Below.alloc ?_ ?_ _) | (with_reducible refine Below.setCell ?_ ?_ _) | (with_reducible refine below_step ?_ (by assumption) ?_) | (with_reducible refine below_step ?_ (below_regrown _ _ _) ?_) | go_size)))
  have hg0 : w5.heap[w.heap.size + 1]? = some (.cells #[.int .i64 0, .int .i64 0, .int .i64 0, .int .i64 0] 52 (0, 0)) := by
    have h := heap_new (w.alloc (.cells #[.slice bA bs.length bc, .slice pA ps.length pc, .slice rA rs.length rc, .int .i64 arms] 26)) (.cells #[.int .i64 0, .int .i64 0, .int .i64 0, .int .i64 0] 52)
    rw [World.size_alloc] at h
    exact (hb5.block _ (by simp only [World.size_alloc]; omega)).trans h
  have HO5 := hide ho5
  clear ho5 hb5
  go_loopw [7] (fun i wr => ∃ k a b c : Nat, k ≤ L.length ∧ i = .int .i64 k ∧ Hid (a = min k n1 ∧ b = min (k - n1) n2 ∧ c = k - n1 - n2) ∧ Hid (wr.heap[w.heap.size + 1]? = some (.cells #[.int .i64 0, .int .i64 a, .int .i64 b, .int .i64 c] 52 (0, 0))) ∧ Hid (wr.ownsRow (w.heap.size + 2) 34 4 (.slice A5 L.length c5) L.length (SV encPt L)) ∧ Below w.heap.size w wr) (fun i _ => L.length - (intOf i).toNat)
  case atStart => exact ⟨0, 0, 0, 0, Nat.zero_le _, rfl, hide ⟨by omega, by omega, by omega⟩, hide hg0, hide (by simpa using HO5.out), HB1.out⟩
  case round =>
    obtain ⟨k, a, b, c, hk, rfl, HC, HG4, HO, hbr⟩ := hrel
    have hzr := hbr.size
    clear hg0 HO5 HB1
    have HBR := hide hbr
    obtain ⟨c0, c1, c2, c3, z0, z1, z2, z3⟩ := box4_cells HG4.out
    clear hbr
    have hgr : w.heap.size + 1 < wr.heap.size := by
      have := HG4.out
      rcases Nat.lt_or_ge (w.heap.size + 1) wr.heap.size with h | h
      · exact h
      · rw [Array.getElem?_eq_none h] at this; cases this
    by_cases hlt : k < L.length
    · obtain ⟨b1, off, rfl, hbB, hcell⟩ := pt_cells (srow_of_own encPt_len (by decide) HO.out) (by omega) ⟨0, 0, 0, 0⟩
      obtain ⟨d0, -⟩ := hcell k (by omega)
      rw [HG.out k (by omega), HK.out k] at d0
      clear hcell
      have hc := HC.out
      have hll := HLL.out
      by_cases g1 : k < n1
      · rw [if_pos g1] at d0
        have HC2 : Hid (a + 1 = min (k + 1) n1 ∧ b = min (k + 1 - n1) n2 ∧ c = k + 1 - n1 - n2) := hide (by omega)
        have ha : a ≤ 1000 := by omega
        clear hc hll HC
        go_wp2
        exact ⟨⟨k + 1, a + 1, b, c, by omega, by go_num, HC2, hide (by have h := box4_set1 HG4.out (.int .i64 ((a + 1 : Nat) : Int)); exact h), hide (own_set HO.out (p := ⟨w.heap.size + 1, 1, none⟩) (by simp) _), HBR.out.setCell (by simp) _⟩, by simp [intOf]; omega⟩
      rw [if_neg g1] at d0
      by_cases g2 : k < n1 + n2
      · rw [if_pos g2] at d0
        have HC2 : Hid (a = min (k + 1) n1 ∧ b + 1 = min (k + 1 - n1) n2 ∧ c = k + 1 - n1 - n2) := hide (by omega)
        have ha : b ≤ 1000 := by omega
        clear hc hll HC
        go_wp2
        exact ⟨⟨k + 1, a, b + 1, c, by omega, by go_num, HC2, hide (by have h := box4_set2 HG4.out (.int .i64 ((b + 1 : Nat) : Int)); exact h), hide (own_set HO.out (p := ⟨w.heap.size + 1, 2, none⟩) (by simp) _), HBR.out.setCell (by simp) _⟩, by simp [intOf]; omega⟩
      rw [if_neg g2] at d0
      have HC2 : Hid (a = min (k + 1) n1 ∧ b = min (k + 1 - n1) n2 ∧ c + 1 = k + 1 - n1 - n2) := hide (by omega)
      have ha : c ≤ 1000 := by omega
      clear hc hll HC
      go_wp2
      exact ⟨⟨k + 1, a, b, c + 1, by omega, by go_num, HC2, hide (by have h := box4_set3 HG4.out (.int .i64 ((c + 1 : Nat) : Int)); exact h), hide (own_set HO.out (p := ⟨w.heap.size + 1, 3, none⟩) (by simp) _), HBR.out.setCell (by simp) _⟩, by simp [intOf]; omega⟩
    · obtain rfl : k = L.length := by omega
      obtain ⟨e1, e2, e3⟩ : a = n1 ∧ b = n2 ∧ c = n3 := by have := HC.out; have := HLL.out; omega
      subst e1 e2 e3
      clear HC HLL HK HG
      go_wp2_with (first | ((with_reducible change Code.wp _ (Code.region _ _ _) _ _ _); refine wp_region_quiet_below (by kernel_rfl) (by kernel_rfl) ?_; (repeat (first | go_big_quiet_step (fail) | quiet_step (fail))); refine wpQuiet_nil ?_; intro w1 hw1; have hb := below_of_regrown hw1; clear hw1; obtain ⟨hS, hE, hz, hc, hf⟩ := bcell hb; (try simp only [go_sem] at hE); subst hE))
      refine bodyPost_ret (v := .tuple #[.int .i64 a, .int .i64 b, .int .i64 c]) ?_ rfl ⟨rfl, HBR.out.trans (by repeat' (first | (with_reducible exact Below.refl _ _) | (with_reducible refine below_drewN ?_ _) | (with_reducible refine Below.drew ?_) | (with_reducible refine Below.alloc ?_ ?_ _) | (with_reducible refine Below.setCell ?_ ?_ _) | (with_reducible refine below_step ?_ (by assumption) ?_) | (with_reducible refine below_step ?_ (below_regrown _ _ _) ?_) | go_size))⟩
      simp only [results, Tryd.results9]
      go_simp
end Go.Proofs.YtfckciblnojniaaDoor.Dk
