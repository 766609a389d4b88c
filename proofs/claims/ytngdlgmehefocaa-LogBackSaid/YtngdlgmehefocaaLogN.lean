/- What must come of every program (logs). No condition. -/
import Derived.Test.YtngdlgmehefocaaLogK
import Derived.Test.YtngdlgmehefocaaLogF
import Derived.Test.YtngdlgmehefocaaLogD
import Derived.Test.YtngdlgmehefocaaBox3
namespace Go.Proofs.Ytngdlgmehefocaa.Log
open Go.ChangeShapes Go.WideShapes Go.ChangeAt Go.RowKit Go.Proofs.Ytngdlgmehefocaa.Kit Go.Proofs.Ytngdlgmehefocaa.Mem Go.Proofs.Ytngdlgmehefocaa.Mix Go.Deep
set_option linter.unusedVariables false
set_option linter.unusedSimpArgs false
theorem own_W {w : World} {g n c : Nat} {r l : Int} {A : Option Addr} {cs : List Chg} (ho : w.ownsRow (g + 1) 32 3 (.slice A n c) n (SV encC cs)) : (((w.setCell ⟨g, 0, none⟩ (.int .i64 r)).setCell ⟨g, 1, none⟩ (.int .i64 l)).setCell ⟨g, 2, none⟩ (.slice A n c)).ownsRow (g + 1) 32 3 (.slice A n c) n (SV encC cs) :=
  own_set (p := ⟨g, 2, none⟩) (own_set (p := ⟨g, 1, none⟩) (own_set (p := ⟨g, 0, none⟩) ho (Nat.lt_succ_self _) _) (Nat.lt_succ_self _) _) (Nat.lt_succ_self _) _
theorem note_W {w : World} {g n c : Nat} {r l b m : Int} {A : Option Addr} {cs : List Chg} {r0 : Int × Int × List Chg × Int} (ho : w.ownsRow (g + 1) 32 3 (.slice A n c) n (SV encC cs)) (hn : n ≤ c) (hm : c ≤ maxLen) (h47 : n ≤ 140737488351232) (e : noteL r l cs b m = r0) :
    Calls Try.prog 7 #[.agg #[.int .i64 r, .int .i64 l, .slice A n c], .int .i64 b, .int .i64 m] (((w.setCell ⟨g, 0, none⟩ (.int .i64 r)).setCell ⟨g, 1, none⟩ (.int .i64 l)).setCell ⟨g, 2, none⟩ (.slice A n c)) (NotePost (((w.setCell ⟨g, 0, none⟩ (.int .i64 r)).setCell ⟨g, 1, none⟩ (.int .i64 l)).setCell ⟨g, 2, none⟩ (.slice A n c)) r0) := by
  subst e
  exact note_any (srow_of_own encC_len (by decide) (own_W ho)) (Nat.le_refl _) hn hm h47
theorem note_0 (w : World) : Calls Try.prog 7 #[.agg #[.int .i64 2, .int .i64 0, .slice none 0 0], .int .i64 1, .int .i64 5] w (fun (e : Ending) (w' : World) => ∃ A' c', e = .returned (.tuple #[.agg #[.int .i64 2, .int .i64 1, .slice A' 1 c'], .int .i64 0]) ∧ 1 ≤ c' ∧ c' ≤ maxLen ∧ w'.ownsRow w.heap.size 32 3 (.slice A' 1 c') 1 (SV encC [(1, 1, 5)]) ∧ Below w.heap.size w w') := by
  have h := note_any (w := w) (room := 2) (last := 0) (b := 1) (m := 5) (cs := []) (srow_nil w 0 none) (Nat.zero_le _) (Nat.le_refl 0) (Nat.zero_le _) (by omega)
  rw [show noteL 2 0 [] 1 5 = (2, 1, [(1, 1, 5)], 0) by decide] at h
  exact h
theorem note_1 {w : World} {g c : Nat} {A : Option Addr} (ho : w.ownsRow (g + 1) 32 3 (.slice A 1 c) 1 (SV encC [(1, 1, 5)])) (hn : 1 ≤ c) (hm : c ≤ maxLen) :
    Calls Try.prog 7 #[.agg #[.int .i64 2, .int .i64 1, .slice A 1 c], .int .i64 2, .int .i64 (-3)] (((w.setCell ⟨g, 0, none⟩ (.int .i64 2)).setCell ⟨g, 1, none⟩ (.int .i64 1)).setCell ⟨g, 2, none⟩ (.slice A 1 c)) (fun (e : Ending) (w' : World) => ∃ A' c', e = .returned (.tuple #[.agg #[.int .i64 2, .int .i64 2, .slice A' 2 c'], .int .i64 0]) ∧ 2 ≤ c' ∧ c' ≤ maxLen ∧ w'.ownsRow (((w.setCell ⟨g, 0, none⟩ (.int .i64 2)).setCell ⟨g, 1, none⟩ (.int .i64 1)).setCell ⟨g, 2, none⟩ (.slice A 1 c)).heap.size 32 3 (.slice A' 2 c') 2 (SV encC [(1, 1, 5), (2, 2, -3)]) ∧ Below (((w.setCell ⟨g, 0, none⟩ (.int .i64 2)).setCell ⟨g, 1, none⟩ (.int .i64 1)).setCell ⟨g, 2, none⟩ (.slice A 1 c)).heap.size (((w.setCell ⟨g, 0, none⟩ (.int .i64 2)).setCell ⟨g, 1, none⟩ (.int .i64 1)).setCell ⟨g, 2, none⟩ (.slice A 1 c)) w') :=
  by
  have e : noteL 2 1 [(1, 1, 5)] 2 (-3) = (2, 2, [(1, 1, 5), (2, 2, -3)], 0) := by decide
  have h := note_W (r := 2) (l := 1) (b := 2) (m := -3) ho hn hm (by omega) e
  exact h
theorem note_2 {w : World} {g c : Nat} {A : Option Addr} (ho : w.ownsRow (g + 1) 32 3 (.slice A 2 c) 2 (SV encC [(1, 1, 5), (2, 2, -3)])) (hn : 2 ≤ c) (hm : c ≤ maxLen) :
    Calls Try.prog 7 #[.agg #[.int .i64 2, .int .i64 2, .slice A 2 c], .int .i64 1, .int .i64 4] (((w.setCell ⟨g, 0, none⟩ (.int .i64 2)).setCell ⟨g, 1, none⟩ (.int .i64 2)).setCell ⟨g, 2, none⟩ (.slice A 2 c)) (fun (e : Ending) (w' : World) => ∃ A' c', e = .returned (.tuple #[.agg #[.int .i64 2, .int .i64 3, .slice A' 2 c'], .int .i64 0]) ∧ 2 ≤ c' ∧ c' ≤ maxLen ∧ w'.ownsRow (((w.setCell ⟨g, 0, none⟩ (.int .i64 2)).setCell ⟨g, 1, none⟩ (.int .i64 2)).setCell ⟨g, 2, none⟩ (.slice A 2 c)).heap.size 32 3 (.slice A' 2 c') 2 (SV encC [(2, 2, -3), (3, 1, 4)]) ∧ Below (((w.setCell ⟨g, 0, none⟩ (.int .i64 2)).setCell ⟨g, 1, none⟩ (.int .i64 2)).setCell ⟨g, 2, none⟩ (.slice A 2 c)).heap.size (((w.setCell ⟨g, 0, none⟩ (.int .i64 2)).setCell ⟨g, 1, none⟩ (.int .i64 2)).setCell ⟨g, 2, none⟩ (.slice A 2 c)) w') :=
  by
  have e : noteL 2 2 [(1, 1, 5), (2, 2, -3)] 1 4 = (2, 3, [(2, 2, -3), (3, 1, 4)], 0) := by decide
  have h := note_W (r := 2) (l := 2) (b := 1) (m := 4) ho hn hm (by omega) e
  exact h
theorem since_1 {w : World} {B c : Nat} {A : Option Addr} (h : LRow w B A 2 [(2, 2, -3), (3, 1, 4)]) (hB : B ≤ w.heap.size) (hn : 2 ≤ c) (hm : c ≤ maxLen) :
    Calls Try.prog 13 #[.agg #[.int .i64 2, .int .i64 3, .slice A 2 c], .int .i64 1] w fun e w' => ∃ b2 off2 c2, e = .returned (.tuple #[.slice (some ⟨b2, off2, none⟩) 2 c2, .int .i64 0]) ∧ b2 < w'.heap.size ∧ w'.cell? ⟨b2, off2, none⟩ = some (.int .i64 2) ∧ w'.cell? ⟨b2, off2 + 1, none⟩ = some (.int .i64 2) ∧ w'.cell? ⟨b2, off2 + 2, none⟩ = some (.int .i64 (-3)) ∧ Below w.heap.size w w' := by
  have h1 := since_any (room := 2) (last := 3) (ver := 1) h hB hn hm (by omega)
  rw [show sinceL 2 3 [(2, 2, -3), (3, 1, 4)] 1 = ([(2, 2, -3), (3, 1, 4)], 0) by decide] at h1
  refine h1.mono ?_
  rintro e w' ⟨A2, c2, rfl, h2, h3, h4, h5⟩
  obtain ⟨b2, off2, rfl, hb, hcell⟩ := lrow_cells h4 (by decide)
  obtain ⟨k1, k2, k3⟩ := hcell 0 (by decide)
  exact ⟨b2, off2, c2, rfl, hb, k1, k2, k3, h5⟩
theorem since_0 {w : World} {B c : Nat} {A : Option Addr} (h : LRow w B A 2 [(2, 2, -3), (3, 1, 4)]) (hB : B ≤ w.heap.size) (hn : 2 ≤ c) (hm : c ≤ maxLen) :
    Calls Try.prog 13 #[.agg #[.int .i64 2, .int .i64 3, .slice A 2 c], .int .i64 0] w fun e w' => ∃ A2 c2, e = .returned (.tuple #[.slice A2 0 c2, .int .i64 111]) ∧ Below w.heap.size w w' := by
  have h1 := since_any (room := 2) (last := 3) (ver := 0) h hB hn hm (by omega)
  rw [show sinceL 2 3 [(2, 2, -3), (3, 1, 4)] 0 = ([], 111) by decide] at h1
  refine h1.mono ?_
  rintro e w' ⟨A2, c2, rfl, h2, h3, h4, h5⟩
  exact ⟨A2, c2, rfl, h5⟩
theorem at_1 {w : World} {B c : Nat} {A : Option Addr} (h : LRow w B A 2 [(2, 2, -3), (3, 1, 4)]) (hB : B ≤ w.heap.size) (hn : 2 ≤ c) (hm : c ≤ maxLen) :
    Calls Try.prog 15 #[.agg #[.int .i64 2, .int .i64 3, .slice A 2 c], .int .i64 6, .int .i64 1] w fun e w' => e = .returned (.tuple #[.int .i64 5, .int .i64 0]) ∧ Below w.heap.size w w' := by
  have h1 := at_any (room := 2) (last := 3) (ver := 1) (vol := 6) h hB hn hm (by omega) (by omega) (by omega)
  rwa [show atL 2 3 [(2, 2, -3), (3, 1, 4)] 6 1 = (5, 0) by decide] at h1
theorem net_1 {w : World} {B c : Nat} {A : Option Addr} (h : LRow w B A 2 [(2, 2, -3), (3, 1, 4)]) (hB : B ≤ w.heap.size) :
    Calls Try.prog 18 #[.agg #[.int .i64 2, .int .i64 3, .slice A 2 c], .int .i64 1] w fun e w' => e = .returned (.int .i64 4) ∧ Below w.heap.size w w' := by
  have h1 := Net_any (room := 2) (last := 3) (by_ := 1) (c := c) h hB (by omega)
  rwa [show netL 2 3 [(2, 2, -3), (3, 1, 4)] 1 = 4 by decide] at h1
theorem right_1 {w : World} {B c : Nat} {A : Option Addr} (h : LRow w B A 2 [(2, 2, -3), (3, 1, 4)]) (hB : B ≤ w.heap.size) :
    Calls Try.prog 10 #[.agg #[.int .i64 2, .int .i64 3, .slice A 2 c]] w fun e w' => e = .returned (.bool true) ∧ Below w.heap.size w w' := by
  have h1 := right_any (room := 2) (last := 3) (c := c) h hB (by omega)
  rwa [show rightL 2 3 [(2, 2, -3), (3, 1, 4)] = true by decide] at h1
set_option maxHeartbeats 2000000 in
theorem lives_any (w : World) : Calls Try.prog 6 #[] w fun e w' => e = .returned (.bool true) ∧ Below w.heap.size w w' := by
  go_enter Try.func6, Try.ntmps6
  have N1 := new_yes 2 w (by omega) (by omega)
  go_wp2_with (first | (go_at_call 12; (with_reducible refine N1.mono ?_); rintro e w1 ⟨rfl, hb1⟩; have P1 := note_0 (w1.alloc (.cells #[.int .i64 2, .int .i64 0, .slice none 0 0] 24)); clear N1) | (go_at_call 7; (with_reducible refine P1.mono ?_); rintro e w2 ⟨A2, c2, rfl, hcap2, hcm2, hown2, hb2⟩; have BK2 := (hb2.block w1.heap.size (by simp only [World.size_alloc, World.size_setCell]; omega)).trans (heap_alloc_new w1 _); obtain ⟨c02, c12, c22, f02, f12, f22⟩ := box3_cells BK2; have hz2 : w1.heap.size + 1 ≤ w2.heap.size := (by have := hb2.size; simp only [World.size_alloc, World.size_setCell] at this; omega); have HBK2 := hide BK2; clear BK2; have P2 := note_1 (g := w1.heap.size) (own_down hown2 (by simp)) hcap2 hcm2; clear P1 hown2) | (go_at_call 7; (with_reducible refine P2.mono ?_); rintro e w3 ⟨A3, c3, rfl, hcap3, hcm3, hown3, hb3⟩; have BK3 := (hb3.block w1.heap.size (by simp only [World.size_alloc, World.size_setCell]; omega)).trans (box3_set HBK2.out _ _ _); obtain ⟨c03, c13, c23, f03, f13, f23⟩ := box3_cells BK3; have hz3 : w1.heap.size + 1 ≤ w3.heap.size := (by have := hb3.size; simp only [World.size_alloc, World.size_setCell] at this; omega); have HBK3 := hide BK3; clear BK3; have P3 := note_2 (g := w1.heap.size) (own_down hown3 (by simp; omega)) hcap3 hcm3; clear P2 hown3) | (go_at_call 7; (with_reducible refine P3.mono ?_); rintro e w4 ⟨A4, c4, rfl, hcap4, hcm4, hown4, hb4⟩; have BK4 := (hb4.block w1.heap.size (by simp only [World.size_alloc, World.size_setCell]; omega)).trans (box3_set HBK3.out _ _ _); obtain ⟨c04, c14, c24, f04, f14, f24⟩ := box3_cells BK4; have hz4 : w1.heap.size + 1 ≤ w4.heap.size := (by have := hb4.size; simp only [World.size_alloc, World.size_setCell] at this; omega); have HBK4 := hide BK4; clear BK4; have HR4 := hide (srow_of_own encC_len (by decide) (own_W (g := w1.heap.size) (r := 2) (l := 3) (own_down hown4 (by simp; omega)))); have S1 := since_1 HR4.out (Nat.le_refl _) hcap4 hcm4; have HBW := hide (box3_set HBK4.out (.int .i64 2) (.int .i64 3) (.slice A4 2 c4)); clear P3 hown4) | (go_at_call 13; (with_reducible refine S1.mono ?_); rintro e w5 ⟨b5, off5, c5, rfl, hb5', k1, k2, k3, hb5⟩; have BK5 := (hb5.block w1.heap.size (by simp only [World.size_alloc, World.size_setCell]; omega)).trans (HBW.out); obtain ⟨c05, c15, c25, f05, f15, f25⟩ := box3_cells BK5; have hz5 : w1.heap.size + 1 ≤ w5.heap.size := (by have := hb5.size; simp only [World.size_alloc, World.size_setCell] at this; omega); have HBK5 := hide BK5; clear BK5; have HR5 := hide (srow_below HR4.out hb5 (Nat.le_refl _)); have S0 := since_0 HR5.out hb5.size hcap4 hcm4; clear S1) | (go_at_call 13; (with_reducible refine S0.mono ?_); rintro e w6 ⟨A6, c6, rfl, hb6⟩; have BK6 := (hb6.block w1.heap.size (by omega)).trans HBK5.out; obtain ⟨c06, c16, c26, f06, f16, f26⟩ := box3_cells BK6; have hz6 : w1.heap.size + 1 ≤ w6.heap.size := (by have := hb6.size; omega); have HBK6 := hide BK6; clear BK6; have e1 := (hb6.cell (p := ⟨b5, off5, none⟩) hb5').trans k1; have e2 := (hb6.cell (p := ⟨b5, off5 + 1, none⟩) hb5').trans k2; have e3 := (hb6.cell (p := ⟨b5, off5 + 2, none⟩) hb5').trans k3; have HR6 := hide (srow_below HR5.out hb6 hb5.size); have AT := at_1 HR6.out (Nat.le_trans hb5.size hb6.size) hcap4 hcm4; clear S0 k1 k2 k3) | (go_at_call 15; (with_reducible refine AT.mono ?_); rintro e w7 ⟨rfl, hb7⟩; have BK7 := (hb7.block w1.heap.size (by omega)).trans HBK6.out; obtain ⟨c07, c17, c27, f07, f17, f27⟩ := box3_cells BK7; have hz7 : w1.heap.size + 1 ≤ w7.heap.size := (by have := hb7.size; omega); have HBK7 := hide BK7; clear BK7; have j1 := (hb7.cell (p := ⟨b5, off5, none⟩) (Nat.lt_of_lt_of_le hb5' hb6.size)).trans e1; have j2 := (hb7.cell (p := ⟨b5, off5 + 1, none⟩) (Nat.lt_of_lt_of_le hb5' hb6.size)).trans e2; have j3 := (hb7.cell (p := ⟨b5, off5 + 2, none⟩) (Nat.lt_of_lt_of_le hb5' hb6.size)).trans e3; have HR7 := hide (srow_below HR6.out hb7 (Nat.le_trans hb5.size hb6.size)); have NT := net_1 (c := c4) HR7.out (Nat.le_trans (Nat.le_trans hb5.size hb6.size) hb7.size); clear AT) | (go_at_call 18; (with_reducible refine NT.mono ?_); rintro e w8 ⟨rfl, hb8⟩; have BK8 := (hb8.block w1.heap.size (by omega)).trans HBK7.out; obtain ⟨c08, c18, c28, f08, f18, f28⟩ := box3_cells BK8; have hz8 : w1.heap.size + 1 ≤ w8.heap.size := (by have := hb8.size; omega); have HBK8 := hide BK8; clear BK8; have HR8 := hide (srow_below HR7.out hb8 (Nat.le_trans (Nat.le_trans hb5.size hb6.size) hb7.size)); have RT := right_1 (c := c4) HR8.out (Nat.le_trans (Nat.le_trans (Nat.le_trans hb5.size hb6.size) hb7.size) hb8.size); clear NT) | (go_at_call 10; (with_reducible refine RT.mono ?_); rintro e w9 ⟨rfl, hb9⟩))
  go_ret
  have b2 : Below w.heap.size w w2 := (hb1.alloc (by have := hb1.size; omega) _).trans (hb2.mono (by have := hb1.size; simp only [World.size_alloc]; omega))
  have z1 := hb1.size
  have b3 : Below w.heap.size w w3 := (((b2.setCell (p := ⟨w1.heap.size, 0, none⟩) z1 _).setCell (p := ⟨w1.heap.size, 1, none⟩) z1 _).setCell (p := ⟨w1.heap.size, 2, none⟩) z1 _).trans (hb3.mono (by simp only [World.size_setCell]; omega))
  have b4 : Below w.heap.size w w4 := (((b3.setCell (p := ⟨w1.heap.size, 0, none⟩) z1 _).setCell (p := ⟨w1.heap.size, 1, none⟩) z1 _).setCell (p := ⟨w1.heap.size, 2, none⟩) z1 _).trans (hb4.mono (by simp only [World.size_setCell]; omega))
  have b5' : Below w.heap.size w w5 := (((b4.setCell (p := ⟨w1.heap.size, 0, none⟩) z1 _).setCell (p := ⟨w1.heap.size, 1, none⟩) z1 _).setCell (p := ⟨w1.heap.size, 2, none⟩) z1 _).trans (hb5.mono (by simp only [World.size_setCell]; omega))
  exact ⟨rfl, (((b5'.trans (hb6.mono (by omega))).trans (hb7.mono (by omega))).trans (hb8.mono (by omega))).trans (hb9.mono (by omega))⟩
end Go.Proofs.Ytngdlgmehefocaa.Log
