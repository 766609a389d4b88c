/- The boxes of a deck's plates and racks. No condition. -/
import Derived.Test.YtfckciblnojniaaDoorDkB
namespace Go.Proofs.YtfckciblnojniaaDoor.Dk
open Go.ChangeShapes Go.WideShapes Go.ChangeAt Go.RowKit Go.Proofs.YtfckciblnojniaaDoor.Kit Go.Proofs.YtfckciblnojniaaDoor.Flt Go.Proofs.YtfckciblnojniaaDoor.Mem Go.Proofs.YtfckciblnojniaaDoor.Rail Go.Deep
set_option linter.unusedVariables false
set_option linter.unusedSimpArgs false
theorem info_box : (Tryd.prog.info? 57).map (fun i => (i.zero, i.size, i.bytes)) = some (some (.agg #[.int .i64 0, .int .i64 0]), 2, 16) := by kernel_rfl
def BxPost2 (w : World) (l : List Bx) (e : Ending) (w' : World) : Prop := ∃ A c, e = .returned (.slice A l.length c) ∧ SRow encB 2 w' w'.heap.size A l.length l ∧ Below w.heap.size w w' ∧ l.length ≤ c
def BxPost (w : World) (l : List Bx) (e : Ending) (w' : World) : Prop := ∃ A c, e = .returned (.slice A l.length c) ∧ SRow encB 2 w' w'.heap.size A l.length l ∧ Below w.heap.size w w'
theorem sized_ownB {w : World} {base c n : Nat} {A : Option Addr} {e : TypeId} {xs : List Value} (h : w.ownsRow base e 2 (.slice A n c) n xs) : n ≤ c ∧ c ≤ maxLen := by
  rcases h.2 with ⟨hv, hn⟩ | ⟨b, cap, cur, hv, hbg, hg, hnc, hcm, hcs, htk⟩
  · simp only [Value.slice.injEq] at hv
    obtain ⟨-, rfl, rfl⟩ := hv
    exact ⟨Nat.le_refl _, Nat.zero_le _⟩
  · simp only [Value.slice.injEq] at hv
    obtain ⟨-, -, rfl⟩ := hv
    exact ⟨hnc, hcm⟩
set_option maxHeartbeats 4000000 in
set_option maxRecDepth 20000 in
theorem plates_own {w : World} {B0 : Nat} {D : Dck} (h : DeckI w B0 D) (hB : B0 ≤ w.heap.size) (hn : D.ps.length ≤ 8) :
    Calls Tryd.prog 26 #[D.val] w (BxPost2 w (D.ps.map Plt.box)) := by
  obtain ⟨i0, hi0, hz0, hz1, hz2⟩ := info_parts info_box
  have HR := hide h.ps
  clear h
  obtain ⟨bA, bc, bs, pA, pc, ps, rA, rc, rs, arms⟩ := D
  dsimp only at HR hn
  unfold Dck.val BxPost2
  dsimp only
  go_enter Tryd.func26, Tryd.ntmps26
  go_wp2
  have HB0 : Hid (Below w.heap.size w (w.alloc (.cells #[.slice bA bs.length bc, .slice pA ps.length pc, .slice rA rs.length rc, .int .i64 arms] 26))) := hide ((Below.refl _ _).alloc (Nat.le_refl _) _)
  go_loopw [3, 9] (fun o i wr => ∃ (k : Nat) (A2 : Option Addr) (c2 : Nat), k ≤ ps.length ∧ o = .slice A2 k c2 ∧ i = .int .i64 k ∧ Hid (wr.ownsRow w.heap.size 57 2 (.slice A2 k c2) k (SV encB ((ps.take k).map Plt.box))) ∧ Below w.heap.size w wr) (fun _ i _ => ps.length - (intOf i).toNat)
  case atStart => exact ⟨0, none, 0, Nat.zero_le _, rfl, rfl, hide (World.ownsRow_nil _ _ _ _), HB0.out⟩
  case round =>
    obtain ⟨k, A2, c2, hk, rfl, rfl, HO, hbw⟩ := hrel
    clear HB0
    have hz0' := hbw.size
    have HBW := hide hbw
    by_cases hlt : k < ps.length
    · obtain ⟨b, off, rfl, hbB, hcell⟩ := plt_cells HR.out (by omega) ⟨0, 0, 0, 0, 0, 0, none, 0, []⟩
      obtain ⟨p0, p1, p2, p3, p4, p5, p6⟩ := hcell k hlt
      have d0 := (hbw.cell (p := ⟨b, off + k * 7, none⟩) (by dsimp only; omega)).trans p0
      have d1 := (hbw.cell (p := ⟨b, off + k * 7 + 1, none⟩) (by dsimp only; omega)).trans p1
      have d2 := (hbw.cell (p := ⟨b, off + k * 7 + 2, none⟩) (by dsimp only; omega)).trans p2
      have d3 := (hbw.cell (p := ⟨b, off + k * 7 + 3, none⟩) (by dsimp only; omega)).trans p3
      have d4 := (hbw.cell (p := ⟨b, off + k * 7 + 4, none⟩) (by dsimp only; omega)).trans p4
      have d5 := (hbw.cell (p := ⟨b, off + k * 7 + 5, none⟩) (by dsimp only; omega)).trans p5
      have d6 := (hbw.cell (p := ⟨b, off + k * 7 + 6, none⟩) (by dsimp only; omega)).trans p6
      have HT : Hid ((ps.take (k + 1)).map Plt.box = (ps.take k).map Plt.box ++ [(ps.getD k ⟨0, 0, 0, 0, 0, 0, none, 0, []⟩).box]) := hide (by rw [List.take_add_one, List.map_append, List.getElem?_eq_getElem hlt, List.getD_eq_getElem?_getD, List.getElem?_eq_getElem hlt]; rfl)
      have hbr : b < wr.heap.size := by omega
      clear hcell p0 p1 p2 p3 p4 p5 p6 hbw
      generalize ps.getD k ⟨0, 0, 0, 0, 0, 0, none, 0, []⟩ = q at *
      obtain ⟨r, c, x, y, z, cap, A, kk, l⟩ := q
      dsimp only [Plt.box] at d0 d1 d2 d3 d4 d5 d6 HT
      have HR1 : Hid (SRow encB 2 ((wr.alloc (.cells #[.int .i64 r, .int .i64 c, .float .f64 x, .float .f64 y, .float .f64 z, .int .i64 cap, .slice A l.length kk] 47)).alloc (.cells #[.int .i64 r, .int .i64 c] 57)) (wr.heap.size + 1 + 1) (some ⟨wr.heap.size + 1, 0, none⟩) 1 [(r, c)]) := hide (by
        have h := srow_one encB_len (wr.alloc (.cells #[.int .i64 r, .int .i64 c, .float .f64 x, .float .f64 y, .float .f64 z, .int .i64 cap, .slice A l.length kk] 47)) (r, c) 57
        rw [World.size_alloc] at h
        exact h)
      have hsz := sized_ownB HO.out
      go_wp2_with (at_builtin; go_loud (refine wp_append_srow ((wr.alloc (.cells #[.int .i64 r, .int .i64 c, .float .f64 x, .float .f64 y, .float .f64 z, .int .i64 cap, .slice A l.length kk] 47)).alloc (.cells #[.int .i64 r, .int .i64 c] 57)) rfl (.tmp 13) (.tmp 19) 50 rfl encB_len encB_one (by decide) w.heap.size 57 i0 _ 16 Tryd.underlying50 hi0 hz0 hz1 hz2 rfl A2 k c2 _ rfl ((HO.out.alloc _).alloc _) _ _ 1 1 [(r, c)] rfl HR1.out (by unfold maxLen; omega) (by omega) (by simp; omega) ?_); intro A5 c5 w5 hown5 hgrow5 hbel5 hcap5 hcm5)
      exact ⟨⟨k + 1, A5, c5, by omega, rfl, by go_num, hide (by rw [HT.out]; exact hown5), ((HBW.out.alloc hz0' _).alloc (by simp; omega) _).trans hbel5⟩, by simp [intOf]; omega⟩
    · obtain rfl : k = ps.length := by omega
      rw [List.take_length] at HO
      go_wp2
      go_ret
      exact ⟨A2, c2, by rw [List.length_map]; rfl, by have := srow_of_own encB_len (by decide) HO.out; rw [List.length_map]; exact this, HBW.out, by rw [List.length_map]; exact (sized_ownB HO.out).1⟩
set_option maxHeartbeats 4000000 in
set_option maxRecDepth 20000 in
theorem racks_own {w : World} {B0 : Nat} {D : Dck} (h : DeckI w B0 D) (hB : B0 ≤ w.heap.size) (hn : D.rs.length ≤ 8) :
    Calls Tryd.prog 27 #[D.val] w (BxPost2 w (D.rs.map Rck.box)) := by
  obtain ⟨i0, hi0, hz0, hz1, hz2⟩ := info_parts info_box
  have HR := hide h.rs
  clear h
  obtain ⟨bA, bc, bs, pA, pc, ps, rA, rc, rs, arms⟩ := D
  dsimp only at HR hn
  unfold Dck.val BxPost2
  dsimp only
  go_enter Tryd.func27, Tryd.ntmps27
  go_wp2
  have HB0 : Hid (Below w.heap.size w (w.alloc (.cells #[.slice bA bs.length bc, .slice pA ps.length pc, .slice rA rs.length rc, .int .i64 arms] 26))) := hide ((Below.refl _ _).alloc (Nat.le_refl _) _)
  go_loopw [3, 9] (fun o i wr => ∃ (k : Nat) (A2 : Option Addr) (c2 : Nat), k ≤ rs.length ∧ o = .slice A2 k c2 ∧ i = .int .i64 k ∧ Hid (wr.ownsRow w.heap.size 57 2 (.slice A2 k c2) k (SV encB ((rs.take k).map Rck.box))) ∧ Below w.heap.size w wr) (fun _ i _ => rs.length - (intOf i).toNat)
  case atStart => exact ⟨0, none, 0, Nat.zero_le _, rfl, rfl, hide (World.ownsRow_nil _ _ _ _), HB0.out⟩
  case round =>
    obtain ⟨k, A2, c2, hk, rfl, rfl, HO, hbw⟩ := hrel
    clear HB0
    have hz0' := hbw.size
    have HBW := hide hbw
    by_cases hlt : k < rs.length
    · obtain ⟨b, off, rfl, hbB, hcell⟩ := rck_cells HR.out (by omega) ⟨0, 0, 0, 0, 0⟩
      obtain ⟨p0, p1, p2, p3, p4⟩ := hcell k hlt
      have d0 := (hbw.cell (p := ⟨b, off + k * 5, none⟩) (by dsimp only; omega)).trans p0
      have d1 := (hbw.cell (p := ⟨b, off + k * 5 + 1, none⟩) (by dsimp only; omega)).trans p1
      have d2 := (hbw.cell (p := ⟨b, off + k * 5 + 2, none⟩) (by dsimp only; omega)).trans p2
      have d3 := (hbw.cell (p := ⟨b, off + k * 5 + 3, none⟩) (by dsimp only; omega)).trans p3
      have d4 := (hbw.cell (p := ⟨b, off + k * 5 + 4, none⟩) (by dsimp only; omega)).trans p4
      have HT : Hid ((rs.take (k + 1)).map Rck.box = (rs.take k).map Rck.box ++ [(rs.getD k ⟨0, 0, 0, 0, 0⟩).box]) := hide (by rw [List.take_add_one, List.map_append, List.getElem?_eq_getElem hlt, List.getD_eq_getElem?_getD, List.getElem?_eq_getElem hlt]; rfl)
      have hbr : b < wr.heap.size := by omega
      clear hcell p0 p1 p2 p3 p4 hbw
      generalize rs.getD k ⟨0, 0, 0, 0, 0⟩ = q at *
      obtain ⟨r, c, x, y, z⟩ := q
      dsimp only [Rck.box] at d0 d1 d2 d3 d4 HT
      have HR1 : Hid (SRow encB 2 ((wr.alloc (.cells #[.int .i64 r, .int .i64 c, .float .f64 x, .float .f64 y, .float .f64 z] 61)).alloc (.cells #[.int .i64 r, .int .i64 c] 57)) (wr.heap.size + 1 + 1) (some ⟨wr.heap.size + 1, 0, none⟩) 1 [(r, c)]) := hide (by
        have h := srow_one encB_len (wr.alloc (.cells #[.int .i64 r, .int .i64 c, .float .f64 x, .float .f64 y, .float .f64 z] 61)) (r, c) 57
        rw [World.size_alloc] at h
        exact h)
      have hsz := sized_ownB HO.out
      go_wp2_with (at_builtin; go_loud (refine wp_append_srow ((wr.alloc (.cells #[.int .i64 r, .int .i64 c, .float .f64 x, .float .f64 y, .float .f64 z] 61)).alloc (.cells #[.int .i64 r, .int .i64 c] 57)) rfl (.tmp 13) (.tmp 19) 50 rfl encB_len encB_one (by decide) w.heap.size 57 i0 _ 16 Tryd.underlying50 hi0 hz0 hz1 hz2 rfl A2 k c2 _ rfl ((HO.out.alloc _).alloc _) _ _ 1 1 [(r, c)] rfl HR1.out (by unfold maxLen; omega) (by omega) (by simp; omega) ?_); intro A5 c5 w5 hown5 hgrow5 hbel5 hcap5 hcm5)
      exact ⟨⟨k + 1, A5, c5, by omega, rfl, by go_num, hide (by rw [HT.out]; exact hown5), ((HBW.out.alloc hz0' _).alloc (by simp; omega) _).trans hbel5⟩, by simp [intOf]; omega⟩
    · obtain rfl : k = rs.length := by omega
      rw [List.take_length] at HO
      go_wp2
      go_ret
      exact ⟨A2, c2, by rw [List.length_map]; rfl, by have := srow_of_own encB_len (by decide) HO.out; rw [List.length_map]; exact this, HBW.out, by rw [List.length_map]; exact (sized_ownB HO.out).1⟩
theorem plates_any {w : World} {B0 : Nat} {D : Dck} (h : DeckI w B0 D) (hB : B0 ≤ w.heap.size) (hn : D.ps.length ≤ 8) :
    Calls Tryd.prog 26 #[D.val] w (BxPost w (D.ps.map Plt.box)) :=
  (plates_own h hB hn).mono fun _ _ ⟨A, c, h1, h2, h3, _⟩ => ⟨A, c, h1, h2, h3⟩
theorem racks_any {w : World} {B0 : Nat} {D : Dck} (h : DeckI w B0 D) (hB : B0 ≤ w.heap.size) (hn : D.rs.length ≤ 8) :
    Calls Tryd.prog 27 #[D.val] w (BxPost w (D.rs.map Rck.box)) :=
  (racks_own h hB hn).mono fun _ _ ⟨A, c, h1, h2, h3, _⟩ => ⟨A, c, h1, h2, h3⟩
end Go.Proofs.YtfckciblnojniaaDoor.Dk
