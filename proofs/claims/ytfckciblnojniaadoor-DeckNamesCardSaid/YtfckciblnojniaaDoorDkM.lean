/- The places of a box, by the reference. No condition. -/
import Derived.Test.YtfckciblnojniaaDoorDkH
import Derived.Test.YtfckciblnojniaaDoorBox4
namespace Go.Proofs.YtfckciblnojniaaDoor.Dk
open Go.ChangeShapes Go.WideShapes Go.ChangeAt Go.RowKit Go.Proofs.YtfckciblnojniaaDoor.Kit Go.Proofs.YtfckciblnojniaaDoor.Flt Go.Proofs.YtfckciblnojniaaDoor.Mem Go.Proofs.YtfckciblnojniaaDoor.Rail Go.Proofs.YtfckciblnojniaaDoor.Mix Go.Deep
set_option linter.unusedVariables false
set_option linter.unusedSimpArgs false
theorem info_part : (Tryd.prog.info? 34).map (fun i => (i.zero, i.size, i.bytes)) = some (some (.agg #[.int .i64 0, .int .i64 0, .int .i64 0, .int .i64 0]), 4, 32) := by kernel_rfl
theorem sized_ownP {w : World} {base c n : Nat} {A : Option Addr} {e : TypeId} {xs : List Value} (h : w.ownsRow base e 4 (.slice A n c) n xs) : n ≤ c ∧ c ≤ maxLen := by
  rcases h.2 with ⟨hv, hn⟩ | ⟨b, cap, cur, hv, hbg, hg, hnc, hcm, hcs, htk⟩
  · simp only [Value.slice.injEq] at hv
    obtain ⟨-, rfl, rfl⟩ := hv
    exact ⟨Nat.le_refl _, Nat.zero_le _⟩
  · simp only [Value.slice.injEq] at hv
    obtain ⟨-, -, rfl⟩ := hv
    exact ⟨hnc, hcm⟩
/-- A row of parts, made. -/
def PtPost (w : World) (l : List Pt) (e : Ending) (w' : World) : Prop := ∃ A c, e = .returned (.slice A l.length c) ∧ w'.ownsRow w.heap.size 34 4 (.slice A l.length c) l.length (SV encPt l) ∧ Below w.heap.size w w'
theorem box_next {kind : Int} {u a b9 i j ib : Nat} (hi : i * b9 = ib) (hj : j < b9) (hs : ib + j < a * b9) : (boxParts kind u a b9).take (ib + j + 1) = (boxParts kind u a b9).take (ib + j) ++ [⟨kind, (u : Nat), (i : Nat), (j : Nat)⟩] := by
  have h1 : (boxParts kind u a b9)[ib + j]? = some ⟨kind, (u : Nat), (i : Nat), (j : Nat)⟩ := by
    unfold boxParts
    rw [List.getElem?_map, List.getElem?_range hs, Option.map_some]
    unfold ptAt
    rw [← hi, Nat.mul_comm i, Nat.mul_add_div (by omega), Nat.div_eq_of_lt hj, Nat.mul_add_mod, Nat.mod_eq_of_lt hj]
    rfl
  rw [List.take_add_one, h1]
  rfl
set_option maxHeartbeats 8000000 in
set_option maxRecDepth 20000 in
theorem places_any (kind : Int) (u a b9 : Nat) (ha : a ≤ 32) (hb9 : b9 ≤ 48) (w : World) :
    Calls Tryd.prog 46 #[.int .i64 kind, .int .i64 u, .int .i64 a, .int .i64 b9] w (PtPost w (boxParts kind u a b9)) := by
  obtain ⟨i0, hi0, hz0, hz1, hz2⟩ := info_parts info_part
  have hs : a * b9 ≤ 32 * 48 := Nat.mul_le_mul ha hb9
  have HN := hide (fun i j ib h1 h2 h3 => box_next (kind := kind) (u := u) (a := a) (b9 := b9) (i := i) (j := j) (ib := ib) h1 h2 h3)
  have HL : Hid ((boxParts kind u a b9).length = a * b9) := hide (boxParts_len _ _ _ _)
  have HM : Hid (∀ i, i < a → (i + 1) * b9 ≤ a * b9) := hide (fun i h => Nat.mul_le_mul_right _ h)
  unfold PtPost
  generalize boxParts kind u a b9 = L at *
  generalize hS : a * b9 = s at *
  have HSS := hide hS
  clear hS
  rw [HL.out]
  go_enter Tryd.func46, Tryd.ntmps46
  go_wp2
  go_loopw [9, 10] (fun o i wr => ∃ (k ib : Nat) (A2 : Option Addr) (c2 : Nat), k ≤ a ∧ Hid (k * b9 = ib) ∧ ib ≤ s ∧ o = .slice A2 ib c2 ∧ i = .int .i64 k ∧ Hid (wr.ownsRow w.heap.size 34 4 (.slice A2 ib c2) ib (SV encPt (L.take ib))) ∧ Below w.heap.size w wr) (fun _ i _ => a - (intOf i).toNat)
  case atStart => exact ⟨0, 0, none, 0, Nat.zero_le _, hide (Nat.zero_mul _), Nat.zero_le _, rfl, rfl, hide (World.ownsRow_nil _ _ _ _), Below.refl _ _⟩
  case round =>
    obtain ⟨k, ib, A2, c2, hk, HK, hib, rfl, rfl, HO, hbw⟩ := hrel
    have hz0' := hbw.size
    have HBW := hide hbw
    by_cases hlt : k < a
    · have hnx : ib + b9 ≤ s := by
        have h1 := HM.out k hlt
        have h2 := HK.out
        rw [Nat.succ_mul, h2] at h1
        exact h1
      have HK2 : Hid ((k + 1) * b9 = ib + b9) := hide (by rw [Nat.succ_mul, HK.out])
      clear hbw
      go_wp2
      obtain ⟨wv, rfl⟩ : ∃ wv : World, wv = wr := ⟨_, rfl⟩
      go_loopw [9, 11] (fun o i wr => ∃ (j : Nat) (A3 : Option Addr) (c3 : Nat), j ≤ b9 ∧ o = .slice A3 (ib + j) c3 ∧ i = .int .i64 j ∧ Hid (wr.ownsRow w.heap.size 34 4 (.slice A3 (ib + j) c3) (ib + j) (SV encPt (L.take (ib + j)))) ∧ Below w.heap.size w wr) (fun _ i _ => b9 - (intOf i).toNat)
      case atStart => exact ⟨0, A2, c2, Nat.zero_le _, rfl, rfl, HO, HBW.out⟩
      case round =>
        obtain ⟨j, A3, c3, hj, rfl, rfl, HO3, hbw⟩ := hrel
        clear HO HBW hz0'
        have hz0' := hbw.size
        have HBW := hide hbw
        clear hbw
        by_cases hjt : j < b9
        · have HT := hide (HN.out k j ib HK.out hjt (by have := HSS.out; omega))
          have HR1 : Hid (SRow encPt 4 (wr.alloc (.cells #[.int .i64 kind, .int .i64 u, .int .i64 k, .int .i64 j] 34)) (wr.heap.size + 1) (some ⟨wr.heap.size, 0, none⟩) 1 [⟨kind, (u : Nat), (k : Nat), (j : Nat)⟩]) := hide (srow_one encPt_len wr ⟨kind, (u : Nat), (k : Nat), (j : Nat)⟩ 34)
          have hsz := sized_ownP HO3.out
          go_wp2_with (at_builtin; go_loud (refine wp_append_srow (wr.alloc (.cells #[.int .i64 kind, .int .i64 u, .int .i64 k, .int .i64 j] 34)) rfl (.tmp 22) (.tmp 28) 53 rfl encPt_len encPt_one (by decide) w.heap.size 34 i0 _ 32 Tryd.underlying53 hi0 hz0 hz1 hz2 rfl A3 (ib + j) c3 _ rfl (HO3.out.alloc _) _ _ 1 1 [⟨kind, (u : Nat), (k : Nat), (j : Nat)⟩] rfl HR1.out (by unfold maxLen; omega) (by omega) (by simp; omega) ?_); intro A5 c5 w5 hown5 hgrow5 hbel5 hcap5 hcm5)
          exact ⟨⟨j + 1, A5, c5, by omega, rfl, by go_num, hide (by rw [← Nat.add_assoc, HT.out]; exact hown5), (HBW.out.alloc hz0' _).trans hbel5⟩, by simp [intOf]; omega⟩
        · obtain rfl : j = b9 := by omega
          go_wp2
          exact ⟨⟨k + 1, ib + j, A3, c3, by omega, HK2, hnx, rfl, by go_num, HO3, HBW.out⟩, by simp [intOf]; omega⟩
    · obtain rfl : k = a := by omega
      obtain rfl : ib = s := by rw [← HK.out, HSS.out]
      have HO4 := HO.out
      rw [List.take_of_length_le (by rw [HL.out]; exact Nat.le_refl _)] at HO4
      have HO5 := hide HO4
      clear HO4 hbw
      go_wp2
      go_ret
      exact ⟨A2, c2, rfl, HO5.out, HBW.out⟩
end Go.Proofs.YtfckciblnojniaaDoor.Dk
