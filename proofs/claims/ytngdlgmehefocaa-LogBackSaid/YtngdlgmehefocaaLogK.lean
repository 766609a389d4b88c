/- What a well held in a version. No condition. -/
import Derived.Test.YtngdlgmehefocaaLogH
import Derived.Test.YtngdlgmehefocaaLogJ
namespace Go.Proofs.Ytngdlgmehefocaa.Log
open Go.ChangeShapes Go.WideShapes Go.ChangeAt Go.RowKit Go.Proofs.Ytngdlgmehefocaa.Kit Go.Proofs.Ytngdlgmehefocaa.Mem Go.Proofs.Ytngdlgmehefocaa.Mix Go.Deep
set_option linter.unusedVariables false
set_option linter.unusedSimpArgs false
theorem since_ok {room last ver : Int} {cs : List Chg} (h : (sinceL room last cs ver).2 = 0) : rightL room last cs = true ∧ (∀ x ∈ (sinceL room last cs ver).1, x ∈ cs) ∧ (sinceL room last cs ver).1.length ≤ cs.length := by
  unfold sinceL at *
  split at h
  · simp at h
  · rename_i h1
    split at h
    · simp at h
    · rename_i h2
      split at h
      · simp at h
      · rename_i h3
        rw [if_neg h1, if_neg h2, if_neg h3]
        exact ⟨by simpa using h1, fun x hx => List.mem_of_mem_drop hx, by simp⟩
theorem since_bd {room last ver : Int} {cs : List Chg} (h : (sinceL room last cs ver).2 = 0) : (sinceL room last cs ver).1.length ≤ 64 ∧ ∀ x ∈ (sinceL room last cs ver).1, -1099511627776 ≤ x.2.2 ∧ x.2.2 ≤ 1099511627776 := by
  obtain ⟨h1, h2, h3⟩ := since_ok h
  have := right_pre h1
  unfold preL at this
  exact ⟨by omega, fun x hx => by have := right_mem h1 (h2 x hx); exact ⟨this.2.2.2.1, this.2.2.2.2⟩⟩
set_option maxHeartbeats 1000000 in
theorem at_any {w : World} {A : Option Addr} {B n c : Nat} {room last vol ver : Int} {cs : List Chg} (h : LRow w B A n cs) (hB : B ≤ w.heap.size) (hn : n ≤ c) (hnm : c ≤ maxLen) (h47 : n ≤ 140737488351232) (v1 : -9223372036854775808 ≤ vol) (v2 : vol ≤ 9223372036854775807) :
    Calls Try.prog 15 #[.agg #[.int .i64 room, .int .i64 last, .slice A n c], .int .i64 vol, .int .i64 ver] w fun e w' => e = .returned (.tuple #[.int .i64 (atL room last cs vol ver).1, .int .i64 (atL room last cs vol ver).2]) ∧ Below w.heap.size w w' := by
  have e1 := h.1
  subst e1
  have S1 := since_any (ver := ver) (c := c) (srow_alloc h hB (.cells #[.int .i64 room, .int .i64 last, .slice A cs.length c] 24)) (by simp; omega) hn hnm h47 (room := room) (last := last)
  by_cases hz : (sinceL room last cs ver).2 = 0
  · obtain ⟨b1, b2⟩ := since_bd hz
    have HRES : Hid (atL room last cs vol ver = subL vol (sumL (sinceL room last cs ver).1)) := hide (by unfold atL; rw [if_neg (by simp [hz])])
    unfold SincePost at S1
    generalize sinceL room last cs ver = r at *
    obtain ⟨l, z⟩ := r
    dsimp only at *
    subst hz
    have bd := sumL_bd l b2
    have HB2 := hide b2
    have s1 : -9223372036854775808 ≤ sumL l := by omega
    have s2 : sumL l ≤ 9223372036854775807 := by omega
    clear b2 bd
    go_enter Try.func15, Try.ntmps15
    go_wp2_with (first | (go_at_call 13; (with_reducible refine S1.mono ?_); rintro e w1 ⟨A1, c1, rfl, hc1, hm1, hrow, hb⟩; obtain ⟨hS, hE, hz, hc, hf⟩ := bcell hb; (try simp only [go_sem] at hE); subst hE; have N1 := net_any (c := c1) hrow b1 HB2.out; clear hrow; obtain ⟨wa, hwa⟩ : ∃ wa : World, wa = w1 := ⟨_, rfl⟩; subst hwa) | (go_at_call 25; (with_reducible refine N1.mono ?_); rintro e w1 ⟨rfl, hb1⟩; obtain ⟨hS1, hE1, hz1, hc1', hf1⟩ := bcell hb1; (try simp only [go_sem] at hE1); subst hE1) | (go_at_call 24; (with_reducible refine (sub_any vol (sumL l) _ v1 v2 s1 s2).mono ?_); rintro e w1 ⟨rfl, hb2⟩))
    go_ret2
    exact ⟨by rw [HRES.out]; rfl, ((((Below.refl _ _).alloc (Nat.le_refl _) _).trans (hb.mono (by simp))).trans (hb1.mono (by omega))).trans (hb2.mono (by omega))⟩
  · have HRES : Hid (atL room last cs vol ver = (0, (sinceL room last cs ver).2)) := hide (by unfold atL; rw [if_pos hz])
    unfold SincePost at S1
    generalize sinceL room last cs ver = r at *
    obtain ⟨l, z⟩ := r
    dsimp only at *
    have gz : (z != 0) = true := by simpa using hz
    clear hz
    go_enter Try.func15, Try.ntmps15
    go_wp2_with (go_at_call 13; (with_reducible refine S1.mono ?_); rintro e w1 ⟨A1, c1, rfl, hc1, hm1, hrow, hb⟩; obtain ⟨hS, hE, hz, hc, hf⟩ := bcell hb; (try simp only [go_sem] at hE); subst hE; clear hrow)
    go_ret2
    exact ⟨by rw [HRES.out]; rfl, ((Below.refl _ _).alloc (Nat.le_refl _) _).trans (hb.mono (by simp))⟩
set_option maxHeartbeats 1000000 in
theorem rat_any {w : World} {A : Option Addr} {B n c : Nat} {room last vol ver : Int} {cs : List Chg} (h : LRow w B A n cs) (hB : B ≤ w.heap.size) (hn : n ≤ c) (hnm : c ≤ maxLen) (h47 : n ≤ 140737488351232) (v1 : -9223372036854775808 ≤ vol) (v2 : vol ≤ 9223372036854775807) :
    Calls Try.prog 16 #[.agg #[.int .i64 room, .int .i64 last, .slice A n c], .int .i64 vol, .int .i64 ver] w fun e w' => e = .returned (.tuple #[.int .i64 (atL room last cs vol ver).1, .int .i64 (atL room last cs vol ver).2]) ∧ Below w.heap.size w w' := by
  have e1 := h.1
  subst e1
  have S1 := rsince_any (ver := ver) (c := c) (srow_alloc h hB (.cells #[.int .i64 room, .int .i64 last, .slice A cs.length c] 24)) (by simp; omega) hn hnm h47 (room := room) (last := last)
  by_cases hz : (sinceL room last cs ver).2 = 0
  · obtain ⟨b1, b2⟩ := since_bd hz
    have HRES : Hid (atL room last cs vol ver = subL vol (sumL (sinceL room last cs ver).1)) := hide (by unfold atL; rw [if_neg (by simp [hz])])
    unfold SincePost at S1
    generalize sinceL room last cs ver = r at *
    obtain ⟨l, z⟩ := r
    dsimp only at *
    subst hz
    have bd := sumL_bd l b2
    have HBD := hide (fun k => sumL_bd (l.take k) (fun x hx => b2 x (List.mem_of_mem_take hx)))
    have HX := hide b2
    have s1 : -9223372036854775808 ≤ sumL l := by omega
    have s2 : sumL l ≤ 9223372036854775807 := by omega
    clear b2 bd
    go_enter Try.func16, Try.ntmps16
    go_wp2_with (go_at_call 14; (with_reducible refine S1.mono ?_); rintro e w1 ⟨A1, c1, rfl, hc1, hm1, hrow, hb⟩; have HW1 := hide (((Below.refl _ _).alloc (Nat.le_refl _) _).trans (hb.mono (show w.heap.size ≤ (w.alloc (.cells #[.int .i64 room, .int .i64 last, .slice A cs.length c] 24)).heap.size by simp))); have HR := hide hrow; clear hrow hb)
    obtain ⟨wo, rfl⟩ : ∃ wo : World, wo = w1 := ⟨_, rfl⟩
    go_loopw [10, 11] (fun s i wr => ∃ k : Nat, k ≤ l.length ∧ i = .int .i64 k ∧ s = .int .i64 (sumL (l.take k)) ∧ wr = wo) (fun _ i _ => l.length - (intOf i).toNat)
    case atStart => exact ⟨0, Nat.zero_le _, rfl, rfl, rfl⟩
    case round =>
      obtain ⟨k, hk, rfl, rfl, rfl⟩ := hrel
      have bd := HBD.out k
      rw [List.length_take, Nat.min_eq_left hk] at bd
      obtain ⟨bd1, bd2⟩ := bd
      by_cases hlt : k < l.length
      · obtain ⟨b, off, rfl, hbB, hcell⟩ := lrow_cells HR.out (by omega)
        obtain ⟨e0, d1, d2⟩ := hcell k hlt
        have HS := hide (sumL_snoc l k hlt)
        obtain ⟨bx1, bx2⟩ := HX.out _ (getD_mem l k hlt)
        clear hcell e0 d1
        generalize l.getD k (0, 0, 0) = ch at *
        obtain ⟨v, a, m⟩ := ch
        dsimp only at *
        have bb1 : -9223372036854775808 ≤ sumL (l.take k) + m ∧ sumL (l.take k) + m ≤ 9223372036854775807 := by omega
        obtain ⟨bb2, bb3⟩ := bb1
        go_wp2
        refine ⟨⟨k + 1, by omega, by go_num, by rw [HS.out], trivial⟩, by simp [intOf]; omega⟩
      · obtain rfl : k = l.length := by omega
        have HT : Hid (sumL (l.take l.length) = sumL l) := hide (by rw [List.take_length])
        rw [HT.out]
        go_wp2_with (go_at_call 26; (with_reducible refine (rsub_any vol (sumL l) _ v1 v2 s1 s2).mono ?_); rintro e w1 ⟨rfl, rfl⟩)
        go_ret2
        exact ⟨by rw [HRES.out]; rfl, HW1.out⟩
  · have HRES : Hid (atL room last cs vol ver = (0, (sinceL room last cs ver).2)) := hide (by unfold atL; rw [if_pos hz])
    unfold SincePost at S1
    generalize sinceL room last cs ver = r at *
    obtain ⟨l, z⟩ := r
    dsimp only at *
    have gz : (z != 0) = true := by simpa using hz
    clear hz
    go_enter Try.func16, Try.ntmps16
    go_wp2_with (go_at_call 14; (with_reducible refine S1.mono ?_); rintro e w1 ⟨A1, c1, rfl, hc1, hm1, hrow, hb⟩; obtain ⟨hS, hE, hz, hc, hf⟩ := bcell hb; (try simp only [go_sem] at hE); subst hE; clear hrow)
    go_ret2
    exact ⟨by rw [HRES.out]; rfl, ((Below.refl _ _).alloc (Nat.le_refl _) _).trans (hb.mono (by simp))⟩
end Go.Proofs.Ytngdlgmehefocaa.Log
