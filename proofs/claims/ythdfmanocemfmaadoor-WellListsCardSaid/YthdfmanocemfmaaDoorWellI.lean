/- A text cut at each byte, by the reference. Condition: the text's size is bounded. -/
import Derived.Test.YthdfmanocemfmaaDoorWellH
import Derived.LoopTactic
namespace Go.Proofs.YthdfmanocemfmaaDoor.Well
open Go.ChangeShapes Go.WideShapes Go.ChangeAt Go.RowKit Go.Proofs.YthdfmanocemfmaaDoor.Kit Go.Proofs.YthdfmanocemfmaaDoor.Num Go.Proofs.YthdfmanocemfmaaDoor.Mem Go.Deep Go.PlainAid
set_option linter.unusedVariables false
set_option linter.unusedSimpArgs false
theorem split_at (c : UInt8) : ∀ (m : Nat) (l : List UInt8), (∀ j, j < m → l.getD j 0 ≠ c) → m < l.length → l.getD m 0 = c → splitL c l = l.take m :: splitL c (l.drop (m + 1))
  | 0, x :: r, _, _, h => by
    have h2 : x = c := h
    subst h2
    simp [splitL]
  | m + 1, x :: r, h0, hm, h => by
    have hx : x ≠ c := h0 0 (by omega)
    have := split_at c m r (fun j hj => h0 (j + 1) (by omega)) (by simpa using hm) h
    conv => lhs; unfold splitL
    rw [if_neg hx, this]
    rfl
  | _, [], _, hm, _ => by simp at hm
theorem split_none (c : UInt8) : ∀ l : List UInt8, (∀ j, j < l.length → l.getD j 0 ≠ c) → splitL c l = [l]
  | [], _ => rfl
  | x :: r, h0 => by
    have hx : x ≠ c := h0 0 (by simp)
    have := split_none c r (fun j hj => h0 (j + 1) (by simpa using hj))
    unfold splitL
    rw [if_neg hx, this]
    rfl
theorem ext_list (s : ByteArray) (a b : Nat) : s.extract a b = ⟨((s.data.toList.drop a).take (b - a)).toArray⟩ := by
  have h := Lib.extract_data s a b
  rw [← h]
theorem drop_getD (l : List UInt8) (F j : Nat) : (l.drop F).getD j 0 = l.getD (F + j) 0 := by
  simp [List.getD_eq_getElem?_getD, List.getElem?_drop]
theorem bt_byte (s : ByteArray) (j : Nat) (c : UInt8) : bt s j = (c.toNat : Int) ↔ s.data.toList.getD j 0 = c := by
  rw [bt_fb]
  unfold fb
  constructor
  · intro h
    exact UInt8.toNat_inj.1 (by omega)
  · intro h
    rw [h]
/-- The loop's state: pieces so far, where the next one begins, where the loop is. -/
def CutI (s : ByteArray) (c : UInt8) (os : List (List UInt8)) (F k : Nat) : Prop := F ≤ k ∧ k ≤ s.size ∧ os.length ≤ k ∧ (∀ j, F ≤ j → j < k → bt s j ≠ (c.toNat : Int)) ∧ os ++ splitL c (s.data.toList.drop F) = splitL c s.data.toList
theorem cutI_no {s : ByteArray} {c : UInt8} {os : List (List UInt8)} {F k : Nat} (h : CutI s c os F k) (hk : k < s.size) (hb : bt s k ≠ (c.toNat : Int)) : CutI s c os F (k + 1) := by
  obtain ⟨h1, h2, h3, h4, h5⟩ := h
  refine ⟨by omega, by omega, by omega, fun j hj hj2 => ?_, h5⟩
  rcases Nat.lt_succ_iff_lt_or_eq.1 hj2 with h6 | rfl
  · exact h4 j hj h6
  · exact hb
theorem cutI_yes {s : ByteArray} {c : UInt8} {os : List (List UInt8)} {F k : Nat} (h : CutI s c os F k) (hk : k < s.size) (hb : bt s k = (c.toNat : Int)) : CutI s c (os ++ [(s.data.toList.drop F).take (k - F)]) (k + 1) (k + 1) := by
  obtain ⟨h1, h2, h3, h4, h5⟩ := h
  refine ⟨Nat.le_refl _, by omega, by simp; omega, fun j hj hj2 => by omega, ?_⟩
  have hl := size_len s
  have h6 := split_at c (k - F) (s.data.toList.drop F) (fun j hj => by
    rw [drop_getD]
    exact fun e => h4 (F + j) (by omega) (by omega) ((bt_byte s _ c).2 e)) (by rw [List.length_drop]; omega) (by
    rw [drop_getD, show F + (k - F) = k by omega]
    exact (bt_byte s k c).1 hb)
  rw [← h5, h6, List.drop_drop, show F + (k - F + 1) = k + 1 by omega]
  simp
theorem cutI_end {s : ByteArray} {c : UInt8} {os : List (List UInt8)} {F k : Nat} (h : CutI s c os F k) (hk : k = s.size) : os ++ [s.data.toList.drop F] = splitL c s.data.toList := by
  obtain ⟨h1, h2, h3, h4, h5⟩ := h
  have hl := size_len s
  rw [← h5, split_none c (s.data.toList.drop F) fun j hj => by
    rw [List.length_drop] at hj
    rw [drop_getD]
    exact fun e => h4 (F + j) (by omega) (by omega) ((bt_byte s _ c).2 e)]
def CutPost (w : World) (ss : List (List UInt8)) (e : Ending) (w' : World) : Prop :=
  ∃ A c, e = .returned (.slice A ss.length c) ∧ ss.length ≤ c ∧ c ≤ maxLen ∧ TRow w' w'.heap.size A ss.length ss ∧ Below w.heap.size w w'
set_option maxHeartbeats 2000000 in
theorem rcut_any (s : ByteArray) (c : UInt8) (w : World) (hs : s.size ≤ 1073741824) : Calls Tryd.prog 23 #[.string s, .int .u8 (c.toNat : Nat)] w (CutPost w (splitL c s.data.toList)) := by
  obtain ⟨i0, hi0, hz0, hz1, hz2⟩ := info_parts info_str
  have hbt := get_bt s
  obtain ⟨x, hx⟩ : ∃ x : Int, (c.toNat : Int) = x := ⟨_, rfl⟩
  rw [hx]
  go_enter Tryd.func23, Tryd.ntmps23
  go_wp2
  go_loopw [5, 6, 7] (fun o f i wr => ∃ (k F : Nat) (os : List (List UInt8)) (A2 : Option Addr) (cc2 : Nat), i = .int .i64 k ∧ f = .int .i64 F ∧ o = .slice A2 os.length cc2 ∧ CutI s c os F k ∧ os.length ≤ cc2 ∧ cc2 ≤ maxLen ∧ wr.ownsRow w.heap.size 9 1 (.slice A2 os.length cc2) os.length (SV encS os) ∧ Below w.heap.size w wr) (fun _ _ i _ => s.size - (intOf i).toNat)
  case atStart => exact ⟨0, 0, [], none, 0, rfl, rfl, rfl, ⟨Nat.le_refl _, Nat.zero_le _, Nat.le_refl _, fun j h1 h2 => by omega, rfl⟩, Nat.le_refl _, Nat.zero_le _, World.ownsRow_nil _ _ _ _, Below.refl _ _⟩
  case round =>
    obtain ⟨k, F, os, A2, cc2, rfl, rfl, rfl, hI, hcap, hcm, hown, hbw⟩ := hrel
    have hI0 := hI
    obtain ⟨h1, h2, h3, _, _⟩ := hI0
    have HI := hide hI
    have HO := hide hown
    have hz2' := hbw.size
    clear hI hown
    by_cases hlt : k < s.size
    · by_cases hb : bt s k = x
      · have HS := hide (cutI_yes HI.out hlt (hb.trans hx.symm))
        have he := ext_list s F k
        generalize (s.data.toList.drop F).take (k - F) = d at *
        go_wp2_with (at_builtin; go_loud (refine wp_append_srow ((wr.alloc (.cells #[.string ⟨d.toArray⟩] 9))) rfl (.tmp 19) (.tmp 24) 45 rfl encS_len encS_one (by decide) w.heap.size 9 i0 _ 16 Tryd.underlying45 hi0 hz0 hz1 hz2 rfl A2 os.length cc2 _ rfl (HO.out.alloc _) _ _ 1 1 [d] rfl (srow_one encS_len wr d 9) (by unfold maxLen; omega) (by omega) (by simp; omega) ?_); intro A5 c5 w5 hown5 hgrow5 hbel5 hcap5 hcm5)
        refine ⟨⟨k + 1, k + 1, os ++ [d], A5, c5, by go_num, by go_num, by rw [List.length_append]; rfl, HS.out, by rw [List.length_append]; exact hcap5, hcm5, by rw [List.length_append]; exact hown5, (hbw.alloc (by omega) _).trans hbel5⟩, by simp [intOf]; omega⟩
      · have HS := hide (cutI_no HI.out hlt (fun e => hb (e.trans hx)))
        go_wp2
        exact ⟨⟨k + 1, F, os, A2, cc2, by go_num, rfl, rfl, HS.out, hcap, hcm, HO.out, hbw⟩, by simp [intOf]; omega⟩
    · obtain rfl : k = s.size := by omega
      have HS := hide (cutI_end HI.out rfl)
      have he : s.extract F s.size = ⟨(s.data.toList.drop F).toArray⟩ := by rw [← drop_list]
      generalize s.data.toList.drop F = d at *
      go_wp2_with (at_builtin; go_loud (refine wp_append_srow ((wr.alloc (.cells #[.string ⟨d.toArray⟩] 9))) rfl (.tmp 28) (.tmp 32) 45 rfl encS_len encS_one (by decide) w.heap.size 9 i0 _ 16 Tryd.underlying45 hi0 hz0 hz1 hz2 rfl A2 os.length cc2 _ rfl (HO.out.alloc _) _ _ 1 1 [d] rfl (srow_one encS_len wr d 9) (by unfold maxLen; omega) (by omega) (by simp; omega) ?_); intro A5 c5 w5 hown5 hgrow5 hbel5 hcap5 hcm5)
      go_ret
      rw [← HS.out]
      exact ⟨A5, c5, by rw [List.length_append]; rfl, by rw [List.length_append]; exact hcap5, hcm5, by rw [List.length_append]; exact srow_of_own encS_len (by decide) hown5, (hbw.alloc (by omega) _).trans hbel5⟩
end Go.Proofs.YthdfmanocemfmaaDoor.Well
