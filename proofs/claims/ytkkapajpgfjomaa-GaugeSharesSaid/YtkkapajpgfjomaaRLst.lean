/- The bits of floats, by the reference. No condition. -/
import Derived.Test.YtkkapajpgfjomaaReal
import Derived.Test.YtkkapajpgfjomaaEnc
import Derived.LoopTactic
namespace Go.Proofs.Ytkkapajpgfjomaa.Real
open Go.ChangeShapes Go.WideShapes Go.ChangeAt Go.RowKit Go.Proofs.Ytkkapajpgfjomaa.Kit Go.Proofs.Ytkkapajpgfjomaa.Flt Go.Proofs.Ytkkapajpgfjomaa.Mem Go.Deep
set_option linter.unusedVariables false
set_option linter.unusedSimpArgs false
def ListPost (w : World) (l : List Nat) (e : Ending) (w' : World) : Prop :=
  ∃ A c, e = .returned (.slice A l.length c) ∧ SRow encU 1 w' w'.heap.size A l.length l ∧ Below w.heap.size w w'
set_option maxHeartbeats 2000000 in
theorem rlist_any {w : World} {B n c : Nat} {A : Option Addr} {l : List Nat} (hr : SRow encF 1 w B A n l) (hB : B ≤ w.heap.size) (hn : n ≤ 100000) : Calls Try.prog 40 #[.slice A n c] w (ListPost w l) := by
  obtain ⟨i0, hi0, hz0, hz1, hz2⟩ := info_parts info_u64
  have e1 := hr.1
  subst e1
  have HR := hide hr
  have B1 := fun x w => rbits_any x w
  clear hr
  go_enter Try.func40, Try.ntmps40
  go_wp2
  go_loopw [3, 4] (fun o i wr => ∃ (k : Nat) (A2 : Option Addr) (cc2 : Nat), k ≤ l.length ∧ i = .int .i64 k ∧ o = .slice A2 k cc2 ∧ wr.ownsRow w.heap.size 51 1 (.slice A2 k cc2) k (SV encU (l.take k)) ∧ Below w.heap.size w wr) (fun _ i _ => l.length - (intOf i).toNat)
  case atStart => exact ⟨0, none, 0, Nat.zero_le _, rfl, rfl, World.ownsRow_nil _ _ _ _, Below.refl _ _⟩
  case round =>
    obtain ⟨k, A2, cc2, hk, rfl, rfl, hown, hbw⟩ := hrel
    have hz0' := hbw.size
    have htk : (l.take k).length = k := by rw [List.length_take]; omega
    by_cases hlt : k < l.length
    · obtain ⟨b, off, rfl, hbB, hcell⟩ := frow_cells HR.out (by omega)
      have hbr : b < wr.heap.size := by omega
      have d0 := (hbw.cell (p := ⟨b, off + k, none⟩) (by dsimp only; omega)).trans (hcell k hlt)
      have hnx : l.take (k + 1) = l.take k ++ [l.getD k 0] := by
        rw [List.take_succ_eq_append_getElem hlt]
        simp only [List.getD_eq_getElem?_getD, List.getElem?_eq_getElem hlt, Option.getD_some]
      have HNX := hide hnx
      clear hcell hnx
      generalize l.getD k 0 = x at *
      generalize l.take k = ps at *
      have HO := hide hown
      clear hown
      go_wp2_with (first | (go_at_call 26; refine (B1 _ _).mono ?_; rintro e w1 ⟨rfl, rfl⟩) | (at_builtin; go_loud (refine wp_append_srow (wr.alloc (.cells #[.int .u64 x] 51)) rfl (.tmp 11) (.tmp 17) 55 rfl encU_len encU_one (by decide) w.heap.size 51 i0 _ 8 Try.underlying55 hi0 hz0 hz1 hz2 rfl A2 k cc2 _ rfl (HO.out.alloc _) _ _ 1 1 [x] rfl (srow_one encU_len wr x 51) (by unfold maxLen; omega) (by omega) (by simp; omega) ?_); intro A5 c5 w5 hown5 hgrow5 hbel5 hcap5 hcm5))
      refine ⟨⟨k + 1, A5, c5, by omega, by go_num, rfl, by rw [HNX.out]; exact hown5, (hbw.alloc (by omega) _).trans hbel5⟩, by simp [intOf]; omega⟩
    · obtain rfl : k = l.length := by omega
      rw [List.take_length] at hown
      have HO := hide hown
      clear hown htk
      go_wp2
      go_ret
      exact ⟨A2, cc2, rfl, srow_of_own encU_len (by decide) HO.out, hbw⟩
end Go.Proofs.Ytkkapajpgfjomaa.Real
