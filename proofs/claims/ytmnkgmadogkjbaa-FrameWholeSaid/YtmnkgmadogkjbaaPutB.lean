/- What the reference of pack.Put writes: the same bytes. No condition but that the bytes are fewer than 2^40. -/
import Derived.Test.YtmnkgmadogkjbaaPutA
namespace Go.Proofs.Ytmnkgmadogkjbaa.Pack
open Go.ChangeShapes Go.WideShapes Go.ChangeAt Go.RowKit Go.Proofs.Ytmnkgmadogkjbaa.Kit Go.Proofs.Ytmnkgmadogkjbaa.Mem
set_option linter.unusedVariables false
theorem rput_not (A : Option Addr) (n c : Nat) (l : List Int) (v wd : Int) (B : Nat) (w : World) (hb : Bytes w B A n l) (hB : B ≤ w.heap.size) (hn : n ≤ 1099511627776) (hw : wd < 1 ∨ 8 < wd) :
    Calls Try.prog 17 #[.slice A n c, .int .u64 v, .int .i64 wd] w (PutPost w l) := by
  have own0 := own_empty w 5
  have hb0 := bytes_alloc hb hB (.cells #[] 5)
  by_cases h1 : wd < 1
  all_goals
    go_enter Try.func17, Try.ntmps17
    go_wp2_with (at_builtin; refine app_u8_0 rfl _ _ rfl w.heap.size _ _ rfl own0 B A n c l rfl hb0 (by omega) (by simp) ?_; intro A1 c1 w1 hown hgrow hbel hcap hcm)
    go_ret
    have hl := hb.1
    subst hl
    exact ⟨A1, c1, rfl, hown, ((Below.refl _ _).alloc (Nat.le_refl _) _).trans hbel, hcap, hcm⟩

theorem rput_yes (A : Option Addr) (n c : Nat) (l : List Int) (v : Int) (wd : Nat) (B : Nat) (w : World) (hb : Bytes w B A n l) (hB : B ≤ w.heap.size) (hn : n ≤ 1099511627776) (h1 : 1 ≤ wd) (h8 : wd ≤ 8) :
    Calls Try.prog 17 #[.slice A n c, .int .u64 v, .int .i64 wd] w (PutPost w (l ++ beL v wd)) := by
  have own0 := own_empty w 5
  have hb0 := bytes_alloc hb hB (.cells #[] 5)
  have hl := hb.1
  subst hl
  go_enter Try.func17, Try.ntmps17
  go_wp2_with (at_builtin; refine app_u8_0 rfl _ _ rfl w.heap.size _ _ rfl own0 B A _ c l rfl hb0 (by omega) (by simp) ?_; intro A1 c1 w1 hown hgrow hbel hcap hcm)
  have hbel0 : Below w.heap.size w w1 := ((Below.refl _ _).alloc (Nat.le_refl _) _).trans hbel
  clear hbel hgrow own0 hb0
  go_loopw [7, 8] (fun o i wr => ∃ (k : Nat) (A2 : Option Addr) (c2 : Nat), k ≤ wd ∧ i = .int .i64 ((wd : Int) - 1 - k) ∧ o = .slice A2 (l.length + k) c2 ∧ wr.ownsRow w.heap.size 5 1 (.slice A2 (l.length + k) c2) (l.length + k) (BV (l ++ (List.range k).map fun i => byteAt v (wd - 1 - i))) ∧ Below w.heap.size w wr ∧ l.length + k ≤ c2 ∧ c2 ≤ maxLen) (fun _ i _ => (intOf i + 1).toNat)
  case atStart => exact ⟨0, A1, c1, Nat.zero_le _, by simp, rfl, by simpa using hown, hbel0, hcap, hcm⟩
  case round =>
    obtain ⟨k, A2, c2, hk, rfl, rfl, ho, hbw, hc2, hm2⟩ := hrel
    clear hown hbel0 hcap hcm
    by_cases hlt : k < wd
    · have hs : w.heap.size ≤ wr.heap.size := hbw.size
      go_wp2_with (at_builtin; refine app_u8 rfl _ _ rfl w.heap.size A2 _ c2 _ rfl (ho.alloc _) _ _ 1 1 [v / 2 ^ (8 * (wd - 1 - k)) % 256] rfl (bytes_one wr _ 5) (by omega) (by simp only [World.size_alloc]; omega) ?_; intro A3 c3 w3 ho3 hgrow hbel hcap hcm)
      go_roundw
      case rel =>
        refine ⟨k + 1, A3, c3, by omega, by go_num, rfl, ?_, (hbw.alloc hs _).trans hbel, by omega, hcm⟩
        rw [beL_succ, ← List.append_assoc]
        exact ho3
      case measure => simp [intOf]; omega
    · obtain rfl : k = wd := by omega
      go_wp2
      go_ret
      refine ⟨A2, c2, ?_, ?_, hbw, ?_, hm2⟩
      · simp [beL]
      · have e : (l ++ beL v k).length = l.length + k := by simp [beL]
        rw [e]; exact ho
      · simpa [beL] using hc2

theorem rput_any (A : Option Addr) (n c : Nat) (l : List Int) (v wd : Int) (B : Nat) (w : World) (hb : Bytes w B A n l) (hB : B ≤ w.heap.size) (hn : n ≤ 1099511627776) :
    Calls Try.prog 17 #[.slice A n c, .int .u64 v, .int .i64 wd] w (PutPost w (putL l v wd)) := by
  by_cases h : wideB wd = true
  · have h2 : 1 ≤ wd ∧ wd ≤ 8 := by unfold wideB at h; exact of_decide_eq_true h
    obtain ⟨k, rfl⟩ := Int.eq_ofNat_of_zero_le (show 0 ≤ wd by omega)
    unfold putL
    rw [if_pos h]
    exact rput_yes A n c l v k B w hb hB hn (by omega) (by omega)
  · unfold putL
    rw [if_neg h]
    have h2 : ¬ (1 ≤ wd ∧ wd ≤ 8) := fun x => h (by unfold wideB; exact decide_eq_true x)
    exact rput_not A n c l v wd B w hb hB hn (by omega)
end Go.Proofs.Ytmnkgmadogkjbaa.Pack
