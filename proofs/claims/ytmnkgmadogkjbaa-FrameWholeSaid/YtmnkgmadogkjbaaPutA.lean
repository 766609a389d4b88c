/- What pack.Put and its reference write: the number's lowest bytes behind the given ones. No condition but that the bytes are fewer than 2^40. -/
import Derived.Test.YtmnkgmadogkjbaaBytes
import Derived.Handy
namespace Go.Proofs.Ytmnkgmadogkjbaa.Pack
open Go.ChangeShapes Go.WideShapes Go.ChangeAt Go.RowKit Go.Proofs.Ytmnkgmadogkjbaa.Kit Go.Proofs.Ytmnkgmadogkjbaa.Mem
set_option linter.unusedVariables false
def wideB (w : Int) : Bool := decide (1 ≤ w ∧ w ≤ 8)
theorem wide_any (n : Int) (w : World) : Calls Try.prog 21 #[.int .i64 n] w fun e w' => e = .returned (.bool (wideB n)) ∧ w = w' := by
  go_enter Try.func21, Try.ntmps21
  go_wp2
  all_goals
    go_ret
    exact ⟨ret_bool (by unfold wideB; first | exact (decide_eq_decide.2 (by omega)) | exact (decide_eq_true (by omega)).symm | exact (decide_eq_false (by omega)).symm), rfl⟩
/-- The byte of a number at a place. -/
def byteAt (n : Int) (k : Nat) : Int := n / 2 ^ (8 * k) % 256
/-- The bytes of a number, the highest of w ones first. -/
def beL (n : Int) (w : Nat) : List Int := (List.range w).map fun i => byteAt n (w - 1 - i)

def PutPost (w : World) (l : List Int) (e : Ending) (w' : World) : Prop :=
  ∃ A c, e = .returned (.slice A l.length c) ∧ w'.ownsRow w.heap.size 5 1 (.slice A l.length c) l.length (BV l) ∧ Below w.heap.size w w' ∧ l.length ≤ c ∧ c ≤ maxLen


theorem put_not (A : Option Addr) (n c : Nat) (l : List Int) (v wd : Int) (B : Nat) (w : World) (hb : Bytes w B A n l) (hB : B ≤ w.heap.size) (hn : n ≤ 1099511627776) (hw : wideB wd = false) :
    Calls Try.prog 16 #[.slice A n c, .int .u64 v, .int .i64 wd] w (PutPost w l) := by
  have own0 := own_empty w 5
  have hb0 := bytes_alloc hb hB (.cells #[] 5)
  go_enter Try.func16, Try.ntmps16
  go_wp2_with (first | (at_builtin; refine app_u8_0 rfl _ _ rfl w.heap.size _ _ rfl own0 B A n c l rfl hb0 (by omega) (by simp) ?_; intro A1 c1 w1 hown hgrow hbel hcap hcm) | (go_at_call 21; refine (wide_any _ _).mono ?_; rintro e w1 ⟨rfl, rfl⟩))
  go_ret
  have hl := hb.1
  subst hl
  exact ⟨A1, c1, rfl, hown, ((Below.refl _ _).alloc (Nat.le_refl _) _).trans hbel, hcap, hcm⟩

theorem beL_succ (n : Int) (w k : Nat) : (List.range (k + 1)).map (fun i => byteAt n (w - 1 - i)) = (List.range k).map (fun i => byteAt n (w - 1 - i)) ++ [byteAt n (w - 1 - k)] := by
  rw [List.range_succ, List.map_append]; rfl
theorem put_yes (A : Option Addr) (n c : Nat) (l : List Int) (v : Int) (wd : Nat) (B : Nat) (w : World) (hb : Bytes w B A n l) (hB : B ≤ w.heap.size) (hn : n ≤ 1099511627776) (hv : 0 ≤ v ∧ v ≤ 18446744073709551615) (h1 : 1 ≤ wd) (h8 : wd ≤ 8) :
    Calls Try.prog 16 #[.slice A n c, .int .u64 v, .int .i64 wd] w (PutPost w (l ++ beL v wd)) := by
  have hw : wideB (wd : Int) = true := by unfold wideB; exact decide_eq_true (by omega)
  have own0 := own_empty w 5
  have hb0 := bytes_alloc hb hB (.cells #[] 5)
  have hl := hb.1
  subst hl
  go_enter Try.func16, Try.ntmps16
  go_wp2_with (first | (at_builtin; refine app_u8_0 rfl _ _ rfl w.heap.size _ _ rfl own0 B A _ c l rfl hb0 (by omega) (by simp) ?_; intro A1 c1 w1 hown hgrow hbel hcap hcm) | (go_at_call 21; refine (wide_any _ _).mono ?_; rintro e w1 ⟨rfl, rfl⟩))
  have hbel0 : Below w.heap.size w w1 := ((Below.refl _ _).alloc (Nat.le_refl _) _).trans hbel
  clear hbel hgrow own0 hb0
  go_loopw [7, 17] (fun o i wr => ∃ (k : Nat) (A2 : Option Addr) (c2 : Nat), k ≤ wd ∧ i = .int .i64 k ∧ o = .slice A2 (l.length + k) c2 ∧ wr.ownsRow w.heap.size 5 1 (.slice A2 (l.length + k) c2) (l.length + k) (BV (l ++ (List.range k).map fun i => byteAt v (wd - 1 - i))) ∧ Below w.heap.size w wr ∧ l.length + k ≤ c2 ∧ c2 ≤ maxLen) (fun _ i _ => wd - (intOf i).toNat)
  case atStart => exact ⟨0, A1, c1, Nat.zero_le _, rfl, rfl, by simpa using hown, hbel0, hcap, hcm⟩
  case round =>
    obtain ⟨k, A2, c2, hk, rfl, rfl, ho, hbw, hc2, hm2⟩ := hrel
    clear hown hbel0 hcap hcm
    by_cases hlt : k < wd
    · have hs : w.heap.size ≤ wr.heap.size := hbw.size
      go_wp2_with (at_builtin; refine app_u8 rfl _ _ rfl w.heap.size A2 _ c2 _ rfl (ho.alloc _) _ _ 1 1 [v / 2 ^ (8 * (wd - 1 - k)) % 256] rfl (bytes_one wr _ 5) (by omega) (by simp only [World.size_alloc]; omega) ?_; intro A3 c3 w3 ho3 hgrow hbel hcap hcm)
      go_roundw
      case rel =>
        refine ⟨k + 1, A3, c3, by omega, by go_num, rfl, ?_, (hbw.alloc hs _).trans hbel, by omega, hcm⟩
        rw [beL_succ, ← List.append_assoc]
        exact ho3
      case measure => simp [intOf]; omega
    · obtain rfl : k = wd := by omega
      go_wp2
      go_ret
      refine ⟨A2, c2, ?_, ?_, hbw, ?_, hm2⟩
      · simp [beL]
      · have e : (l ++ beL v k).length = l.length + k := by simp [beL]
        rw [e]; exact ho
      · simpa [beL] using hc2

/-- What pack.Put writes behind bytes. -/
def putL (l : List Int) (v wd : Int) : List Int := if wideB wd = true then l ++ beL v wd.toNat else l
theorem put_any (A : Option Addr) (n c : Nat) (l : List Int) (v wd : Int) (B : Nat) (w : World) (hb : Bytes w B A n l) (hB : B ≤ w.heap.size) (hn : n ≤ 1099511627776) (hv : 0 ≤ v ∧ v ≤ 18446744073709551615) :
    Calls Try.prog 16 #[.slice A n c, .int .u64 v, .int .i64 wd] w (PutPost w (putL l v wd)) := by
  by_cases h : wideB wd = true
  · have h2 : 1 ≤ wd ∧ wd ≤ 8 := by unfold wideB at h; exact of_decide_eq_true h
    obtain ⟨k, rfl⟩ := Int.eq_ofNat_of_zero_le (show 0 ≤ wd by omega)
    unfold putL
    rw [if_pos h]
    exact put_yes A n c l v k B w hb hB hn hv (by omega) (by omega)
  · unfold putL
    rw [if_neg h]
    exact put_not A n c l v wd B w hb hB hn (by simpa using h)
end Go.Proofs.Ytmnkgmadogkjbaa.Pack
