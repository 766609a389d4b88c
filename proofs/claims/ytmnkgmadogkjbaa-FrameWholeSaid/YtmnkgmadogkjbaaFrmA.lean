/- What frame.Put and its reference write, how long bytes say that a payload is, whether a feed is right. No condition but sizes. -/
import Derived.Test.YtmnkgmadogkjbaaFrameL
import Derived.Test.YtmnkgmadogkjbaaPutB
import Derived.Test.YtmnkgmadogkjbaaRdrD
import Derived.Test.YtmnkgmadogkjbaaTag
namespace Go.Proofs.Ytmnkgmadogkjbaa.Frame
open Go.ChangeShapes Go.WideShapes Go.ChangeAt Go.RowKit Go.Proofs.Ytmnkgmadogkjbaa.Kit Go.Proofs.Ytmnkgmadogkjbaa.Mem Go.Proofs.Ytmnkgmadogkjbaa.Pack
set_option linter.unusedVariables false
/-- The frame of a payload, or that it is too long. -/
def FPutPost (w : World) (l : List Int) (e : Ending) (w' : World) : Prop :=
  ∃ A c, e = .returned (.tuple #[.slice A (if 512 < l.length then [] else frameF l).length c, .int .i64 (if 512 < l.length then 2 else 0)]) ∧ OB w' w.heap.size A (if 512 < l.length then [] else frameF l).length (if 512 < l.length then [] else frameF l) ∧ Below w.heap.size w w' ∧ (if 512 < l.length then [] else frameF l).length ≤ c ∧ c ≤ maxLen
theorem put_nil (n : Nat) (hn : n ≤ 512) (w : World) : Calls Try.prog 16 #[.slice none 0 0, .int .u64 n, .int .i64 2] w (PutPost w (beL n 2)) := by
  have := put_any none 0 0 [] n 2 0 w (bytes_nil _ _ _) (Nat.zero_le _) (by omega) (by omega)
  have e : putL [] n 2 = beL n 2 := by unfold putL; rw [if_pos (by decide)]; rfl
  rwa [e] at this
theorem rput_nil (n : Nat) (hn : n ≤ 512) (w : World) : Calls Try.prog 17 #[.slice none 0 0, .int .u64 n, .int .i64 2] w (PutPost w (beL n 2)) := by
  have := rput_any none 0 0 [] n 2 0 w (bytes_nil _ _ _) (Nat.zero_le _) (by omega)
  have e : putL [] n 2 = beL n 2 := by unfold putL; rw [if_pos (by decide)]; rfl
  rwa [e] at this
theorem fput_any {A : Option Addr} {n c : Nat} {l : List Int} {B : Nat} {w : World} (hb : Bytes w B A n l) (hB : B ≤ w.heap.size) (hn : n ≤ 1099511627776) : Calls Try.prog 8 #[.slice A n c] w (FPutPost w l) := by
  have hl := hb.1
  subst hl
  unfold FPutPost
  by_cases h : 512 < l.length
  · rw [if_pos h, if_pos h]
    go_enter Try.func8, Try.ntmps8
    go_wp2
    go_ret2
    exact ⟨none, 0, rfl, ob_nil _ _ _, Below.refl _ _, Nat.le_refl _, Nat.zero_le _⟩
  · rw [if_neg h, if_neg h]
    have hfl : (frameF l).length = 2 + l.length := by unfold frameF; rw [beL_two]; simp; omega
    have HF := hide hfl
    clear hfl
    go_enter Try.func8, Try.ntmps8
    (go_wp2_with (first | (go_at_call 16; refine (put_nil _ (by omega) _).mono ?_; rintro e w1 ⟨A1, c1, rfl, hown, hbel, hcap, hcm⟩; have hb1 := bytes_below hb hbel hB) | (at_builtin; refine app_u8 rfl _ _ rfl w.heap.size A1 2 c1 (beL l.length 2) rfl hown B A l.length c l rfl hb1 (by omega) (by have := hbel.size; omega) ?_; intro A2 c2 w2 hown2 hgrow2 hbel2 hcap2 hcm2)))
    go_ret2
    rw [HF.out]
    exact ⟨A2, c2, rfl, ob_of_own hown2, hbel.trans hbel2, hcap2, hcm2⟩
theorem rfput_any {A : Option Addr} {n c : Nat} {l : List Int} {B : Nat} {w : World} (hb : Bytes w B A n l) (hB : B ≤ w.heap.size) (hn : n ≤ 1099511627776) : Calls Try.prog 9 #[.slice A n c] w (FPutPost w l) := by
  have hl := hb.1
  subst hl
  unfold FPutPost
  by_cases h : 512 < l.length
  · rw [if_pos h, if_pos h]
    go_enter Try.func9, Try.ntmps9
    go_wp2
    go_ret2
    exact ⟨none, 0, rfl, ob_nil _ _ _, Below.refl _ _, Nat.le_refl _, Nat.zero_le _⟩
  · rw [if_neg h, if_neg h]
    have hfl : (frameF l).length = 2 + l.length := by unfold frameF; rw [beL_two]; simp; omega
    have HF := hide hfl
    clear hfl
    go_enter Try.func9, Try.ntmps9
    (go_wp2_with (first | (go_at_call 17; refine (rput_nil _ (by omega) _).mono ?_; rintro e w1 ⟨A1, c1, rfl, hown, hbel, hcap, hcm⟩; have hb1 := bytes_below hb hbel hB) | (at_builtin; refine app_u8 rfl _ _ rfl w.heap.size A1 2 c1 (beL l.length 2) rfl hown B A l.length c l rfl hb1 (by omega) (by have := hbel.size; omega) ?_; intro A2 c2 w2 hown2 hgrow2 hbel2 hcap2 hcm2)))
    go_ret2
    rw [HF.out]
    exact ⟨A2, c2, rfl, ob_of_own hown2, hbel.trans hbel2, hcap2, hcm2⟩

theorem below_up {w w1 w2 : World} {g : Nat} (hb : Below w.heap.size w w1) (hu : w1.grownBy w2 (some g)) (hg : w.heap.size ≤ g) : Below w.heap.size w w2 :=
  hb.grown hu hb.size (fun k hk => by injection hk with hk; omega)
/-- What bytes say of the first payload's length: it, and whether they do. -/
theorem says_few {A : Option Addr} {n c : Nat} {l : List Int} {B : Nat} {w : World} (hb : Bytes w B A n l) (hB : B ≤ w.heap.size) (hn : n < 2) (hc : n ≤ c) : Calls Try.prog 20 #[.slice A n c] w fun e w' => e = .returned (.tuple #[.int .i64 0, .bool false]) ∧ Below w.heap.size w w' := by
  have hl := hb.1
  subst hl
  have HN : Hid (¬ okT 0 0 2 l.length = true) := hide (by unfold okT; simp; omega)
  have W2 : Hid (wideB 2 = true) := hide (by decide)
  have he : (errT 0 0 2 l.length == 0) = false := by
    have : errT 0 0 2 l.length = 250 := by unfold errT failE; rw [if_neg (by omega), if_pos (by omega)]; rfl
    rw [this]; rfl
  go_enter Try.func20, Try.ntmps20
  go_wp2_with (first | (go_at_call 22; refine (from_any A _ c l B w hb hB (by omega)).mono ?_; rintro e w1 ⟨g, A1, c1, rfl, hg, hrb, hb1, hbel, hcap, hcm⟩) | (go_at_call 23; refine (u_bad g 0 0 2 A1 l.length c1 _ hrb W2.out (by omega) (by omega) (by omega) HN.out).mono ?_; rintro en w2 ⟨rfl, hrb2, hu⟩) | (go_at_call 24; refine (err_eq g 0 _ A1 l.length c1 _ hrb2).mono ?_; rintro en w3 ⟨rfl, rfl⟩))
  go_ret2
  exact ⟨rfl, below_up hbel hu hg⟩
theorem saysF_bd (l : List Int) (hr : ∀ x ∈ l, 0 ≤ x ∧ x ≤ 255) : 0 ≤ saysF l ∧ saysF l ≤ 65535 := by
  have h : ∀ j, 0 ≤ l.getD j 0 ∧ l.getD j 0 ≤ 255 := fun j => by
    rw [List.getD_eq_getElem?_getD]
    rcases hj : l[j]? with _ | x
    · simp
    · exact hr x (List.mem_of_getElem? hj)
  have h0 := h 0
  have h1 := h 1
  unfold saysF
  omega
theorem saysF_take (l : List Int) : saysF (l.take 2) = saysF l := by
  unfold saysF
  simp [List.getD_eq_getElem?_getD]
theorem u_two {g : Nat} {A : Option Addr} {l : List Int} {c : Nat} {w : World} (h : RB w g 0 0 A l.length c) (hb : Bytes w g A l.length l) (hr : ∀ x ∈ l, 0 ≤ x ∧ x ≤ 255) (h2 : 2 ≤ l.length) (hn : l.length ≤ 1099511627776) (hc : l.length ≤ c) (hcm : c ≤ maxLen) :
    Calls Try.prog 23 #[.pointer (some ⟨g, 0, none⟩), .int .i64 2] w fun en w' => en = .returned (.int .u64 (saysF l)) ∧ RB w' g 2 0 A l.length c ∧ w.grownBy w' (some g) := by
  have hok : okT 0 0 2 l.length = true := okT_true _ _ _ _ (by omega)
  have hw : wideB 2 = true := by decide
  have e1 : uVal l 0 0 2 = saysF l := by
    unfold uVal takeT
    rw [if_pos hw, if_pos hok]
    match l, h2 with
    | x :: y :: r, _ => simp [beN, saysF]
  have e2 : uAt 0 0 2 l.length = 2 := by unfold uAt atT; rw [if_pos hw, if_pos hok]; rfl
  have e3 : uErr 0 0 2 l.length = 0 := by unfold uErr errT; rw [if_pos hw, if_neg (by omega), if_neg (by omega)]
  have := u_any g 0 0 2 A l c w h hb hr (by omega) hn hc (by unfold maxLen at hcm; omega) (by omega)
  rwa [e1, e2, e3] at this
theorem says_any {A : Option Addr} {n c : Nat} {l : List Int} {B : Nat} {w : World} (hb : Bytes w B A n l) (hr : ∀ x ∈ l, 0 ≤ x ∧ x ≤ 255) (hB : B ≤ w.heap.size) (hn : 2 ≤ n) (hc : n ≤ c) (hm : n ≤ 1099511627776) : Calls Try.prog 20 #[.slice A n c] w fun e w' => e = .returned (.tuple #[.int .i64 (saysF l), .bool true]) ∧ Below w.heap.size w w' := by
  have hl := hb.1
  subst hl
  have hsb := saysF_bd l hr
  rcases Nat.eq_or_lt_of_le hn with h2 | h2
  · have HR := hide hr
    clear hr
    go_enter Try.func20, Try.ntmps20
    go_wp2_with (first | (go_at_call 22; refine (from_any A _ c l B w hb hB (by omega)).mono ?_; rintro e w1 ⟨g, A1, c1, rfl, hg, hrb, hb1, hbel, hcap, hcm⟩) | (go_at_call 23; refine (u_two hrb hb1 HR.out (by omega) (by omega) hcap hcm).mono ?_; rintro en w2 ⟨rfl, hrb2, hu⟩) | (go_at_call 24; refine (err_eq g 2 0 A1 l.length c1 _ hrb2).mono ?_; rintro en w3 ⟨rfl, rfl⟩))
    go_ret2
    exact ⟨rfl, below_up hbel hu hg⟩
  · have hb2 := bytes_take hb (k := 2) (by omega)
    have hr2 : ∀ x ∈ l.take 2, 0 ≤ x ∧ x ≤ 255 := fun x hx => hr x (List.mem_of_mem_take hx)
    have hl2 : (l.take 2).length = 2 := by simp; omega
    have HR := hide hr2
    have HL := hide hl2
    have e := saysF_take l
    rw [← e] at hsb ⊢
    clear e hr hr2 hl2
    generalize l.take 2 = L at *
    go_enter Try.func20, Try.ntmps20
    go_wp2_with (first | (go_at_call 22; refine (from_any A 2 c L B w hb2 hB (by omega)).mono ?_; rintro e w1 ⟨g, A1, c1, rfl, hg, hrb, hb1, hbel, hcap, hcm⟩) | (go_at_call 23; refine (u_two hrb hb1 HR.out (by have := HL.out; omega) (by have := HL.out; omega) hcap hcm).mono ?_; rintro en w2 ⟨rfl, hrb2, hu⟩) | (go_at_call 24; refine (err_eq g 2 0 A1 L.length c1 _ hrb2).mono ?_; rintro en w3 ⟨rfl, rfl⟩))
    go_ret2
    exact ⟨rfl, below_up hbel hu hg⟩
end Go.Proofs.Ytmnkgmadogkjbaa.Frame
