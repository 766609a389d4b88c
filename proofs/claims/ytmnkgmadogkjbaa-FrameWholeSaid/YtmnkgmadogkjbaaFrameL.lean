/- The plain law of frames: bytes cut into payloads, and what is left; no Go in sight. No condition. -/
import Derived.Test.YtmnkgmadogkjbaaPutA
namespace Go.Proofs.Ytmnkgmadogkjbaa.Frame
open Go.Proofs.Ytmnkgmadogkjbaa.Pack
/-- How long the bytes say that the first payload is. -/
def saysF (b : List Int) : Int := b.getD 0 0 * 256 + b.getD 1 0
/-- What is told of bytes, what is left, and whether it is shut. -/
def cutF (b : List Int) : List (List Int) × List Int × Bool :=
  if b.length < 2 then ([], b, false)
  else if 512 < saysF b then ([], [], true)
  else if (b.length : Int) - 2 < saysF b then ([], b, false)
  else
    let n := (saysF b).toNat
    let r := cutF (b.drop (2 + n))
    ((b.drop 2).take n :: r.1, r.2.1, r.2.2)
termination_by b.length
decreasing_by simp only [List.length_drop]; omega
theorem cutF_few (b : List Int) (h : b.length < 2) : cutF b = ([], b, false) := by rw [cutF, if_pos h]
theorem cutF_shut (b : List Int) (h : ¬ b.length < 2) (h1 : 512 < saysF b) : cutF b = ([], [], true) := by rw [cutF, if_neg h, if_pos h1]
theorem cutF_wait (b : List Int) (h : ¬ b.length < 2) (h1 : ¬ 512 < saysF b) (h2 : (b.length : Int) - 2 < saysF b) : cutF b = ([], b, false) := by rw [cutF, if_neg h, if_neg h1, if_pos h2]
theorem cutF_one (b : List Int) (h : ¬ b.length < 2) (h1 : ¬ 512 < saysF b) (h2 : ¬ (b.length : Int) - 2 < saysF b) :
    cutF b = ((b.drop 2).take (saysF b).toNat :: (cutF (b.drop (2 + (saysF b).toNat))).1, (cutF (b.drop (2 + (saysF b).toNat))).2.1, (cutF (b.drop (2 + (saysF b).toNat))).2.2) := by rw [cutF, if_neg h, if_neg h1, if_neg h2]
/-- A feed is right where nothing can be cut off it. -/
def rightF (b : List Int) : Prop := b.length < 2 ∨ (¬ 512 < saysF b ∧ (b.length : Int) - 2 < saysF b)
theorem saysF_append (a b : List Int) (h : ¬ a.length < 2) : saysF (a ++ b) = saysF a := by
  unfold saysF
  simp only [List.getD_eq_getElem?_getD]
  rw [List.getElem?_append_left (by omega), List.getElem?_append_left (by omega)]
/-- What is left can't be cut. -/
theorem cutF_left (b : List Int) : (cutF b).2.2 = false → rightF (cutF b).2.1 := by
  induction b using cutF.induct with
  | case1 b h => intro _; rw [cutF_few b h]; exact .inl h
  | case2 b h h1 => intro hs; rw [cutF_shut b h h1] at hs; cases hs
  | case3 b h h1 h2 => intro _; rw [cutF_wait b h h1 h2]; exact .inr ⟨h1, h2⟩
  | case4 b h h1 h2 n ih => intro hs; rw [cutF_one b h h1 h2] at hs ⊢; exact ih hs
theorem cutF_shut_left (b : List Int) : (cutF b).2.2 = true → (cutF b).2.1 = [] := by
  induction b using cutF.induct with
  | case1 b h => intro hs; rw [cutF_few b h] at hs; cases hs
  | case2 b h h1 => intro _; rw [cutF_shut b h h1]
  | case3 b h h1 h2 => intro hs; rw [cutF_wait b h h1 h2] at hs; cases hs
  | case4 b h h1 h2 n ih => intro hs; rw [cutF_one b h h1 h2] at hs ⊢; exact ih hs
theorem cutF_len (b : List Int) : (cutF b).2.1.length ≤ b.length ∧ (cutF b).1.length ≤ b.length := by
  induction b using cutF.induct with
  | case1 b h => rw [cutF_few b h]; simp
  | case2 b h h1 => rw [cutF_shut b h h1]; simp
  | case3 b h h1 h2 => rw [cutF_wait b h h1 h2]; simp
  | case4 b h h1 h2 n ih =>
    rw [cutF_one b h h1 h2]
    have ih : (cutF (b.drop (2 + (saysF b).toNat))).2.1.length ≤ (b.drop (2 + (saysF b).toNat)).length ∧ (cutF (b.drop (2 + (saysF b).toNat))).1.length ≤ (b.drop (2 + (saysF b).toNat)).length := ih
    rw [List.length_drop] at ih
    simp only [List.length_cons]
    omega
theorem cutF_mem (b : List Int) : ∀ x ∈ (cutF b).2.1, x ∈ b := by
  induction b using cutF.induct with
  | case1 b h => rw [cutF_few b h]; exact fun x hx => hx
  | case2 b h h1 => rw [cutF_shut b h h1]; exact fun x hx => by cases hx
  | case3 b h h1 h2 => rw [cutF_wait b h h1 h2]; exact fun x hx => hx
  | case4 b h h1 h2 n ih =>
    rw [cutF_one b h h1 h2]
    exact fun x hx => List.mem_of_mem_drop (ih x hx)
/-- In pieces: what is left of the first, with the second behind it. -/
theorem cutF_pieces (a b : List Int) : cutF (a ++ b) = if (cutF a).2.2 = true then cutF a else ((cutF a).1 ++ (cutF ((cutF a).2.1 ++ b)).1, (cutF ((cutF a).2.1 ++ b)).2) := by
  induction a using cutF.induct with
  | case1 a h => rw [cutF_few a h]; simp
  | case2 a h h1 =>
    rw [cutF_shut a h h1, cutF_shut (a ++ b) (by rw [List.length_append]; omega) (by rw [saysF_append a b h]; exact h1)]
    simp
  | case3 a h h1 h2 => rw [cutF_wait a h h1 h2]; simp
  | case4 a h h1 h2 n ih =>
    have e := saysF_append a b h
    have hn : 0 ≤ saysF a ∨ saysF a < 0 := by omega
    rw [cutF_one a h h1 h2, cutF_one (a ++ b) (by rw [List.length_append]; omega) (by rw [e]; exact h1) (by rw [e, List.length_append]; omega), e]
    have hd : (a ++ b).drop (2 + (saysF a).toNat) = a.drop (2 + (saysF a).toNat) ++ b := List.drop_append_of_le_length (by omega)
    have ht : ((a ++ b).drop 2).take (saysF a).toNat = (a.drop 2).take (saysF a).toNat := by
      rw [List.drop_append_of_le_length (by omega), List.take_append_of_le_length (by rw [List.length_drop]; omega)]
    rw [hd, ht]
    have ih : cutF (a.drop (2 + (saysF a).toNat) ++ b) = if (cutF (a.drop (2 + (saysF a).toNat))).2.2 = true then cutF (a.drop (2 + (saysF a).toNat)) else ((cutF (a.drop (2 + (saysF a).toNat))).1 ++ (cutF ((cutF (a.drop (2 + (saysF a).toNat))).2.1 ++ b)).1, (cutF ((cutF (a.drop (2 + (saysF a).toNat))).2.1 ++ b)).2) := ih
    rw [ih]
    clear ih
    generalize cutF (a.drop (2 + (saysF a).toNat)) = r
    split
    · rfl
    · rfl
/-- The frame of a payload. -/
def frameF (p : List Int) : List Int := beL p.length 2 ++ p
theorem beL_two (n : Nat) : beL n 2 = [byteAt n 1, byteAt n 0] := rfl
theorem says_frame (p b : List Int) (h : p.length ≤ 512) : saysF (frameF p ++ b) = p.length := by
  unfold frameF saysF
  rw [beL_two]
  unfold byteAt
  simp
  omega
/-- Payloads, put one behind the other, are told as they are. -/
theorem cutF_back (ls : List (List Int)) (h : ∀ p ∈ ls, p.length ≤ 512) (b : List Int) : cutF ((ls.map frameF).flatten ++ b) = (ls ++ (cutF b).1, (cutF b).2) := by
  induction ls with
  | nil => simp
  | cons p ls ih =>
    have hp := h p (by simp)
    have e : ((p :: ls).map frameF).flatten ++ b = frameF p ++ ((ls.map frameF).flatten ++ b) := by simp
    have hs := says_frame p ((ls.map frameF).flatten ++ b) hp
    have hl : (frameF p).length = 2 + p.length := by unfold frameF; rw [beL_two]; simp; omega
    rw [e]
    generalize hB : (ls.map frameF).flatten ++ b = B at *
    rw [cutF_one _ (by rw [List.length_append, hl]; omega) (by rw [hs]; omega) (by rw [hs, List.length_append, hl]; omega), hs, Int.toNat_natCast]
    have h1 : (frameF p ++ B).drop (2 + p.length) = B := by rw [← hl]; exact List.drop_left
    have h2 : ((frameF p ++ B).drop 2).take p.length = p := by unfold frameF; rw [beL_two]; simp
    rw [h1, h2, ih fun q hq => h q (by simp [hq])]
    rfl
theorem take_split (b : List Int) (n : Nat) : b = b.take 2 ++ ((b.drop 2).take n ++ b.drop (2 + n)) := by
  rw [← List.drop_drop, List.take_append_drop, List.take_append_drop]
theorem head_is (b : List Int) (hr : ∀ x ∈ b, 0 ≤ x ∧ x ≤ 255) (h : ¬ b.length < 2) : beL (saysF b).toNat 2 = b.take 2 := by
  match b, h with
  | [], h => exact absurd h (by simp)
  | [_], h => exact absurd h (by simp)
  | x :: y :: r, _ =>
    have hx := hr x (by simp)
    have hy := hr y (by simp)
    rw [beL_two]
    unfold byteAt saysF
    simp
    omega
/-- What is told, put into frames again, and what is left, are the bytes; or it is shut at a length that is too great. -/
theorem cutF_whole (b : List Int) (hr : ∀ x ∈ b, 0 ≤ x ∧ x ≤ 255) : (∀ p ∈ (cutF b).1, p.length ≤ 512) ∧
    (((cutF b).2.2 = false ∧ ((cutF b).1.map frameF).flatten ++ (cutF b).2.1 = b) ∨
     ((cutF b).2.2 = true ∧ ∃ r, b = ((cutF b).1.map frameF).flatten ++ r ∧ 2 ≤ r.length ∧ 512 < saysF r)) := by
  induction b using cutF.induct with
  | case1 b h => rw [cutF_few b h]; exact ⟨(fun p hp => by cases hp), .inl ⟨rfl, rfl⟩⟩
  | case2 b h h1 => rw [cutF_shut b h h1]; exact ⟨(fun p hp => by cases hp), .inr ⟨rfl, b, by simp, by omega, h1⟩⟩
  | case3 b h h1 h2 => rw [cutF_wait b h h1 h2]; exact ⟨(fun p hp => by cases hp), .inl ⟨rfl, rfl⟩⟩
  | case4 b h h1 h2 n ih =>
    have hr2 : ∀ x ∈ b.drop (2 + (saysF b).toNat), 0 ≤ x ∧ x ≤ 255 := fun x hx => hr x (List.mem_of_mem_drop hx)
    obtain ⟨i1, i2⟩ := ih hr2
    have hpl : ((b.drop 2).take (saysF b).toNat).length = (saysF b).toNat := by rw [List.length_take, List.length_drop]; omega
    have hfr : frameF ((b.drop 2).take (saysF b).toNat) = b.take 2 ++ (b.drop 2).take (saysF b).toNat := by
      unfold frameF; rw [hpl, head_is b hr h]
    have hsp := take_split b (saysF b).toNat
    rw [cutF_one b h h1 h2]
    refine ⟨fun p hp => ?_, ?_⟩
    · rcases List.mem_cons.1 hp with rfl | hp
      · rw [hpl]; omega
      · exact i1 p hp
    · rcases i2 with ⟨j1, j2⟩ | ⟨j1, r, j2, j3, j4⟩
      · refine .inl ⟨j1, ?_⟩
        simp only [List.map_cons, List.flatten_cons, hfr, List.append_assoc]
        rw [j2]
        exact hsp.symm
      · refine .inr ⟨j1, r, ?_, j3, j4⟩
        simp only [List.map_cons, List.flatten_cons, hfr, List.append_assoc]
        rw [← j2]
        exact hsp
end Go.Proofs.Ytmnkgmadogkjbaa.Frame
