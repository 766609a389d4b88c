/- What the reference of the reader does: I, a number with a sign. No condition but sizes. -/
import Derived.Test.YtibfjbapicjicabRefB
namespace Go.Proofs.Ytibfjbapicjicab.Pack
open Go.ChangeShapes Go.WideShapes Go.ChangeAt Go.RowKit Go.Proofs.Ytibfjbapicjicab.Kit Go.Proofs.Ytibfjbapicjicab.Mem
set_option linter.unusedVariables false
/-! ### The plain law -/
/-- Bytes as a number with a sign. -/
def riL : List Int → Int
  | [] => 0
  | x :: r => if 127 < x then beN (x :: r) - 256 ^ (r.length + 1) else beN (x :: r)
theorem riL_cons (x : Int) (r : List Int) : riL (x :: r) = if 127 < x then beN (x :: r) - 256 ^ (r.length + 1) else beN (x :: r) := rfl
theorem riL_snoc (x : Int) (r : List Int) (y : Int) : riL (x :: r ++ [y]) = 256 * riL (x :: r) + y := by
  have e : beN (x :: (r ++ [y])) = beN (x :: r) * 256 + y := by rw [← List.cons_append, beN_snoc]
  have e2 : (256 : Int) ^ ((r ++ [y]).length + 1) = 256 ^ (r.length + 1) * 256 := by rw [List.length_append, List.length_singleton, Int.pow_succ]
  rw [List.cons_append, riL_cons, riL_cons]
  split
  · rw [e, e2]; omega
  · rw [e]; omega
theorem beN_cons (x : Int) (r : List Int) : beN (x :: r) = x * 256 ^ r.length + beN r := by
  have h : ∀ (r : List Int) (a : Int), r.foldl (fun n x => n * 256 + x) a = a * 256 ^ r.length + beN r := by
    intro r
    induction r with
    | nil => intro a; simp [beN]
    | cons y r ih =>
      intro a
      unfold beN
      rw [List.foldl_cons, List.foldl_cons, ih, ih, List.length_cons, Int.pow_succ]
      simp only [Int.zero_mul, Int.zero_add, Int.add_mul, Int.mul_assoc, Int.mul_comm (256 ^ r.length) 256]
      omega
  unfold beN
  rw [List.foldl_cons, Int.zero_mul, Int.zero_add, h]
  rfl
theorem pow_cases (P : Nat → Prop) (h0 : P 0) (h1 : P 1) (h2 : P 2) (h3 : P 3) (h4 : P 4) (h5 : P 5) (h6 : P 6) (h7 : P 7) (j : Nat) (h : j ≤ 7) : P j := by
  have : j = 0 ∨ j = 1 ∨ j = 2 ∨ j = 3 ∨ j = 4 ∨ j = 5 ∨ j = 6 ∨ j = 7 := by omega
  rcases this with rfl | rfl | rfl | rfl | rfl | rfl | rfl | rfl <;> assumption
/-- Of x and the others: between -128 and 127 times their power. -/
theorem riL_bound (x : Int) (r : List Int) (hx : 0 ≤ x ∧ x ≤ 255) (hr : ∀ y ∈ r, 0 ≤ y ∧ y ≤ 255) : -128 * 256 ^ r.length ≤ riL (x :: r) ∧ riL (x :: r) < 128 * 256 ^ r.length := by
  have hb := beN_bound r hr
  have e := beN_cons x r
  have ep : (256 : Int) ^ (r.length + 1) = 256 * 256 ^ r.length := by rw [Int.pow_succ, Int.mul_comm]
  have hp : (0 : Int) < 256 ^ r.length := Int.pow_pos (by decide)
  rw [riL_cons, e, ep]
  generalize (256 : Int) ^ r.length = M at *
  generalize beN r = b at *
  have c1 : x * M ≤ 127 * M ∨ 127 < x := by
    by_cases h : 127 < x
    · exact .inr h
    · exact .inl (Int.mul_le_mul_of_nonneg_right (by omega) (by omega))
  have c2 : 0 ≤ x * M := Int.mul_nonneg hx.1 (by omega)
  have c3 : x * M ≤ 255 * M := Int.mul_le_mul_of_nonneg_right hx.2 (by omega)
  split
  · rename_i h
    have c4 : 128 * M ≤ x * M := Int.mul_le_mul_of_nonneg_right (by omega) (by omega)
    omega
  · omega
theorem sgn_zero (k : Nat) : sgn 0 k = 0 := by unfold sgn; rw [Int.zero_mul, IntWalk.u64_in 0 (by omega), IntWalk.wrap64_in 0 (by omega), Int.zero_ediv]
theorem sgn_is (n : Int) (j : Nat) (hj : j ≤ 7) (hn : 0 ≤ n ∧ n < 256 ^ (j + 1)) : sgn n (j + 1) = if 128 * 256 ^ j ≤ n then n - 256 ^ (j + 1) else n := by
  revert hn
  refine pow_cases (fun j => (0 ≤ n ∧ n < 256 ^ (j + 1)) → sgn n (j + 1) = if 128 * 256 ^ j ≤ n then n - 256 ^ (j + 1) else n) ?_ ?_ ?_ ?_ ?_ ?_ ?_ ?_ j hj
  all_goals
    intro hn
    unfold sgn
    simp only [Nat.reduceAdd, Nat.reduceSub, Nat.reduceMul, Int.reducePow] at hn ⊢
    rw [IntWalk.u64_in _ (by omega)]
    unfold wrap64
    split <;> omega
theorem riL_sgn (L : List Int) (h0 : 0 < L.length) (h8 : L.length ≤ 8) (hr : ∀ x ∈ L, 0 ≤ x ∧ x ≤ 255) : riL L = sgn (beN L) L.length := by
  match L, h0 with
  | x :: r, _ =>
    have hb := beN_bound (x :: r) hr
    rw [List.length_cons] at hb h8 ⊢
    rw [sgn_is _ _ (by omega) hb]
    have hbr := beN_bound r fun y hy => hr y (by simp [hy])
    have e := beN_cons x r
    have hp : (0 : Int) < 256 ^ r.length := Int.pow_pos (by decide)
    have hx := hr x (by simp)
    rw [riL_cons]
    by_cases h : 127 < x
    · have c4 : 128 * 256 ^ r.length ≤ x * 256 ^ r.length := Int.mul_le_mul_of_nonneg_right (by omega) (by omega)
      rw [if_pos h, if_pos (by omega)]
    · have c4 : x * 256 ^ r.length ≤ 127 * 256 ^ r.length := Int.mul_le_mul_of_nonneg_right (by omega) (by omega)
      rw [if_neg h, if_neg (by omega)]
end Go.Proofs.Ytibfjbapicjicab.Pack
