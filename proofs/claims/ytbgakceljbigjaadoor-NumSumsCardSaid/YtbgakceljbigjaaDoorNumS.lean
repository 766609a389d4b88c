/- The shares of a number, of this layer and of the reference. No condition. -/
import Derived.Test.YtbgakceljbigjaaDoorNumA
namespace Go.Proofs.YtbgakceljbigjaaDoor.Num
open Go.ChangeShapes Go.WideShapes Go.ChangeAt Go.RowKit Go.Proofs.YtbgakceljbigjaaDoor.Kit Go.Proofs.YtbgakceljbigjaaDoor.Wide Go.Deep
set_option linter.unusedVariables false
theorem upto_any (i n p : Int) (w : World) (a b : Addr) (hn : w.cell? a = some (.int .i64 n)) (hp : w.cell? b = some (.int .i64 p))
    (n0 : 0 ≤ n) (n1 : n ≤ 1099511627776) (p0 : 1 ≤ p) (p1 : p ≤ 65536) (i0 : 0 ≤ i) (i1 : i ≤ 65536) :
    Calls Tryd.prog 27 #[.int .i64 i, .pointer (some a), .pointer (some b)] w fun e w' => e = .returned (.int .i64 (i * n / p)) ∧ Below w.heap.size w w' := by
  have hp0 : p ≠ 0 := by omega
  obtain ⟨q, hq⟩ : ∃ q, Int.tdiv n p = q := ⟨_, rfl⟩
  obtain ⟨r, hr⟩ : ∃ r, Int.tmod n p = r := ⟨_, rfl⟩
  have eq : n / p = q := by rw [← hq, Int.tdiv_eq_ediv_of_nonneg n0]
  have er : n % p = r := by rw [← hr, Int.tmod_eq_emod_of_nonneg n0]
  have k0 : n = q * p + r := by rw [← eq, ← er, Int.mul_comm]; exact (Int.mul_ediv_add_emod n p).symm
  have q0 : 0 ≤ q := by rw [← eq]; exact Int.ediv_nonneg n0 (by omega)
  have q1 : q ≤ n := by rw [← eq]; exact Int.ediv_le_self p n0
  have r0 : 0 ≤ r := by rw [← er]; exact Int.emod_nonneg n hp0
  have r1 : r < p := by rw [← er]; exact Int.emod_lt_of_pos n (by omega)
  have m0 : 0 ≤ q * i := Int.mul_nonneg q0 i0
  have m1 : q * i ≤ 1099511627776 * 65536 := Int.mul_le_mul (by omega) i1 i0 (by omega)
  have m2 : 0 ≤ r * i := Int.mul_nonneg r0 i0
  have m3 : r * i ≤ 65536 * 65536 := Int.mul_le_mul (by omega) i1 i0 (by omega)
  have w1' : IntKind.i64.wrap (q * i) = q * i := IntWalk.i64_in _ (by omega)
  have w2' : IntKind.i64.wrap (r * i) = r * i := IntWalk.i64_in _ (by omega)
  obtain ⟨s, hs⟩ : ∃ s, Int.tdiv (r * i) p = s := ⟨_, rfl⟩
  have es : r * i / p = s := by rw [← hs, Int.tdiv_eq_ediv_of_nonneg m2]
  have s0 : 0 ≤ s := by rw [← es]; exact Int.ediv_nonneg m2 (by omega)
  have s1 : s ≤ r * i := by rw [← es]; exact Int.ediv_le_self p m2
  have w3' : IntKind.i64.wrap (q * i + s) = q * i + s := IntWalk.i64_in _ (by omega)
  have w4' : IntKind.i64.wrap q = q := IntWalk.i64_in _ (by omega)
  have w5' : IntKind.i64.wrap s = s := IntWalk.i64_in _ (by omega)
  have fin : Hid (q * i + s = i * n / p) := hide (by
    rw [← es, k0, Int.mul_add, show i * (q * p) = q * i * p by rw [← Int.mul_assoc, Int.mul_comm i q], Int.mul_comm i r, Int.add_comm (q * i * p), Int.add_mul_ediv_right _ _ hp0, Int.add_comm])
  clear eq er k0 es m1 m3 s1
  go_enter Tryd.func27, Tryd.ntmps27
  go_wp2
  go_region
  go_wp2
  go_ret
  exact ⟨ret_int fin.out, (by repeat' (first | (with_reducible exact Below.refl _ _) | (with_reducible refine below_drewN ?_ _) | (with_reducible refine Below.drew ?_) | (with_reducible refine Below.alloc ?_ ?_ _) | (with_reducible refine Below.setCell ?_ ?_ _) | (with_reducible refine below_step ?_ (by assumption) ?_) | go_size))⟩
def shareN (n p i : Int) : Int := if n < 0 ∨ 1099511627776 < n ∨ p < 1 ∨ 65536 < p ∨ i < 0 ∨ p ≤ i then 0 else (i + 1) * n / p - i * n / p
theorem part_bd {n p : Int} (n0 : 0 ≤ n) (n1 : n ≤ 1099511627776) (p0 : 1 ≤ p) {i : Int} (i0 : 0 ≤ i) (i1 : i ≤ p) : 0 ≤ i * n / p ∧ i * n / p ≤ 1099511627776 := by
  refine ⟨Int.ediv_nonneg (Int.mul_nonneg i0 n0) (by omega), ?_⟩
  have h1 : i * n ≤ p * n := Int.mul_le_mul_of_nonneg_right i1 n0
  have h2 : i * n / p ≤ p * n / p := Int.ediv_le_ediv (by omega) h1
  rw [Int.mul_ediv_cancel_left _ (by omega)] at h2
  omega
theorem share_any (n p i : Int) (w : World) : Calls Tryd.prog 8 #[.int .i64 n, .int .i64 p, .int .i64 i] w fun e w' => e = .returned (.int .i64 (shareN n p i)) ∧ Below w.heap.size w w' := by
  have hmf : ∀ (fn : Fn) (first cap : Array Value) (w : World), (Instr.makeFunc fn first cap).run Tryd.prog w = .ok (.func fn first cap) w := fun _ _ _ _ => rfl
  unfold shareN
  by_cases h1 : n < 0
  · rw [if_pos (by omega)]
    go_enter Tryd.func8, Tryd.ntmps8
    go_wp2
    go_ret
    exact ⟨rfl, (by repeat' (first | (with_reducible exact Below.refl _ _) | (with_reducible refine below_drewN ?_ _) | (with_reducible refine Below.drew ?_) | (with_reducible refine Below.alloc ?_ ?_ _) | (with_reducible refine Below.setCell ?_ ?_ _) | (with_reducible refine below_step ?_ (by assumption) ?_) | go_size))⟩
  by_cases h2 : 1099511627776 < n
  · rw [if_pos (by omega)]
    go_enter Tryd.func8, Tryd.ntmps8
    go_wp2
    go_ret
    exact ⟨rfl, (by repeat' (first | (with_reducible exact Below.refl _ _) | (with_reducible refine below_drewN ?_ _) | (with_reducible refine Below.drew ?_) | (with_reducible refine Below.alloc ?_ ?_ _) | (with_reducible refine Below.setCell ?_ ?_ _) | (with_reducible refine below_step ?_ (by assumption) ?_) | go_size))⟩
  by_cases h3 : p < 1
  · rw [if_pos (by omega)]
    go_enter Tryd.func8, Tryd.ntmps8
    go_wp2
    go_ret
    exact ⟨rfl, (by repeat' (first | (with_reducible exact Below.refl _ _) | (with_reducible refine below_drewN ?_ _) | (with_reducible refine Below.drew ?_) | (with_reducible refine Below.alloc ?_ ?_ _) | (with_reducible refine Below.setCell ?_ ?_ _) | (with_reducible refine below_step ?_ (by assumption) ?_) | go_size))⟩
  by_cases h4 : 65536 < p
  · rw [if_pos (by omega)]
    go_enter Tryd.func8, Tryd.ntmps8
    go_wp2
    go_ret
    exact ⟨rfl, (by repeat' (first | (with_reducible exact Below.refl _ _) | (with_reducible refine below_drewN ?_ _) | (with_reducible refine Below.drew ?_) | (with_reducible refine Below.alloc ?_ ?_ _) | (with_reducible refine Below.setCell ?_ ?_ _) | (with_reducible refine below_step ?_ (by assumption) ?_) | go_size))⟩
  by_cases h5 : i < 0
  · rw [if_pos (by omega)]
    go_enter Tryd.func8, Tryd.ntmps8
    go_wp2
    go_ret
    exact ⟨rfl, (by repeat' (first | (with_reducible exact Below.refl _ _) | (with_reducible refine below_drewN ?_ _) | (with_reducible refine Below.drew ?_) | (with_reducible refine Below.alloc ?_ ?_ _) | (with_reducible refine Below.setCell ?_ ?_ _) | (with_reducible refine below_step ?_ (by assumption) ?_) | go_size))⟩
  by_cases h6 : p ≤ i
  · rw [if_pos (by omega)]
    go_enter Tryd.func8, Tryd.ntmps8
    go_wp2
    go_ret
    exact ⟨rfl, (by repeat' (first | (with_reducible exact Below.refl _ _) | (with_reducible refine below_drewN ?_ _) | (with_reducible refine Below.drew ?_) | (with_reducible refine Below.alloc ?_ ?_ _) | (with_reducible refine Below.setCell ?_ ?_ _) | (with_reducible refine below_step ?_ (by assumption) ?_) | go_size))⟩
  rw [if_neg (by omega)]
  obtain ⟨a1, a2⟩ := part_bd (n := n) (p := p) (i := i) (by omega) (by omega) (by omega) (by omega) (by omega)
  obtain ⟨b1, b2⟩ := part_bd (n := n) (p := p) (i := i + 1) (by omega) (by omega) (by omega) (by omega) (by omega)
  have w1' : IntKind.i64.wrap (i + 1) = i + 1 := IntWalk.i64_in _ (by omega)
  have w2' : IntKind.i64.wrap ((i + 1) * n / p - i * n / p) = (i + 1) * n / p - i * n / p := IntWalk.i64_in _ (by omega)
  have U := fun i i0 i1 w a b ha hb => upto_any i n p w a b ha hb (by omega) (by omega) (by omega) (by omega) i0 i1
  go_enter Tryd.func8, Tryd.ntmps8
  go_wp2_with (first | (go_at_call 27; refine (U _ (by omega) (by omega) _ _ _ (by go_simp) (by go_simp)).mono ?_; rintro e w1 ⟨rfl, hb⟩; obtain ⟨hS, hE, hz, hc, hf⟩ := bcell hb; (try simp only [go_sem] at hE); subst hE) | (refine wp_region_quiet_below (by kernel_rfl) (by kernel_rfl) ?_; (repeat (first | go_big_quiet_step ((first | (go_at_call 27; exact Calls.regrown_of (U _ (by omega) (by omega) _ _ _ (by go_simp) (by go_simp))))) | quiet_step ((first | (go_at_call 27; exact Calls.regrown_of (U _ (by omega) (by omega) _ _ _ (by go_simp) (by go_simp))))))); refine wpQuiet_nil ?_; intro w1 hw1; have hb := below_of_regrown hw1; clear hw1; obtain ⟨hS, hE, hz, hc, hf⟩ := bcell hb; (try simp only [go_sem] at hE); subst hE))
  go_ret
  exact ⟨rfl, (by repeat' (first | (with_reducible exact Below.refl _ _) | (with_reducible refine below_drewN ?_ _) | (with_reducible refine Below.drew ?_) | (with_reducible refine Below.alloc ?_ ?_ _) | (with_reducible refine Below.setCell ?_ ?_ _) | (with_reducible refine below_step ?_ (by assumption) ?_) | go_size))⟩
theorem rshare_any (n p i : Int) (w : World) : Calls Tryd.prog 10 #[.int .i64 n, .int .i64 p, .int .i64 i] w fun e w' => e = .returned (.int .i64 (shareN n p i)) ∧ Below w.heap.size w w' := by
  unfold shareN
  by_cases h1 : n < 0
  · rw [if_pos (by omega)]
    go_enter Tryd.func10, Tryd.ntmps10
    go_wp2
    go_ret
    exact ⟨rfl, (by repeat' (first | (with_reducible exact Below.refl _ _) | (with_reducible refine below_drewN ?_ _) | (with_reducible refine Below.drew ?_) | (with_reducible refine Below.alloc ?_ ?_ _) | (with_reducible refine Below.setCell ?_ ?_ _) | (with_reducible refine below_step ?_ (by assumption) ?_) | go_size))⟩
  by_cases h2 : 1099511627776 < n
  · rw [if_pos (by omega)]
    go_enter Tryd.func10, Tryd.ntmps10
    go_wp2
    go_ret
    exact ⟨rfl, (by repeat' (first | (with_reducible exact Below.refl _ _) | (with_reducible refine below_drewN ?_ _) | (with_reducible refine Below.drew ?_) | (with_reducible refine Below.alloc ?_ ?_ _) | (with_reducible refine Below.setCell ?_ ?_ _) | (with_reducible refine below_step ?_ (by assumption) ?_) | go_size))⟩
  by_cases h3 : p < 1
  · rw [if_pos (by omega)]
    go_enter Tryd.func10, Tryd.ntmps10
    go_wp2
    go_ret
    exact ⟨rfl, (by repeat' (first | (with_reducible exact Below.refl _ _) | (with_reducible refine below_drewN ?_ _) | (with_reducible refine Below.drew ?_) | (with_reducible refine Below.alloc ?_ ?_ _) | (with_reducible refine Below.setCell ?_ ?_ _) | (with_reducible refine below_step ?_ (by assumption) ?_) | go_size))⟩
  by_cases h4 : 65536 < p
  · rw [if_pos (by omega)]
    go_enter Tryd.func10, Tryd.ntmps10
    go_wp2
    go_ret
    exact ⟨rfl, (by repeat' (first | (with_reducible exact Below.refl _ _) | (with_reducible refine below_drewN ?_ _) | (with_reducible refine Below.drew ?_) | (with_reducible refine Below.alloc ?_ ?_ _) | (with_reducible refine Below.setCell ?_ ?_ _) | (with_reducible refine below_step ?_ (by assumption) ?_) | go_size))⟩
  by_cases h5 : i < 0
  · rw [if_pos (by omega)]
    go_enter Tryd.func10, Tryd.ntmps10
    go_wp2
    go_ret
    exact ⟨rfl, (by repeat' (first | (with_reducible exact Below.refl _ _) | (with_reducible refine below_drewN ?_ _) | (with_reducible refine Below.drew ?_) | (with_reducible refine Below.alloc ?_ ?_ _) | (with_reducible refine Below.setCell ?_ ?_ _) | (with_reducible refine below_step ?_ (by assumption) ?_) | go_size))⟩
  by_cases h6 : p ≤ i
  · rw [if_pos (by omega)]
    go_enter Tryd.func10, Tryd.ntmps10
    go_wp2
    go_ret
    exact ⟨rfl, (by repeat' (first | (with_reducible exact Below.refl _ _) | (with_reducible refine below_drewN ?_ _) | (with_reducible refine Below.drew ?_) | (with_reducible refine Below.alloc ?_ ?_ _) | (with_reducible refine Below.setCell ?_ ?_ _) | (with_reducible refine below_step ?_ (by assumption) ?_) | go_size))⟩
  rw [if_neg (by omega)]
  obtain ⟨a1, a2⟩ := part_bd (n := n) (p := p) (i := i) (by omega) (by omega) (by omega) (by omega) (by omega)
  obtain ⟨b1, b2⟩ := part_bd (n := n) (p := p) (i := i + 1) (by omega) (by omega) (by omega) (by omega) (by omega)
  have hp0 : p ≠ 0 := by omega
  have m0 : 0 ≤ i * n := Int.mul_nonneg (by omega) (by omega)
  have m1 : i * n ≤ 65536 * 1099511627776 := Int.mul_le_mul (by omega) (by omega) (by omega) (by omega)
  have m2 : 0 ≤ (i + 1) * n := Int.mul_nonneg (by omega) (by omega)
  have m3 : (i + 1) * n ≤ 65536 * 1099511627776 := Int.mul_le_mul (by omega) (by omega) (by omega) (by omega)
  have w1' : IntKind.i64.wrap (i + 1) = i + 1 := IntWalk.i64_in _ (by omega)
  have w2' : IntKind.i64.wrap ((i + 1) * n / p - i * n / p) = (i + 1) * n / p - i * n / p := IntWalk.i64_in _ (by omega)
  have w3' : IntKind.i64.wrap (i * n) = i * n := IntWalk.i64_in _ (by omega)
  have w4' : IntKind.i64.wrap ((i + 1) * n) = (i + 1) * n := IntWalk.i64_in _ (by omega)
  have w5' : IntKind.i64.wrap (i * n / p) = i * n / p := IntWalk.i64_in _ (by omega)
  have w6' : IntKind.i64.wrap ((i + 1) * n / p) = (i + 1) * n / p := IntWalk.i64_in _ (by omega)
  have d1 : Int.tdiv (i * n) p = i * n / p := Int.tdiv_eq_ediv_of_nonneg m0
  have d2 : Int.tdiv ((i + 1) * n) p = (i + 1) * n / p := Int.tdiv_eq_ediv_of_nonneg m2
  go_enter Tryd.func10, Tryd.ntmps10
  go_wp2_with (first | (refine wp_region_quiet_below (by kernel_rfl) (by kernel_rfl) ?_; (repeat (first | go_big_quiet_step (fail) | quiet_step (fail))); refine wpQuiet_nil ?_; intro w1 hw1; have hb := below_of_regrown hw1; clear hw1; obtain ⟨hS, hE, hz, hc, hf⟩ := bcell hb; (try simp only [go_sem] at hE); subst hE))
  go_ret
  exact ⟨rfl, (by repeat' (first | (with_reducible exact Below.refl _ _) | (with_reducible refine below_drewN ?_ _) | (with_reducible refine Below.drew ?_) | (with_reducible refine Below.alloc ?_ ?_ _) | (with_reducible refine Below.setCell ?_ ?_ _) | (with_reducible refine below_step ?_ (by assumption) ?_) | go_size))⟩
end Go.Proofs.YtbgakceljbigjaaDoor.Num
