/- Numbers of 128 bits: of one word, their sum, and whether they are of one word. No condition. -/
import Derived.Test.YtbgakceljbigjaaDoorKit
import Derived.Laws.StructEq
import Derived.Laws.Externs
import Derived.Laws.BitsAllLaws
import Derived.WalkLawsBesides
import Derived.Outline
import Derived.Handy
import Derived.ChangeKeysEq
namespace Go.Proofs.YtbgakceljbigjaaDoor.Wide
open Go.ChangeShapes Go.WideShapes Go.ChangeAt Go.RowKit Go.Proofs.YtbgakceljbigjaaDoor.Kit Go.Deep
set_option linter.unusedVariables false
def hiW (s : Int) : Int := s / 18446744073709551616 % 18446744073709551616
def loW (s : Int) : Int := s % 18446744073709551616
theorem loW_bd (s : Int) : 0 ≤ loW s ∧ loW s ≤ 18446744073709551615 := by unfold loW; omega
theorem hiW_bd (s : Int) : 0 ≤ hiW s ∧ hiW s ≤ 18446744073709551615 := by unfold hiW; omega
theorem loW_add (s t : Int) : (loW s + loW t) % 18446744073709551616 = loW (s + t) := by unfold loW; omega
theorem hiW_add (s t : Int) : (hiW s + hiW t + (loW s + loW t) / 18446744073709551616) % 18446744073709551616 = hiW (s + t) := by unfold hiW loW; omega
/-- The number of one word that it is, or none. -/
def oneW (s : Int) : Int × Int := if -9223372036854775808 ≤ s ∧ s ≤ 9223372036854775807 then (s, 0) else (0, 4)
theorem of_any (n : Int) (w : World) (h1 : -9223372036854775808 ≤ n) (h2 : n ≤ 9223372036854775807) : Calls Tryd.prog 32 #[.int .i64 n] w fun e w' => e = .returned (.agg #[.int .u64 (hiW n), .int .u64 (loW n)]) ∧ Below w.heap.size w w' := by
  by_cases h0 : n < 0
  all_goals
    go_enter Tryd.func32, Tryd.ntmps32
    go_wp2
    refine bodyPost_ret (v := .agg #[.int .u64 (hiW n), .int .u64 (loW n)]) ?_ rfl ⟨rfl, (by repeat' (first | (with_reducible exact Below.refl _ _) | (with_reducible refine below_drewN ?_ _) | (with_reducible refine Below.drew ?_) | (with_reducible refine Below.alloc ?_ ?_ _) | (with_reducible refine Below.setCell ?_ ?_ _) | (with_reducible refine below_step ?_ (by assumption) ?_) | go_size))⟩
    simp only [results, Tryd.results32]
    go_simp
    (try simp only [IntKind.wrap_u64])
    unfold hiW loW
    omega
theorem info_u64 : (Tryd.prog.info? 37).map (fun i => (i.zero, i.size, i.bytes)) = some (some (.int .u64 0), 1, 8) := by kernel_rfl
theorem add64 (x y c : Int) (hx : 0 ≤ x) (hy : 0 ≤ y) (hc0 : 0 ≤ c) (hc : c ≤ 1) (w : World) : (callFunc 36 #[.int .u64 x, .int .u64 y, .int .u64 c]).run Tryd.prog w = .ok (.value (.tuple #[.int .u64 ((x + y + c) % 18446744073709551616), .int .u64 ((x + y + c) / 18446744073709551616)])) w := by
  rw [run_callFunc_extern (P := Tryd.prog) Tryd.func36 (by kernel_rfl) (by kernel_rfl) (by kernel_rfl) (e := add64Entry) (by kernel_rfl), run_add64 x y c hx hy hc0 hc]
  rfl
theorem plus_any (s t : Int) (w : World) : Calls Tryd.prog 31 #[.agg #[.int .u64 (hiW s), .int .u64 (loW s)], .agg #[.int .u64 (hiW t), .int .u64 (loW t)]] w fun e w' => e = .returned (.agg #[.int .u64 (hiW (s + t)), .int .u64 (loW (s + t))]) ∧ Below w.heap.size w w' := by
  obtain ⟨a1, a2⟩ := loW_bd s
  obtain ⟨a3, a4⟩ := hiW_bd s
  obtain ⟨b1, b2⟩ := loW_bd t
  obtain ⟨b3, b4⟩ := hiW_bd t
  have HL := hide (loW_add s t)
  have HH := hide (hiW_add s t)
  generalize loW s = l1 at *
  generalize hiW s = h1 at *
  generalize loW t = l2 at *
  generalize hiW t = h2 at *
  have k1 := add64 l1 l2 0 a1 b1 (by omega) (by omega)
  have k2 := add64 h1 h2 ((l1 + l2) / 18446744073709551616) a3 b3 (by omega) (by omega)
  rw [Int.add_zero] at k1
  have e1 := HL.out
  go_enter Tryd.func31, Tryd.ntmps31
  go_wp2
  refine bodyPost_ret (v := .agg #[.int .u64 (hiW (s + t)), .int .u64 (loW (s + t))]) ?_ rfl ⟨rfl, (by repeat' (first | (with_reducible exact Below.refl _ _) | (with_reducible refine below_drewN ?_ _) | (with_reducible refine Below.drew ?_) | (with_reducible refine Below.alloc ?_ ?_ _) | (with_reducible refine Below.setCell ?_ ?_ _) | (with_reducible refine below_step ?_ (by assumption) ?_) | go_size))⟩
  simp only [results, Tryd.results31]
  go_simp
  exact HH.out
theorem eq_wide (a b c d : Int) (w : World) : (Op.equalIn 10000 41 (.agg #[.int .u64 a, .int .u64 b]) (.agg #[.int .u64 c, .int .u64 d])).run Tryd.prog w = .ok (a == c && b == d) w := by
  obtain ⟨i0, hi0, hz0, hz1, hz2⟩ := info_parts info_u64
  rw [run_equalIn_array w 9999 _ _ Tryd.underlying41 hi0]
  have hc : (Tryd.prog).cellsOf 37 = 1 := by kernel_rfl
  rw [hc]
  by_cases h1 : a = c
  · by_cases h2 : b = d
    · subst h1 h2
      simp [Op.eqItems, List.range_succ, go_sem]
    · subst h1
      simp [Op.eqItems, List.range_succ, go_sem, h2]
  · simp [Op.eqItems, List.range_succ, go_sem, h1]
set_option maxHeartbeats 1000000 in
theorem number_any (s : Int) (w : World) (h1 : -170141183460469231731687303715884105728 ≤ s) (h2 : s ≤ 170141183460469231731687303715884105727) : Calls Tryd.prog 33 #[.agg #[.int .u64 (hiW s), .int .u64 (loW s)]] w fun e w' => e = .returned (.tuple #[.int .i64 (oneW s).1, .int .i64 (oneW s).2]) ∧ Below w.heap.size w w' := by
  obtain ⟨n, hn, hn1, hn2⟩ : ∃ n, n = IntKind.i64.wrap (loW s) ∧ -9223372036854775808 ≤ n ∧ n ≤ 9223372036854775807 := ⟨_, rfl, by rw [IntKind.wrap_i64]; omega⟩
  have en : IntKind.i64.wrap (loW s) = n := hn.symm
  have O1 := fun w => of_any n w hn1 hn2
  have key : (-9223372036854775808 ≤ s ∧ s ≤ 9223372036854775807 ∧ n = s ∧ (hiW s == hiW n && loW s == loW n) = true) ∨ (¬ (-9223372036854775808 ≤ s ∧ s ≤ 9223372036854775807) ∧ (hiW s == hiW n && loW s == loW n) = false) := by
    rw [IntKind.wrap_i64] at hn
    have e : hiW s = hiW n ∧ loW s = loW n ↔ s = n := by unfold hiW loW at *; omega
    have e2 : s = n ↔ (-9223372036854775808 ≤ s ∧ s ≤ 9223372036854775807) := by unfold loW at *; omega
    by_cases hr : -9223372036854775808 ≤ s ∧ s ≤ 9223372036854775807
    · exact .inl ⟨hr.1, hr.2, (e2.2 hr).symm, by simpa using e.2 (e2.2 hr)⟩
    · refine .inr ⟨hr, ?_⟩
      rw [Bool.eq_false_iff]
      intro h
      simp only [Bool.and_eq_true, beq_iff_eq] at h
      exact hr (e2.1 (e.1 h))
  have EQ := fun w => eq_wide (hiW s) (loW s) (hiW n) (loW n) w
  obtain ⟨a1, a2⟩ := loW_bd s
  clear hn h1 h2
  rcases key with ⟨k1, k2, rfl, k3⟩ | ⟨k1, k3⟩
  · have HO : Hid (oneW n = (n, 0)) := hide (if_pos ⟨k1, k2⟩)
    rw [k3] at EQ
    clear k3
    go_enter Tryd.func33, Tryd.ntmps33
    go_wp2_with (first | (go_at_call 32; refine (O1 _).mono ?_; rintro e w1 ⟨rfl, hb⟩; obtain ⟨hS, hE, hz, hc, hf⟩ := bcell hb; (try simp only [go_sem] at hE); subst hE) | (refine wp_region_quiet_below (by kernel_rfl) (by kernel_rfl) ?_; (repeat (first | go_big_quiet_step ((first | (go_at_call 32; exact Calls.regrown_of (O1 _)))) | quiet_step ((first | (go_at_call 32; exact Calls.regrown_of (O1 _)))))); refine wpQuiet_nil ?_; intro w1 hw1; have hb := below_of_regrown hw1; clear hw1; obtain ⟨hS, hE, hz, hc, hf⟩ := bcell hb; (try simp only [go_sem] at hE); subst hE))
    go_ret2
    exact ⟨by rw [HO.out]; rfl, (by repeat' (first | (with_reducible exact Below.refl _ _) | (with_reducible refine below_drewN ?_ _) | (with_reducible refine Below.drew ?_) | (with_reducible refine Below.alloc ?_ ?_ _) | (with_reducible refine Below.setCell ?_ ?_ _) | (with_reducible refine below_step ?_ (by assumption) ?_) | go_size))⟩
  · have HO : Hid (oneW s = (0, 4)) := hide (if_neg k1)
    rw [k3] at EQ
    clear k3 k1
    go_enter Tryd.func33, Tryd.ntmps33
    go_wp2_with (first | (go_at_call 32; refine (O1 _).mono ?_; rintro e w1 ⟨rfl, hb⟩; obtain ⟨hS, hE, hz, hc, hf⟩ := bcell hb; (try simp only [go_sem] at hE); subst hE) | (refine wp_region_quiet_below (by kernel_rfl) (by kernel_rfl) ?_; (repeat (first | go_big_quiet_step ((first | (go_at_call 32; exact Calls.regrown_of (O1 _)))) | quiet_step ((first | (go_at_call 32; exact Calls.regrown_of (O1 _)))))); refine wpQuiet_nil ?_; intro w1 hw1; have hb := below_of_regrown hw1; clear hw1; obtain ⟨hS, hE, hz, hc, hf⟩ := bcell hb; (try simp only [go_sem] at hE); subst hE))
    go_ret2
    exact ⟨by rw [HO.out]; rfl, (by repeat' (first | (with_reducible exact Below.refl _ _) | (with_reducible refine below_drewN ?_ _) | (with_reducible refine Below.drew ?_) | (with_reducible refine Below.alloc ?_ ?_ _) | (with_reducible refine Below.setCell ?_ ?_ _) | (with_reducible refine below_step ?_ (by assumption) ?_) | go_size))⟩
end Go.Proofs.YtbgakceljbigjaaDoor.Wide
