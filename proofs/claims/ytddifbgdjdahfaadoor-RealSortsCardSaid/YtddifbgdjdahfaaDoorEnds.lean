/- The first, the last, and how many there are of any floats that are numbers, by the program. No condition. -/
import Derived.Test.YtddifbgdjdahfaaDoorSrtP
import Derived.Test.YtddifbgdjdahfaaDoorEnc
import Derived.LoopTactic
namespace Go.Proofs.YtddifbgdjdahfaaDoor.Real
open Go.ChangeShapes Go.WideShapes Go.ChangeAt Go.RowKit Go.Proofs.YtddifbgdjdahfaaDoor.Kit Go.Proofs.YtddifbgdjdahfaaDoor.Flt Go.Proofs.YtddifbgdjdahfaaDoor.Mem Go.Deep
set_option linter.unusedVariables false
set_option linter.unusedSimpArgs false
/-- One more float. -/
def endS (s : Nat × Nat × Nat) (x : Nat) : Nat × Nat × Nat :=
  if nanB x = true then s else (if s.2.2 = 0 ∨ rankV x < rankV s.1 then x else s.1, if s.2.2 = 0 ∨ rankV s.2.1 < rankV x then x else s.2.1, s.2.2 + 1)
def endsV (l : List Nat) : Nat × Nat × Nat := l.foldl endS (0, 0, 0)
theorem ends_take (l : List Nat) (k : Nat) (h : k < l.length) : endsV (l.take (k + 1)) = endS (endsV (l.take k)) (l.getD k 0) := by
  unfold endsV
  rw [List.take_add_one, List.foldl_append, List.getElem?_eq_getElem h, List.getD_eq_getElem?_getD, List.getElem?_eq_getElem h]
  rfl
def endsOk (k : Nat) (s : Nat × Nat × Nat) : Prop := s.1 < 18446744073709551616 ∧ s.2.1 < 18446744073709551616 ∧ s.2.2 ≤ k
theorem endS_ok {k : Nat} {s : Nat × Nat × Nat} {x : Nat} (h : endsOk k s) (hx : x < 18446744073709551616) : endsOk (k + 1) (endS s x) := by
  obtain ⟨h1, h2, h3⟩ := h
  unfold endS endsOk
  split
  · exact ⟨h1, h2, by omega⟩
  · refine ⟨?_, ?_, by dsimp only; omega⟩
    · dsimp only
      split
      · exact hx
      · exact h1
    · dsimp only
      split
      · exact hx
      · exact h2
set_option maxHeartbeats 2000000 in
theorem ends_any {w : World} {B n c : Nat} {A : Option Addr} {l : List Nat} (hr : SRow encF 1 w B A n l) (hB : B ≤ w.heap.size) (hn : n ≤ 100000) (hfit : ∀ z ∈ l, z < 18446744073709551616) :
    Calls Tryd.prog 24 #[.slice A n c] w fun e w' => e = .returned (.tuple #[.float .f64 (endsV l).1, .float .f64 (endsV l).2.1, .int .i64 ((endsV l).2.2 : Nat)]) ∧ Below w.heap.size w w' := by
  have e1 := hr.1
  subst e1
  have HR := hide hr
  have HF := hide hfit
  clear hr hfit
  go_enter Tryd.func24, Tryd.ntmps24
  go_wp2
  go_loopw [5, 6, 7, 12] (fun a b n i wr => ∃ (k x y m : Nat), k ≤ l.length ∧ a = .float .f64 x ∧ b = .float .f64 y ∧ n = .int .i64 m ∧ i = .int .i64 k ∧ Hid (endsV (l.take k) = (x, y, m)) ∧ endsOk k (x, y, m) ∧ Below w.heap.size w wr) (fun _ _ _ i _ => l.length - (intOf i).toNat)
  case atStart => exact ⟨0, 0, 0, 0, Nat.zero_le _, rfl, rfl, rfl, rfl, hide rfl, ⟨by decide, by decide, by decide⟩, Below.refl _ _⟩
  case round =>
    obtain ⟨k, x, y, m, hk, rfl, rfl, rfl, rfl, HS, hok, hbw⟩ := hrel
    have hz0' := hbw.size
    by_cases hlt : k < l.length
    · obtain ⟨b, off, rfl, hbB, hcell⟩ := frow_cells HR.out (by omega)
      have d0 := (hbw.cell (p := ⟨b, off + k, none⟩) (by dsimp only; omega)).trans (hcell k hlt)
      have HT := hide (ends_take l k hlt)
      have hf := HF.out (l.getD k 0) (by rw [List.getD_eq_getElem?_getD, List.getElem?_eq_getElem hlt]; exact List.getElem_mem hlt)
      clear hcell
      generalize l.getD k 0 = f at *
      have hok2 := hide (endS_ok hok hf)
      obtain ⟨k1, k2, k3⟩ := hok
      dsimp only at k1 k2 k3
      have HT2 := hide (HT.out.trans (congrArg (endS · f) HS.out))
      clear HT HS
      have f0 := feq_self f
      have c1 := fun w => ahead_any f x hf k1 w
      have c2 := fun w => ahead_any y f k2 hf w
      cases hnan : nanB f
      · rw [hnan] at f0
        by_cases hm : m = 0
        · have HE : Hid (endsV (l.take (k + 1)) = (f, f, m + 1)) := hide (HT2.out.trans (by unfold endS; rw [hnan]; simp [hm]))
          have hok3 : endsOk (k + 1) (f, f, m + 1) := ⟨hf, hf, by dsimp only; omega⟩
          clear HT2 hok2
          subst hm
          go_wp2_with (first | (go_at_call 19; (with_reducible refine (c1 _).mono ?_); rintro e w1 ⟨rfl, rfl⟩) | (go_at_call 19; (with_reducible refine (c2 _).mono ?_); rintro e w1 ⟨rfl, rfl⟩) | ((with_reducible change Code.wp _ (Code.region _ _ _) _ _ _); refine wp_region_quiet_below (by kernel_rfl) (by kernel_rfl) ?_; (repeat (first | go_big_quiet_step ((first | (go_at_call 19; (with_reducible refine Calls.regrown_of (below_of_same (c1 _)));) | (go_at_call 19; (with_reducible refine Calls.regrown_of (below_of_same (c2 _)));))) | quiet_step ((first | (go_at_call 19; (with_reducible refine Calls.regrown_of (below_of_same (c1 _)));) | (go_at_call 19; (with_reducible refine Calls.regrown_of (below_of_same (c2 _)));))))); refine wpQuiet_nil ?_; intro w1 hw1; have hb := below_of_regrown hw1; clear hw1; obtain ⟨hS, hE, hz, hc, hf⟩ := bcell hb; (try simp only [go_sem] at hE); subst hE))
          exact ⟨⟨k + 1, f, f, 1, by omega, rfl, rfl, rfl, by go_num, HE, hok3, hbw⟩, by simp [intOf]; omega⟩
        · have b1 : ((m : Int) == 0) = false := beq_eq_false_iff_ne.2 (by omega)
          by_cases h1 : rankV f < rankV x
          all_goals by_cases h2 : rankV y < rankV f
          all_goals
            have HE : Hid (endsV (l.take (k + 1)) = (if rankV f < rankV x then f else x, if rankV y < rankV f then f else y, m + 1)) := hide (HT2.out.trans (by unfold endS; rw [hnan]; simp [hm]))
            have hok3 := hok2.out
            rw [← HT2.out, HE.out] at hok3
            first | rw [if_pos h1] at HE hok3 | rw [if_neg h1] at HE hok3
            first | rw [if_pos h2] at HE hok3 | rw [if_neg h2] at HE hok3
            first | rw [decide_eq_true h1] at c1 | rw [decide_eq_false h1] at c1
            first | rw [decide_eq_true h2] at c2 | rw [decide_eq_false h2] at c2
            clear HT2 hok2 h1 h2
            go_wp2_with (first | (go_at_call 19; (with_reducible refine (c1 _).mono ?_); rintro e w1 ⟨rfl, rfl⟩) | (go_at_call 19; (with_reducible refine (c2 _).mono ?_); rintro e w1 ⟨rfl, rfl⟩) | ((with_reducible change Code.wp _ (Code.region _ _ _) _ _ _); refine wp_region_quiet_below (by kernel_rfl) (by kernel_rfl) ?_; (repeat (first | go_big_quiet_step ((first | (go_at_call 19; (with_reducible refine Calls.regrown_of (below_of_same (c1 _)));) | (go_at_call 19; (with_reducible refine Calls.regrown_of (below_of_same (c2 _)));))) | quiet_step ((first | (go_at_call 19; (with_reducible refine Calls.regrown_of (below_of_same (c1 _)));) | (go_at_call 19; (with_reducible refine Calls.regrown_of (below_of_same (c2 _)));))))); refine wpQuiet_nil ?_; intro w1 hw1; have hb := below_of_regrown hw1; clear hw1; obtain ⟨hS, hE, hz, hc, hf⟩ := bcell hb; (try simp only [go_sem] at hE); subst hE))
            exact ⟨⟨k + 1, _, _, m + 1, by omega, rfl, rfl, by go_num, by go_num, HE, hok3, hbw⟩, by simp [intOf]; omega⟩
      · rw [hnan] at f0
        have HE : Hid (endsV (l.take (k + 1)) = (x, y, m)) := hide (HT2.out.trans (by unfold endS; rw [hnan, if_pos rfl]))
        have hok3 : endsOk (k + 1) (x, y, m) := ⟨k1, k2, by dsimp only; omega⟩
        clear HT2 hok2
        go_wp2_with (first | (go_at_call 19; (with_reducible refine (c1 _).mono ?_); rintro e w1 ⟨rfl, rfl⟩) | (go_at_call 19; (with_reducible refine (c2 _).mono ?_); rintro e w1 ⟨rfl, rfl⟩) | ((with_reducible change Code.wp _ (Code.region _ _ _) _ _ _); refine wp_region_quiet_below (by kernel_rfl) (by kernel_rfl) ?_; (repeat (first | go_big_quiet_step ((first | (go_at_call 19; (with_reducible refine Calls.regrown_of (below_of_same (c1 _)));) | (go_at_call 19; (with_reducible refine Calls.regrown_of (below_of_same (c2 _)));))) | quiet_step ((first | (go_at_call 19; (with_reducible refine Calls.regrown_of (below_of_same (c1 _)));) | (go_at_call 19; (with_reducible refine Calls.regrown_of (below_of_same (c2 _)));))))); refine wpQuiet_nil ?_; intro w1 hw1; have hb := below_of_regrown hw1; clear hw1; obtain ⟨hS, hE, hz, hc, hf⟩ := bcell hb; (try simp only [go_sem] at hE); subst hE))
        exact ⟨⟨k + 1, x, y, m, by omega, rfl, rfl, rfl, by go_num, HE, hok3, hbw⟩, by simp [intOf]; omega⟩
    · obtain rfl : k = l.length := by omega
      rw [List.take_length] at HS
      go_wp2
      refine bodyPost_ret (v := .tuple #[.float .f64 x, .float .f64 y, .int .i64 m]) ?_ rfl ⟨by rw [HS.out], hbw⟩
      simp only [results, Tryd.results24]
      go_simp
end Go.Proofs.YtddifbgdjdahfaaDoor.Real
