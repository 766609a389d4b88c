/- A text read as the name of a place, by the reference. Condition: the text's size is an int. -/
import Derived.Test.YthdfmanocemfmaaDoorWellF
import Derived.LoopTactic
namespace Go.Proofs.YthdfmanocemfmaaDoor.Well
open Go.ChangeShapes Go.WideShapes Go.ChangeAt Go.RowKit Go.Proofs.YthdfmanocemfmaaDoor.Kit Go.Proofs.YthdfmanocemfmaaDoor.Num Go.Deep Go.PlainAid
set_option linter.unusedVariables false
theorem ne_list {s t : ByteArray} (h : ¬ t = s) : (t.toList == s.toList) = false := by
  rw [ByteArray.toList_eq, ByteArray.toList_eq]
  refine beq_eq_false_iff_ne.2 fun h2 => h ?_
  obtain ⟨⟨x⟩⟩ := t
  obtain ⟨⟨y⟩⟩ := s
  have h3 : x = y := h2
  rw [h3]
def retR (r : Int × Int × Int) : Value := .tuple #[.agg #[.int .i64 r.1, .int .i64 r.2.1], .int .i64 r.2.2]
theorem rparse_any (s : ByteArray) (w : World) (hsz : s.size ≤ 9223372036854775807) :
    Calls Tryd.prog 8 #[.string s] w fun e w' => e = .returned (retR (parseW s)) ∧ Below w.heap.size w w' := by
  by_cases h4 : 4 < s.size
  · have HW := hide (parse_long h4)
    go_enter Tryd.func8, Tryd.ntmps8
    go_wp2
    ((try rw [Exit.noGoto_ret]); refine bodyPost_ret (v := .tuple #[.agg #[.int .i64 0, .int .i64 0], .int .i64 60]) ?_ rfl ⟨by rw [HW.out]; rfl, (by repeat' (first | (with_reducible exact Below.refl _ _) | (with_reducible refine below_drewN ?_ _) | (with_reducible refine Below.drew ?_) | (with_reducible refine Below.alloc ?_ ?_ _) | (with_reducible refine Below.setCell ?_ ?_ _) | (with_reducible refine below_step ?_ (by assumption) ?_) | (with_reducible refine below_step ?_ (below_regrown _ _ _) ?_) | go_size))⟩; simp only [results, Tryd.results8]; go_simp)
  have HN := hide (fun r c (w : World) => rname_any r c w)
  go_enter Tryd.func8, Tryd.ntmps8
  go_wp2
  go_loopw [4] (fun r wr => ∃ R : Nat, R ≤ 32 ∧ r = .int .i64 R ∧ Hid (∀ a b : Nat, a < R → b ≤ 47 → nameS a b ≠ s) ∧ Below (w.heap.size + 1) (w.alloc (.cells #[.int .i64 0, .int .i64 0] 23)) wr) (fun r _ => 32 - (intOf r).toNat)
  case atStart => exact ⟨0, Nat.zero_le _, rfl, hide (fun a b h => absurd h (by omega)), Below.refl _ _⟩
  case round =>
    obtain ⟨R, hR, rfl, hno, hb0⟩ := hrel
    have hBw : Below w.heap.size w wr := ((Below.refl _ w).alloc (Nat.le_refl _) _).trans (hb0.mono (Nat.le_succ _))
    have hz0 := hb0.size
    simp only [World.size_alloc] at hz0
    have hc00 := fun i => hb0.cell (p := ⟨w.heap.size, i, none⟩) (by simp)
    have hf00 := fun i => hb0.frozen (p := ⟨w.heap.size, i, none⟩) (by simp)
    by_cases hR2 : R < 32
    · have gR : decide ((R : Int) < 32) = true := decide_eq_true (by omega)
      go_wp2
      go_loopw [5] (fun c wr => ∃ C : Nat, C ≤ 48 ∧ c = .int .i64 C ∧ Hid (∀ b : Nat, b < C → nameS R b ≠ s) ∧ Below (w.heap.size + 1) (w.alloc (.cells #[.int .i64 0, .int .i64 0] 23)) wr) (fun c _ => 48 - (intOf c).toNat)
      case atStart => exact ⟨0, Nat.zero_le _, rfl, hide (fun b h => absurd h (by omega)), hb0⟩
      case round =>
        clear hc00 hf00 hz0 hBw hb0
        obtain ⟨C, hC, rfl, hno2, hb0⟩ := hrel
        have hBw : Below w.heap.size w wr := ((Below.refl _ w).alloc (Nat.le_refl _) _).trans (hb0.mono (Nat.le_succ _))
        have hz0 := hb0.size
        simp only [World.size_alloc] at hz0
        have hc00 := fun i => hb0.cell (p := ⟨w.heap.size, i, none⟩) (by simp)
        have hf00 := fun i => hb0.frozen (p := ⟨w.heap.size, i, none⟩) (by simp)
        by_cases hC2 : C < 48
        · have HN2 := hide (fun (w : World) => HN.out R C w)
          by_cases hs : nameS R C = s
          · have HW := hide (parse_yes (by omega) (by omega) hs)
            rw [hs] at HN2
            go_wp2_with (first | (go_at_call 10; refine (HN2.out _).mono ?_; rintro e w1 ⟨rfl, hb⟩; obtain ⟨hS, hE, hz, hc, hf⟩ := bcell hb; (try simp only [go_sem] at hE); subst hE) | ((with_reducible change Code.wp _ (Code.region _ _ _) _ _ _); refine wp_region_quiet_below (by kernel_rfl) (by kernel_rfl) ?_; (repeat (first | go_big_quiet_step ((first | (go_at_call 10; exact Calls.regrown_of (HN2.out _)))) | quiet_step ((first | (go_at_call 10; exact Calls.regrown_of (HN2.out _)))))); refine wpQuiet_nil ?_; intro w1 hw1; have hb := below_of_regrown hw1; clear hw1; obtain ⟨hS, hE, hz, hc, hf⟩ := bcell hb; (try simp only [go_sem] at hE); subst hE))
            ((try rw [Exit.noGoto_ret]); refine bodyPost_ret (v := .tuple #[.agg #[.int .i64 R, .int .i64 C], .int .i64 0]) ?_ rfl ⟨by rw [HW.out]; rfl, (by repeat' (first | (with_reducible exact Below.refl _ _) | (with_reducible refine below_drewN ?_ _) | (with_reducible refine Below.drew ?_) | (with_reducible refine Below.alloc ?_ ?_ _) | (with_reducible refine Below.setCell ?_ ?_ _) | (with_reducible refine below_step ?_ (by assumption) ?_) | (with_reducible refine below_step ?_ (below_regrown _ _ _) ?_) | go_size))⟩; simp only [results, Tryd.results8]; go_simp)
          · have HS := hide (fun b hb => (Nat.lt_succ_iff_lt_or_eq.1 hb).elim (hno2.out b) (fun h => h ▸ hs) : ∀ b : Nat, b < C + 1 → nameS R b ≠ s)
            generalize nameS R C = t at *
            have gT := ne_list hs
            go_wp2_with (first | (go_at_call 10; refine (HN2.out _).mono ?_; rintro e w1 ⟨rfl, hb⟩; obtain ⟨hS, hE, hz, hc, hf⟩ := bcell hb; (try simp only [go_sem] at hE); subst hE) | ((with_reducible change Code.wp _ (Code.region _ _ _) _ _ _); refine wp_region_quiet_below (by kernel_rfl) (by kernel_rfl) ?_; (repeat (first | go_big_quiet_step ((first | (go_at_call 10; exact Calls.regrown_of (HN2.out _)))) | quiet_step ((first | (go_at_call 10; exact Calls.regrown_of (HN2.out _)))))); refine wpQuiet_nil ?_; intro w1 hw1; have hb := below_of_regrown hw1; clear hw1; obtain ⟨hS, hE, hz, hc, hf⟩ := bcell hb; (try simp only [go_sem] at hE); subst hE))
            exact ⟨⟨C + 1, by omega, by go_num, HS, hb0.trans (hb.mono (by omega))⟩, by simp [intOf]; omega⟩
        · obtain rfl : C = 48 := by omega
          go_wp2
          exact ⟨⟨R + 1, by omega, by go_num, hide (fun a b ha hb => (Nat.lt_succ_iff_lt_or_eq.1 ha).elim (fun h => hno.out a b h hb) (fun h => h ▸ hno2.out b (by omega))), hb0⟩, by simp [intOf]; omega⟩
    · have HW := hide (parse_no (s := s) fun a b ha hb => hno.out a b (by omega) hb)
      go_wp2
      ((try rw [Exit.noGoto_ret]); refine bodyPost_ret (v := .tuple #[.agg #[.int .i64 0, .int .i64 0], .int .i64 60]) ?_ rfl ⟨by rw [HW.out]; rfl, (by repeat' (first | (with_reducible exact Below.refl _ _) | (with_reducible refine below_drewN ?_ _) | (with_reducible refine Below.drew ?_) | (with_reducible refine Below.alloc ?_ ?_ _) | (with_reducible refine Below.setCell ?_ ?_ _) | (with_reducible refine below_step ?_ (by assumption) ?_) | (with_reducible refine below_step ?_ (below_regrown _ _ _) ?_) | go_size))⟩; simp only [results, Tryd.results8]; go_simp)
end Go.Proofs.YthdfmanocemfmaaDoor.Well
