/- A text read as the name of a place, by this layer: the walk. Condition: the text's size is an int. -/
import Derived.Test.YtfckciblnojniaaDoorWellD
import Derived.LoopTactic
import Derived.Deep.DeepCutAuto
import Derived.Deep.CutBlock
namespace Go.Proofs.YtfckciblnojniaaDoor.Well
open Go.ChangeShapes Go.WideShapes Go.ChangeAt Go.RowKit Go.Proofs.YtfckciblnojniaaDoor.Kit Go.Proofs.YtfckciblnojniaaDoor.Num Go.Deep Go.PlainAid
set_option linter.unusedVariables false
theorem iter_pos (w0 : World) (s : ByteArray) (pos : Nat) : (w0.alloc (.stringIter s pos)).iterPos w0.heap.size = pos := World.iterPos_iter w0 s pos
def retW (r : Int × Int × Int) : Value := .tuple #[.agg #[.int .i64 r.1, .int .i64 r.2.1], .int .i64 r.2.2]
theorem next_some (w0 : World) (s : ByteArray) (pos k : Nat) (ty : TypeId) (hk : k = w0.heap.size) (h : pos < s.size) :
    (Instr.next (.pointer (some ⟨k, 0, none⟩)) true ty).run Tryd.prog (w0.alloc (.stringIter s pos)) = .ok (.tuple #[.bool true, .int .i64 pos, .int .i32 (Utf8.decode s pos).1]) (w0.alloc (.stringIter s (pos + (Utf8.decode s pos).2))) := by
  subst hk
  exact run_next_any w0 s pos ty h
theorem next_none (w0 : World) (s : ByteArray) (pos k : Nat) (ty : TypeId) (hk : k = w0.heap.size) (h : ¬ pos < s.size) :
    (Instr.next (.pointer (some ⟨k, 0, none⟩)) true ty).run Tryd.prog (w0.alloc (.stringIter s pos)) = .ok (.tuple #[.bool false]) (w0.alloc (.stringIter s pos)) := by
  subst hk
  exact run_next_end w0 s pos ty h
def RelE (s : ByteArray) (w : World) (r d : Value) (wx : World) : Prop := ∃ (row : Int) (D : ByteArray), r = .int .i64 row ∧ d = .string D ∧ D.size ≤ 9223372036854775807 ∧ 0 ≤ row ∧ row ≤ 702 ∧ parseW s = stopW row D ∧ ∃ pos, wx = ((w.alloc (.cells #[.int .i64 0, .int .i64 0] 67))).alloc (.stringIter s pos)
set_option maxHeartbeats 2000000 in
theorem wparse_any (s : ByteArray) (w : World) (hsz : s.size ≤ 9223372036854775807) :
    Calls Tryd.prog 44 #[.string s] w fun e w' => e = .returned (retW (parseW s)) ∧ Below w.heap.size w w' := by
  have HN := hide (fun D (w : World) h => parse_any D w h)
  have HR := hide (fun r c (w : World) => right_any r c w)
  go_enter Tryd.func44, Tryd.ntmps44
  go_wp2
  go_step3
  go_wp2
  go_step3
  go_upto_block 0 with fail
  go_cut [4, 5] (fun t4 t5 wx => RelE s w t4 t5 wx)
  case first =>
    go_wp2
    go_loopw [4, 5] (fun r d wr => ∃ (pos f : Nat) (row : Int), f + pos = 2 ∧ pos ≤ s.size ∧ r = .int .i64 row ∧ d = .string ⟨#[]⟩ ∧ 0 ≤ row ∧ row ≤ 702 ∧ (f = 1 → row ≤ 26) ∧ (f = 2 → row = 0) ∧ loopW s f pos row = parseW s ∧ wr = ((w.alloc (.cells #[.int .i64 0, .int .i64 0] 67))).alloc (.stringIter s pos)) (fun _ _ wr => s.size - wr.iterPos (w.heap.size + 1))
    case atStart => exact ⟨0, 2, 0, rfl, Nat.zero_le _, rfl, rfl, by omega, by omega, by omega, by omega, rfl, rfl⟩
    case round =>
      obtain ⟨pos, f, row, hf, hpos, rfl, rfl, h0, h1, h2, h3, hW, rfl⟩ := hrel
      by_cases hp : pos < s.size
      · have hcs := rune_at s pos hp
        obtain ⟨c, hc⟩ : ∃ c : Nat, (Utf8.decode s pos).1 = c := ⟨_, rfl⟩
        obtain ⟨d, hd⟩ : ∃ d : Nat, (Utf8.decode s pos).2 = d := ⟨_, rfl⟩
        have hnx := fun ty => next_some ((w.alloc (.cells #[.int .i64 0, .int .i64 0] 67))) s pos (w.heap.size + 1) ty (by simp) hp
        rw [hc, hd] at hnx hcs
        by_cases hl : 65 ≤ c ∧ c ≤ 90 ∧ pos < 2
        · obtain ⟨hl1, hl2, hl3⟩ := hl
          obtain ⟨g, rfl⟩ : ∃ g, f = g + 1 := ⟨f - 1, by omega⟩
          have hbt : bt s pos = c := by omega
          have hd1 : d = 1 := by omega
          subst hd1
          have HW := hide (show loopW s g (pos + 1) (row * 26 + ((c : Int) - 65) + 1) = parseW s by
            rw [← hW]
            show _ = if _ then _ else _
            rw [if_pos ⟨hp, by omega, by omega⟩, hbt])
          have w1' : IntKind.i64.wrap (row * 26) = row * 26 := IntWalk.i64_in _ (by omega)
          have w2' : IntKind.i32.wrap ((c : Int) - 65) = c - 65 := by rw [IntKind.wrap_i32]; omega
          have w3' : IntKind.i64.wrap ((c : Int) - 65) = c - 65 := IntWalk.i64_in _ (by omega)
          have w4' : IntKind.i64.wrap (row * 26 + ((c : Int) - 65)) = row * 26 + (c - 65) := IntWalk.i64_in _ (by omega)
          have w5' : IntKind.i64.wrap (row * 26 + ((c : Int) - 65) + 1) = row * 26 + (c - 65) + 1 := IntWalk.i64_in _ (by omega)
          clear hW hbt hcs
          go_wp2
          refine ⟨⟨pos + 1, g, row * 26 + ((c : Int) - 65) + 1, by omega, by omega, rfl, rfl, by omega, by omega, by omega, by omega, HW.out, rfl⟩, ?_⟩
          have e1 := iter_pos ((w.alloc (.cells #[.int .i64 0, .int .i64 0] 67))) s (pos + 1)
          have e2 := iter_pos ((w.alloc (.cells #[.int .i64 0, .int .i64 0] 67))) s pos
          rw [World.size_alloc] at e1 e2
          rw [e1, e2]
          omega
        · by_cases hp0 : pos = 0
          · subst hp0
            have HW := hide (show parseW s = (0, 0, 60) by
              rw [← hW]
              match f, hf with
              | 2, _ => exact (if_neg (by rintro ⟨_, h5, h6⟩; exact hl ⟨by omega, by omega, by omega⟩)).trans (if_pos rfl))
            clear hW hcs
            have hl2 : c < 65 ∨ 90 < c := by omega
            clear hl
            rcases hl2 with hl2 | hl2
            · go_wp2
              ((try rw [Exit.noGoto_ret]); refine bodyPost_ret (v := .tuple #[.agg #[.int .i64 0, .int .i64 0], .int .i64 60]) ?_ rfl ⟨by rw [HW.out]; rfl, (by repeat' (first | (with_reducible exact Below.refl _ _) | (with_reducible refine below_drewN ?_ _) | (with_reducible refine Below.drew ?_) | (with_reducible refine Below.alloc ?_ ?_ _) | (with_reducible refine Below.setCell ?_ ?_ _) | (with_reducible refine below_step ?_ (by assumption) ?_) | (with_reducible refine below_step ?_ (below_regrown _ _ _) ?_) | go_size))⟩; simp only [results, Tryd.results44]; go_simp)
            · go_wp2
              ((try rw [Exit.noGoto_ret]); refine bodyPost_ret (v := .tuple #[.agg #[.int .i64 0, .int .i64 0], .int .i64 60]) ?_ rfl ⟨by rw [HW.out]; rfl, (by repeat' (first | (with_reducible exact Below.refl _ _) | (with_reducible refine below_drewN ?_ _) | (with_reducible refine Below.drew ?_) | (with_reducible refine Below.alloc ?_ ?_ _) | (with_reducible refine Below.setCell ?_ ?_ _) | (with_reducible refine below_step ?_ (by assumption) ?_) | (with_reducible refine below_step ?_ (below_regrown _ _ _) ?_) | go_size))⟩; simp only [results, Tryd.results44]; go_simp)
          obtain ⟨D, hD⟩ : ∃ D, s.extract pos s.size = D := ⟨_, rfl⟩
          have hDs : D.size ≤ 9223372036854775807 := by rw [← hD]; simp; omega
          have HW := hide (show parseW s = stopW row D by
            rw [← hW, ← hD]
            match f, hf with
            | 0, _ => rfl
            | g + 1, _ => exact (if_neg (by rintro ⟨_, h5, h6⟩; exact hl ⟨by omega, by omega, by omega⟩)).trans (if_neg hp0))
          have hl2 : c < 65 ∨ (65 ≤ c ∧ 90 < c) ∨ (65 ≤ c ∧ c ≤ 90 ∧ 2 ≤ pos) := by omega
          clear hl hW hcs
          rcases hl2 with hl2 | hl2 | hl2
          all_goals
            go_wp2
            go_meet
            exact ⟨row, D, rfl, rfl, hDs, h0, h1, HW.out, _, rfl⟩
      · have hnx := fun ty => next_none ((w.alloc (.cells #[.int .i64 0, .int .i64 0] 67))) s pos (w.heap.size + 1) ty (by simp) hp
        have HE : (s.extract pos s.size).size = 0 := by simp; omega
        have HW := hide (show parseW s = stopW row ⟨#[]⟩ by
          rw [← hW]
          have hst : ∀ D : ByteArray, D.size = 0 → stopW row D = (0, 0, 60) := by
            intro D hD
            unfold stopW
            rw [parseS_none hD]
            exact if_neg (by rintro ⟨h5, _⟩; cases h5)
          rw [hst ⟨#[]⟩ rfl]
          match f, hf with
          | 0, _ => exact hst _ HE
          | g + 1, _ =>
            refine (if_neg (by rintro ⟨h5, _⟩; exact hp h5)).trans ?_
            split
            · rfl
            · exact hst _ HE)
        clear hW HE HN HR
        go_wp2
        go_meet
        exact ⟨row, ⟨#[]⟩, rfl, rfl, Nat.zero_le _, h0, h1, HW.out, _, rfl⟩
  case rest =>
    obtain ⟨row, D, rfl, rfl, hDs, h0, h1, HW, pos, rfl⟩ := hcut
    have HW := hide HW
    have hv := parseS_cases D
    have HN2 := fun w => HN.out D w hDs
    unfold stopW at HW
    clear HN
    generalize parseS D = v at *
    obtain ⟨col, e⟩ := v
    have w1' : IntKind.i64.wrap (row - 1) = row - 1 := IntWalk.i64_in _ (by omega)
    dsimp only at HN2 hv
    by_cases he : e = 0
    · subst he
      by_cases hc1 : col < 1
      · have HW2 := hide (HW.out.trans (if_neg (by rintro ⟨_, h5, _⟩; simp only at h5; omega)))
        obtain ⟨q, hq⟩ : ∃ q, IntKind.i64.wrap (col - 1) = q := ⟨_, rfl⟩
        go_wp2_with (first | (go_at_call 43; refine (HN2 _).mono ?_; rintro e w1 ⟨rfl, rfl⟩) | ((with_reducible change Code.wp _ (Code.region _ _ _) _ _ _); refine wp_region_quiet_below (by kernel_rfl) (by kernel_rfl) ?_; (repeat (first | go_big_quiet_step ((first | (go_at_call 43; exact Calls.regrown_of (below_of_same (HN2 _))))) | quiet_step ((first | (go_at_call 43; exact Calls.regrown_of (below_of_same (HN2 _))))))); refine wpQuiet_nil ?_; intro w1 hw1; have hb := below_of_regrown hw1; clear hw1; obtain ⟨hS, hE, hz, hc, hf⟩ := bcell hb; (try simp only [go_sem] at hE); subst hE))
        ((try rw [Exit.noGoto_ret]); refine bodyPost_ret (v := .tuple #[.agg #[.int .i64 0, .int .i64 0], .int .i64 60]) ?_ rfl ⟨by rw [HW2.out]; rfl, (by repeat' (first | (with_reducible exact Below.refl _ _) | (with_reducible refine below_drewN ?_ _) | (with_reducible refine Below.drew ?_) | (with_reducible refine Below.alloc ?_ ?_ _) | (with_reducible refine Below.setCell ?_ ?_ _) | (with_reducible refine below_step ?_ (by assumption) ?_) | (with_reducible refine below_step ?_ (below_regrown _ _ _) ?_) | go_size))⟩; simp only [results, Tryd.results44]; go_simp)
      · by_cases hr : rightP (row - 1) (col - 1) = true
        · have hq : IntKind.i64.wrap (col - 1) = col - 1 := IntWalk.i64_in _ (by unfold In64 at hv; omega)
          have hr2 := hide (fun w => right_any (row - 1) (col - 1) w)
          rw [hr] at hr2
          have HW2 := hide (HW.out.trans (if_pos ⟨rfl, by simp only; omega, hr⟩))
          clear hr
          go_wp2_with (first | (go_at_call 43; refine (HN2 _).mono ?_; rintro e w1 ⟨rfl, rfl⟩) | (go_at_call 50; refine (hr2.out _).mono ?_; rintro e w1 ⟨rfl, hb⟩; obtain ⟨hS, hE, hz, hc, hf⟩ := bcell hb; (try simp only [go_sem] at hE); subst hE) | ((with_reducible change Code.wp _ (Code.region _ _ _) _ _ _); refine wp_region_quiet_below (by kernel_rfl) (by kernel_rfl) ?_; (repeat (first | go_big_quiet_step ((first | (go_at_call 43; exact Calls.regrown_of (below_of_same (HN2 _))) | (go_at_call 50; exact Calls.regrown_of (hr2.out _)))) | quiet_step ((first | (go_at_call 43; exact Calls.regrown_of (below_of_same (HN2 _))) | (go_at_call 50; exact Calls.regrown_of (hr2.out _)))))); refine wpQuiet_nil ?_; intro w1 hw1; have hb := below_of_regrown hw1; clear hw1; obtain ⟨hS, hE, hz, hc, hf⟩ := bcell hb; (try simp only [go_sem] at hE); subst hE))
          ((try rw [Exit.noGoto_ret]); refine bodyPost_ret (v := .tuple #[.agg #[.int .i64 (row - 1), .int .i64 (col - 1)], .int .i64 0]) ?_ rfl ⟨by rw [HW2.out]; rfl, (by repeat' (first | (with_reducible exact Below.refl _ _) | (with_reducible refine below_drewN ?_ _) | (with_reducible refine Below.drew ?_) | (with_reducible refine Below.alloc ?_ ?_ _) | (with_reducible refine Below.setCell ?_ ?_ _) | (with_reducible refine below_step ?_ (by assumption) ?_) | (with_reducible refine below_step ?_ (below_regrown _ _ _) ?_) | go_size))⟩; simp only [results, Tryd.results44]; go_simp)
        · rw [Bool.not_eq_true] at hr
          have hq : IntKind.i64.wrap (col - 1) = col - 1 := IntWalk.i64_in _ (by unfold In64 at hv; omega)
          have hr2 := hide (fun w => right_any (row - 1) (col - 1) w)
          rw [hr] at hr2
          have HW2 := hide (HW.out.trans (if_neg (by rintro ⟨_, _, h5⟩; rw [hr] at h5; cases h5)))
          clear hr
          go_wp2_with (first | (go_at_call 43; refine (HN2 _).mono ?_; rintro e w1 ⟨rfl, rfl⟩) | (go_at_call 50; refine (hr2.out _).mono ?_; rintro e w1 ⟨rfl, hb⟩; obtain ⟨hS, hE, hz, hc, hf⟩ := bcell hb; (try simp only [go_sem] at hE); subst hE) | ((with_reducible change Code.wp _ (Code.region _ _ _) _ _ _); refine wp_region_quiet_below (by kernel_rfl) (by kernel_rfl) ?_; (repeat (first | go_big_quiet_step ((first | (go_at_call 43; exact Calls.regrown_of (below_of_same (HN2 _))) | (go_at_call 50; exact Calls.regrown_of (hr2.out _)))) | quiet_step ((first | (go_at_call 43; exact Calls.regrown_of (below_of_same (HN2 _))) | (go_at_call 50; exact Calls.regrown_of (hr2.out _)))))); refine wpQuiet_nil ?_; intro w1 hw1; have hb := below_of_regrown hw1; clear hw1; obtain ⟨hS, hE, hz, hc, hf⟩ := bcell hb; (try simp only [go_sem] at hE); subst hE))
          ((try rw [Exit.noGoto_ret]); refine bodyPost_ret (v := .tuple #[.agg #[.int .i64 0, .int .i64 0], .int .i64 60]) ?_ rfl ⟨by rw [HW2.out]; rfl, (by repeat' (first | (with_reducible exact Below.refl _ _) | (with_reducible refine below_drewN ?_ _) | (with_reducible refine Below.drew ?_) | (with_reducible refine Below.alloc ?_ ?_ _) | (with_reducible refine Below.setCell ?_ ?_ _) | (with_reducible refine below_step ?_ (by assumption) ?_) | (with_reducible refine below_step ?_ (below_regrown _ _ _) ?_) | go_size))⟩; simp only [results, Tryd.results44]; go_simp)
    · have he2 : e = 30 := by rcases hv with ⟨h5, _⟩ | h5 <;> omega
      subst he2
      have HW2 := hide (HW.out.trans (if_neg (by rintro ⟨h5, _⟩; cases h5)))
      obtain ⟨q, hq⟩ : ∃ q, IntKind.i64.wrap (col - 1) = q := ⟨_, rfl⟩
      go_wp2_with (first | (go_at_call 43; refine (HN2 _).mono ?_; rintro e w1 ⟨rfl, rfl⟩) | ((with_reducible change Code.wp _ (Code.region _ _ _) _ _ _); refine wp_region_quiet_below (by kernel_rfl) (by kernel_rfl) ?_; (repeat (first | go_big_quiet_step ((first | (go_at_call 43; exact Calls.regrown_of (below_of_same (HN2 _))))) | quiet_step ((first | (go_at_call 43; exact Calls.regrown_of (below_of_same (HN2 _))))))); refine wpQuiet_nil ?_; intro w1 hw1; have hb := below_of_regrown hw1; clear hw1; obtain ⟨hS, hE, hz, hc, hf⟩ := bcell hb; (try simp only [go_sem] at hE); subst hE))
      ((try rw [Exit.noGoto_ret]); refine bodyPost_ret (v := .tuple #[.agg #[.int .i64 0, .int .i64 0], .int .i64 60]) ?_ rfl ⟨by rw [HW2.out]; rfl, (by repeat' (first | (with_reducible exact Below.refl _ _) | (with_reducible refine below_drewN ?_ _) | (with_reducible refine Below.drew ?_) | (with_reducible refine Below.alloc ?_ ?_ _) | (with_reducible refine Below.setCell ?_ ?_ _) | (with_reducible refine below_step ?_ (by assumption) ?_) | (with_reducible refine below_step ?_ (below_regrown _ _ _) ?_) | go_size))⟩; simp only [results, Tryd.results44]; go_simp)
end Go.Proofs.YtfckciblnojniaaDoor.Well
