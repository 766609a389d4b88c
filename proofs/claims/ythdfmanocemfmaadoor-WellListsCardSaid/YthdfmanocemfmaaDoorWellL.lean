/- The places of a piece, by the reference. Condition: the text's size is bounded. -/
import Derived.Test.YthdfmanocemfmaaDoorWellK
namespace Go.Proofs.YthdfmanocemfmaaDoor.Well
open Go.ChangeShapes Go.WideShapes Go.ChangeAt Go.RowKit Go.Proofs.YthdfmanocemfmaaDoor.Kit Go.Proofs.YthdfmanocemfmaaDoor.Num Go.Proofs.YthdfmanocemfmaaDoor.Mem Go.Deep Go.PlainAid
set_option linter.unusedVariables false
set_option linter.unusedSimpArgs false
theorem order_any (a b : Int) (w : World) : Calls Tryd.prog 32 #[.int .i64 a, .int .i64 b] w fun e w' => e = .returned (.tuple #[.int .i64 (min a b), .int .i64 (max a b)]) ∧ Below w.heap.size w w' := by
  by_cases h : b < a
  · rw [show min a b = b by omega, show max a b = a by omega]
    go_enter Tryd.func32, Tryd.ntmps32
    go_wp2
    go_ret2
    exact ⟨rfl, Below.refl _ _⟩
  · rw [show min a b = a by omega, show max a b = b by omega]
    go_enter Tryd.func32, Tryd.ntmps32
    go_wp2
    go_ret2
    exact ⟨rfl, Below.refl _ _⟩
theorem rpiece_many (s : ByteArray) (ss : List (List UInt8)) (w : World) (hC : Calls Tryd.prog 23 #[.string s, .int .u8 58] w (CutPost w ss)) (h : 2 < ss.length) (h2 : ss.length ≤ 1073741825) :
    Calls Tryd.prog 24 #[.string s] w (PiecePost w ([], 60)) := by
  go_enter Tryd.func24, Tryd.ntmps24
  go_wp2_with (go_at_call 23; refine (hC).mono ?_; rintro e w1c ⟨A1, c1, rfl, k1, k2, k3, hbc⟩; obtain ⟨hSc, hEc, hzc, hcc, hfc⟩ := bcell hbc; (try simp only [go_sem] at hEc); subst hEc)
  go_ret2
  exact piece_no rfl (by repeat' (first | (with_reducible exact Below.refl _ _) | (with_reducible refine below_drewN ?_ _) | (with_reducible refine Below.drew ?_) | (with_reducible refine Below.alloc ?_ ?_ _) | (with_reducible refine Below.setCell ?_ ?_ _) | (with_reducible refine below_step ?_ (by assumption) ?_) | (with_reducible refine below_step ?_ (below_regrown _ _ _) ?_) | go_size))
set_option maxHeartbeats 4000000 in
theorem rpiece_walk (s F L : ByteArray) (ss : List (List UInt8)) (a b : Int × Int × Int) (w : World) (hC : Calls Tryd.prog 23 #[.string s, .int .u8 58] w (CutPost w ss))
    (pF : ∀ w, Calls Tryd.prog 8 #[.string F] w fun e w' => e = .returned (retR a) ∧ Below w.heap.size w w') (pL : ∀ w, Calls Tryd.prog 8 #[.string L] w fun e w' => e = .returned (retR b) ∧ Below w.heap.size w w')
    (hm : (ss = [F.data.toList, L.data.toList]) ∨ (ss = [F.data.toList] ∧ L = F ∧ b = a)) (hcF : a = (0, 0, 60) ∨ ∃ x y : Nat, x ≤ 31 ∧ y ≤ 47 ∧ a = ((x : Int), (y : Int), 0)) (hcL : b = (0, 0, 60) ∨ ∃ x y : Nat, x ≤ 31 ∧ y ≤ 47 ∧ b = ((x : Int), (y : Int), 0)) :
    Calls Tryd.prog 24 #[.string s] w (PiecePost w (twoV a b)) := by
  obtain ⟨i0, hi0, hz0, hz1, hz2⟩ := info_parts info_pl
  unfold retR at pF pL
  rcases hcF with rfl | ⟨a1, a2, ha1, ha2, rfl⟩
  · have hR := hide (show twoV (0, 0, 60) b = ([], 60) from if_neg (by rintro ⟨h5, _⟩; cases h5))
    rcases hm with rfl | ⟨rfl, rfl, rfl⟩
    · go_enter Tryd.func24, Tryd.ntmps24
      go_wp2_with ((go_at_call 23; refine (hC).mono ?_; rintro e w1c ⟨A1, c1, rfl, k1, k2, k3, hbc⟩; obtain ⟨hSc, hEc, hzc, hcc, hfc⟩ := bcell hbc; (try simp only [go_sem] at hEc); subst hEc); (obtain ⟨bb, off, rfl, hbb, hcl⟩ := trow_cells k3 (Nat.succ_pos _); have d0 : w1c.cell? ⟨bb, off, none⟩ = some (.string F) := hcl 0 (Nat.succ_pos _)); have d1 : w1c.cell? ⟨bb, off + 1, none⟩ = some (.string L) := hcl 1 (Nat.le_refl _); clear hcl)
      go_wp2_with (first | (go_at_call 8; (with_reducible refine (pF _).mono ?_); focus (skip); rintro e w1p ⟨rfl, hbp⟩; obtain ⟨hS, hE, hzp, hcp, hfp⟩ := bcell hbp; (try simp only [go_sem] at hE); subst hE) | (go_at_call 8; (with_reducible refine (pL _).mono ?_); focus (skip); rintro e w1q ⟨rfl, hbq⟩; obtain ⟨hS, hE, hzq, hcq, hfq⟩ := bcell hbq; (try simp only [go_sem] at hE); subst hE) | ((with_reducible change Code.wp _ (Code.region _ _ _) _ _ _); refine wp_region_quiet_below (by kernel_rfl) (by kernel_rfl) ?_; (repeat (first | go_big_quiet_step ((first | (go_at_call 8; (with_reducible refine Calls.regrown_of (pF _)); focus (skip)) | (go_at_call 8; (with_reducible refine Calls.regrown_of (pL _)); focus (skip)))) | quiet_step ((first | (go_at_call 8; (with_reducible refine Calls.regrown_of (pF _)); focus (skip)) | (go_at_call 8; (with_reducible refine Calls.regrown_of (pL _)); focus (skip)))))); refine wpQuiet_nil ?_; intro w1 hw1; have hb := below_of_regrown hw1; clear hw1; obtain ⟨hS, hE, hz, hc, hf⟩ := bcell hb; (try simp only [go_sem] at hE); subst hE))
      go_ret2
      exact piece_no hR.out (by repeat' (first | (with_reducible exact Below.refl _ _) | (with_reducible refine below_drewN ?_ _) | (with_reducible refine Below.drew ?_) | (with_reducible refine Below.alloc ?_ ?_ _) | (with_reducible refine Below.setCell ?_ ?_ _) | (with_reducible refine below_step ?_ (by assumption) ?_) | (with_reducible refine below_step ?_ (below_regrown _ _ _) ?_) | go_size))
    · go_enter Tryd.func24, Tryd.ntmps24
      go_wp2_with ((go_at_call 23; refine (hC).mono ?_; rintro e w1c ⟨A1, c1, rfl, k1, k2, k3, hbc⟩; obtain ⟨hSc, hEc, hzc, hcc, hfc⟩ := bcell hbc; (try simp only [go_sem] at hEc); subst hEc); (obtain ⟨bb, off, rfl, hbb, hcl⟩ := trow_cells k3 (Nat.succ_pos _); have d0 : w1c.cell? ⟨bb, off, none⟩ = some (.string L) := hcl 0 (Nat.succ_pos _)); clear hcl)
      go_wp2_with (first | (go_at_call 8; refine (pF _).mono ?_; rintro e w1q ⟨rfl, hbq⟩; obtain ⟨hS, hE, hzq, hcq, hfq⟩ := bcell hbq; (try simp only [go_sem] at hE); subst hE) | ((with_reducible change Code.wp _ (Code.region _ _ _) _ _ _); refine wp_region_quiet_below (by kernel_rfl) (by kernel_rfl) ?_; (repeat (first | go_big_quiet_step ((first | (go_at_call 8; exact Calls.regrown_of (pF _)))) | quiet_step ((first | (go_at_call 8; exact Calls.regrown_of (pF _)))))); refine wpQuiet_nil ?_; intro w1 hw1; have hb := below_of_regrown hw1; clear hw1; obtain ⟨hS, hE, hz, hc, hf⟩ := bcell hb; (try simp only [go_sem] at hE); subst hE))
      go_ret2
      exact piece_no hR.out (by repeat' (first | (with_reducible exact Below.refl _ _) | (with_reducible refine below_drewN ?_ _) | (with_reducible refine Below.drew ?_) | (with_reducible refine Below.alloc ?_ ?_ _) | (with_reducible refine Below.setCell ?_ ?_ _) | (with_reducible refine below_step ?_ (by assumption) ?_) | (with_reducible refine below_step ?_ (below_regrown _ _ _) ?_) | go_size))
  rcases hcL with rfl | ⟨b1, b2, hb1, hb2, rfl⟩
  · have hR := hide (show twoV ((a1 : Int), (a2 : Int), 0) (0, 0, 60) = ([], 60) from if_neg (by rintro ⟨_, h5⟩; cases h5))
    rcases hm with rfl | ⟨_, _, h5⟩
    · go_enter Tryd.func24, Tryd.ntmps24
      go_wp2_with ((go_at_call 23; refine (hC).mono ?_; rintro e w1c ⟨A1, c1, rfl, k1, k2, k3, hbc⟩; obtain ⟨hSc, hEc, hzc, hcc, hfc⟩ := bcell hbc; (try simp only [go_sem] at hEc); subst hEc); (obtain ⟨bb, off, rfl, hbb, hcl⟩ := trow_cells k3 (Nat.succ_pos _); have d0 : w1c.cell? ⟨bb, off, none⟩ = some (.string F) := hcl 0 (Nat.succ_pos _)); have d1 : w1c.cell? ⟨bb, off + 1, none⟩ = some (.string L) := hcl 1 (Nat.le_refl _); clear hcl)
      go_wp2_with (first | (go_at_call 8; (with_reducible refine (pF _).mono ?_); focus (skip); rintro e w1p ⟨rfl, hbp⟩; obtain ⟨hS, hE, hzp, hcp, hfp⟩ := bcell hbp; (try simp only [go_sem] at hE); subst hE) | (go_at_call 8; (with_reducible refine (pL _).mono ?_); focus (skip); rintro e w1q ⟨rfl, hbq⟩; obtain ⟨hS, hE, hzq, hcq, hfq⟩ := bcell hbq; (try simp only [go_sem] at hE); subst hE) | ((with_reducible change Code.wp _ (Code.region _ _ _) _ _ _); refine wp_region_quiet_below (by kernel_rfl) (by kernel_rfl) ?_; (repeat (first | go_big_quiet_step ((first | (go_at_call 8; (with_reducible refine Calls.regrown_of (pF _)); focus (skip)) | (go_at_call 8; (with_reducible refine Calls.regrown_of (pL _)); focus (skip)))) | quiet_step ((first | (go_at_call 8; (with_reducible refine Calls.regrown_of (pF _)); focus (skip)) | (go_at_call 8; (with_reducible refine Calls.regrown_of (pL _)); focus (skip)))))); refine wpQuiet_nil ?_; intro w1 hw1; have hb := below_of_regrown hw1; clear hw1; obtain ⟨hS, hE, hz, hc, hf⟩ := bcell hb; (try simp only [go_sem] at hE); subst hE))
      go_ret2
      exact piece_no hR.out (by repeat' (first | (with_reducible exact Below.refl _ _) | (with_reducible refine below_drewN ?_ _) | (with_reducible refine Below.drew ?_) | (with_reducible refine Below.alloc ?_ ?_ _) | (with_reducible refine Below.setCell ?_ ?_ _) | (with_reducible refine below_step ?_ (by assumption) ?_) | (with_reducible refine below_step ?_ (below_regrown _ _ _) ?_) | go_size))
    · cases h5
  · obtain ⟨rl, rh, cl, ch, m, n, hmr, hxr, hmc, hxc, g1, g2, g3, g4, g5, g6, hV⟩ : ∃ rl rh cl ch m n : Nat, min (a1 : Int) (b1 : Int) = (rl : Int) ∧ max (a1 : Int) (b1 : Int) = (rh : Int) ∧ min (a2 : Int) (b2 : Int) = (cl : Int) ∧ max (a2 : Int) (b2 : Int) = (ch : Int) ∧ rh + 1 = rl + m ∧ ch + 1 = cl + n ∧ m ≤ 32 ∧ n ≤ 48 ∧ rh ≤ 31 ∧ ch ≤ 47 ∧ Hid (twoV ((a1 : Int), (a2 : Int), 0) ((b1 : Int), (b2 : Int), 0) = (rectL rl m cl n, 0)) :=
      ⟨min a1 b1, max a1 b1, min a2 b2, max a2 b2, max a1 b1 - min a1 b1 + 1, max a2 b2 - min a2 b2 + 1, by omega, by omega, by omega, by omega, by omega, by omega, by omega, by omega, by omega, by omega, hide (if_pos ⟨rfl, rfl⟩)⟩
    dsimp only at pF pL
    have o1 := fun w => order_any a1 b1 w
    have o2 := fun w => order_any a2 b2 w
    rw [hmr, hxr] at o1
    rw [hmc, hxc] at o2
    rcases hm with rfl | ⟨rfl, rfl, h5⟩
    focus
      go_enter Tryd.func24, Tryd.ntmps24
      go_wp2_with ((go_at_call 23; refine (hC).mono ?_; rintro e w1c ⟨A1, c1, rfl, k1, k2, k3, hbc⟩; obtain ⟨hSc, hEc, hzc, hcc, hfc⟩ := bcell hbc; (try simp only [go_sem] at hEc); subst hEc); (obtain ⟨bb, off, rfl, hbb, hcl⟩ := trow_cells k3 (Nat.succ_pos _); have d0 : w1c.cell? ⟨bb, off, none⟩ = some (.string F) := hcl 0 (Nat.succ_pos _)); have d1 : w1c.cell? ⟨bb, off + 1, none⟩ = some (.string L) := hcl 1 (Nat.le_refl _); clear hcl)
      go_wp2_with (first | (go_at_call 8; (with_reducible refine (pF _).mono ?_); focus (skip); rintro e w1p ⟨rfl, hbp⟩; obtain ⟨hS, hE, hzp, hcp, hfp⟩ := bcell hbp; (try simp only [go_sem] at hE); subst hE) | (go_at_call 8; (with_reducible refine (pL _).mono ?_); focus (skip); rintro e w1q ⟨rfl, hbq⟩; obtain ⟨hS, hE, hzq, hcq, hfq⟩ := bcell hbq; (try simp only [go_sem] at hE); subst hE) | (go_at_call 32; (with_reducible refine (o1 _).mono ?_); focus (skip); rintro e w1o ⟨rfl, hbo⟩; obtain ⟨hS, hE, hzo, hco, hfo⟩ := bcell hbo; (try simp only [go_sem] at hE); subst hE) | (go_at_call 32; (with_reducible refine (o2 _).mono ?_); focus (skip); rintro e w1o ⟨rfl, hbo⟩; obtain ⟨hS, hE, hzo, hco, hfo⟩ := bcell hbo; (try simp only [go_sem] at hE); subst hE) | ((with_reducible change Code.wp _ (Code.region _ _ _) _ _ _); refine wp_region_quiet_below (by kernel_rfl) (by kernel_rfl) ?_; (repeat (first | go_big_quiet_step ((first | (go_at_call 8; (with_reducible refine Calls.regrown_of (pF _)); focus (skip)) | (go_at_call 8; (with_reducible refine Calls.regrown_of (pL _)); focus (skip)) | (go_at_call 32; (with_reducible refine Calls.regrown_of (o1 _)); focus (skip)) | (go_at_call 32; (with_reducible refine Calls.regrown_of (o2 _)); focus (skip)))) | quiet_step ((first | (go_at_call 8; (with_reducible refine Calls.regrown_of (pF _)); focus (skip)) | (go_at_call 8; (with_reducible refine Calls.regrown_of (pL _)); focus (skip)) | (go_at_call 32; (with_reducible refine Calls.regrown_of (o1 _)); focus (skip)) | (go_at_call 32; (with_reducible refine Calls.regrown_of (o2 _)); focus (skip)))))); refine wpQuiet_nil ?_; intro w1 hw1; have hb := below_of_regrown hw1; clear hw1; obtain ⟨hS, hE, hz, hc, hf⟩ := bcell hb; (try simp only [go_sem] at hE); subst hE))
    rotate_left
    focus
      obtain rfl : b1 = a1 := by have := congrArg (fun z => z.1) h5; dsimp only at this; omega
      obtain rfl : b2 = a2 := by have := congrArg (fun z => z.2.1) h5; dsimp only at this; omega
      clear h5 pL
      go_enter Tryd.func24, Tryd.ntmps24
      go_wp2_with ((go_at_call 23; refine (hC).mono ?_; rintro e w1c ⟨A1, c1, rfl, k1, k2, k3, hbc⟩; obtain ⟨hSc, hEc, hzc, hcc, hfc⟩ := bcell hbc; (try simp only [go_sem] at hEc); subst hEc); (obtain ⟨bb, off, rfl, hbb, hcl⟩ := trow_cells k3 (Nat.succ_pos _); have d0 : w1c.cell? ⟨bb, off, none⟩ = some (.string L) := hcl 0 (Nat.succ_pos _)); clear hcl)
      go_wp2_with (first | (go_at_call 8; refine (pF _).mono ?_; rintro e w1q ⟨rfl, hbq⟩; obtain ⟨hS, hE, hzq, hcq, hfq⟩ := bcell hbq; (try simp only [go_sem] at hE); subst hE) | (go_at_call 32; (with_reducible refine (o1 _).mono ?_); focus (skip); rintro e w1o ⟨rfl, hbo⟩; obtain ⟨hS, hE, hzo, hco, hfo⟩ := bcell hbo; (try simp only [go_sem] at hE); subst hE) | (go_at_call 32; (with_reducible refine (o2 _).mono ?_); focus (skip); rintro e w1o ⟨rfl, hbo⟩; obtain ⟨hS, hE, hzo, hco, hfo⟩ := bcell hbo; (try simp only [go_sem] at hE); subst hE) | ((with_reducible change Code.wp _ (Code.region _ _ _) _ _ _); refine wp_region_quiet_below (by kernel_rfl) (by kernel_rfl) ?_; (repeat (first | go_big_quiet_step ((first | (go_at_call 8; exact Calls.regrown_of (pF _)) | (go_at_call 32; (with_reducible refine Calls.regrown_of (o1 _)); focus (skip)) | (go_at_call 32; (with_reducible refine Calls.regrown_of (o2 _)); focus (skip)))) | quiet_step ((first | (go_at_call 8; exact Calls.regrown_of (pF _)) | (go_at_call 32; (with_reducible refine Calls.regrown_of (o1 _)); focus (skip)) | (go_at_call 32; (with_reducible refine Calls.regrown_of (o2 _)); focus (skip)))))); refine wpQuiet_nil ?_; intro w1 hw1; have hb := below_of_regrown hw1; clear hw1; obtain ⟨hS, hE, hz, hc, hf⟩ := bcell hb; (try simp only [go_sem] at hE); subst hE))
    rotate_left
    all_goals
      have HBW : Hid (Below w.heap.size w w1o) := hide (by repeat' (first | (with_reducible exact Below.refl _ _) | (with_reducible refine below_drewN ?_ _) | (with_reducible refine Below.drew ?_) | (with_reducible refine Below.alloc ?_ ?_ _) | (with_reducible refine Below.setCell ?_ ?_ _) | (with_reducible refine below_step ?_ (by assumption) ?_) | (with_reducible refine below_step ?_ (below_regrown _ _ _) ?_) | go_size))
      obtain ⟨wo, rfl⟩ : ∃ wo : World, wo = w1o := ⟨_, rfl⟩
      have hw0 : w.heap.size ≤ wo.heap.size := by omega
      clear hco hfo hbo
      go_loopw [13, 14] (fun o r wr => ∃ (i : Nat) (ps : List Pl) (A2 : Option Addr) (cc2 : Nat), i ≤ m ∧ r = .int .i64 ((rl : Int) + i) ∧ o = .slice A2 ps.length cc2 ∧ ps = rectL rl i cl n ∧ ps.length ≤ cc2 ∧ cc2 ≤ maxLen ∧ wr.ownsRow wo.heap.size 23 2 (.slice A2 ps.length cc2) ps.length (SV encP ps) ∧ Below wo.heap.size wo wr) (fun _ r _ => 100 - (intOf r).toNat)
      case atStart => exact ⟨0, [], none, 0, Nat.zero_le _, by simp, rfl, rfl, Nat.le_refl _, Nat.zero_le _, World.ownsRow_nil _ _ _ _, Below.refl _ _⟩
      case round =>
        obtain ⟨i, ps, A2, cc2, hi, rfl, rfl, hps, hcap, hcm, hown, hbw⟩ := hrel
        have hlp : ps.length ≤ 1536 := by
          rw [hps, rect_len]
          exact Nat.le_trans (Nat.mul_le_mul (show i ≤ 32 by omega) g4) (by decide)
        have HO := hide hown
        have HPS := hide hps
        obtain ⟨hSr, hEr, hzr, hcr, hfr⟩ := bcell hbw
        subst hEr
        clear hown hps
        by_cases hlt : i < m
        · have gR : decide ((rl : Int) + i ≤ rh) = true := decide_eq_true (by omega)
          go_wp2
          go_loopw [13, 15] (fun o c wr => ∃ (j : Nat) (qs : List Pl) (A3 : Option Addr) (cc3 : Nat), j ≤ n ∧ c = .int .i64 ((cl : Int) + j) ∧ o = .slice A3 qs.length cc3 ∧ qs = ps ++ rowL (rl + i) cl j ∧ qs.length ≤ cc3 ∧ cc3 ≤ maxLen ∧ wr.ownsRow wo.heap.size 23 2 (.slice A3 qs.length cc3) qs.length (SV encP qs) ∧ Below wo.heap.size wo wr) (fun _ c _ => 100 - (intOf c).toNat)
          case atStart => exact ⟨0, ps, A2, cc2, Nat.zero_le _, by simp, rfl, by simp [rowL], hcap, hcm, HO.out, hbw⟩
          case round =>
            clear hzr hcr hfr hcap hcm HO hbw
            obtain ⟨j, qs, A3, cc3, hj, rfl, rfl, hqs, hcap, hcm, hown, hbw⟩ := hrel
            have hlq : qs.length ≤ 1600 := by rw [hqs, List.length_append, row_len]; omega
            have HO := hide hown
            have HQS := hide hqs
            obtain ⟨hSr, hEr, hzr, hcr, hfr⟩ := bcell hbw
            subst hEr
            clear hown hqs
            have hbs : wo.heap.size ≤ wr.heap.size := by omega
            by_cases hlt2 : j < n
            · go_wp2_with (at_builtin; go_loud (refine wp_append_srow (wr.alloc (.cells #[.int .i64 ((rl : Int) + i), .int .i64 ((cl : Int) + j)] 23)) rfl (.tmp 72) (.tmp 76) 31 rfl encP_len encP_one (by decide) wo.heap.size 23 i0 _ 16 Tryd.underlying31 hi0 hz0 hz1 hz2 rfl A3 qs.length cc3 _ rfl (HO.out.alloc _) _ _ 1 1 [((rl : Int) + i, (cl : Int) + j)] rfl (srow_one encP_len wr ((rl : Int) + i, (cl : Int) + j) 23) (by unfold maxLen; omega) (by omega) (by simp; omega) ?_); intro A5 c5 w5 hown5 hgrow5 hbel5 hcap5 hcm5)
              refine ⟨⟨j + 1, qs ++ [((rl : Int) + i, (cl : Int) + j)], A5, c5, by omega, by go_num, by rw [List.length_append]; rfl, by rw [HQS.out, row_succ, List.append_assoc]; congr 2, by rw [List.length_append]; exact hcap5, hcm5, by rw [List.length_append]; exact hown5, (hbw.alloc (by omega) _).trans hbel5⟩, by simp [intOf]; omega⟩
            · obtain rfl : j = n := by omega
              go_wp2
              refine ⟨⟨i + 1, qs, A3, cc3, by omega, by go_num, rfl, by rw [HQS.out, HPS.out, rect_succ], hcap, hcm, HO.out, hbw⟩, by simp [intOf]; omega⟩
        · obtain rfl : i = m := by omega
          go_wp2
          go_ret2
          rw [hV.out]
          subst HPS
          exact ⟨A2, cc2, rfl, hcap, hcm, srow_of_own encP_len (by decide) HO.out, HBW.out.trans (hbw.mono (by omega))⟩
theorem rpiece_any (s : ByteArray) (w : World) (hs : s.size ≤ 1073741824) : Calls Tryd.prog 24 #[.string s] w (PiecePost w (pieceV s.data.toList)) := by
  have hC : Calls Tryd.prog 23 #[.string s, .int .u8 58] w (CutPost w (splitL 58 s.data.toList)) := rcut_any s 58 w hs
  have hl := split_len 58 s.data.toList
  have hn := split_count 58 s.data.toList
  have hz := size_len s
  have hpos := split_pos 58 s.data.toList
  rw [← rpiece_eq]
  generalize splitL 58 s.data.toList = ss at *
  match ss, hC, hl, hn, hpos with
  | [], _, _, _, hpos => exact absurd rfl hpos
  | [x], hC, hl, hn, _ =>
    have h1 := hl x (by simp)
    have e1 := size_len (⟨x.toArray⟩ : ByteArray)
    exact rpiece_walk s ⟨x.toArray⟩ ⟨x.toArray⟩ [x] _ _ w hC (fun w => rparse_any _ w (by show x.toArray.size ≤ _; simp; omega)) (fun w => rparse_any _ w (by show x.toArray.size ≤ _; simp; omega)) (.inr ⟨rfl, rfl, rfl⟩) (parseW_cases _) (parseW_cases _)
  | [x, y], hC, hl, hn, _ =>
    have h1 := hl x (by simp)
    have h2 := hl y (by simp)
    exact rpiece_walk s ⟨x.toArray⟩ ⟨y.toArray⟩ [x, y] _ _ w hC (fun w => rparse_any _ w (by show x.toArray.size ≤ _; simp; omega)) (fun w => rparse_any _ w (by show y.toArray.size ≤ _; simp; omega)) (.inl rfl) (parseW_cases _) (parseW_cases _)
  | x :: y :: z :: t, hC, hl, hn, _ =>
    exact rpiece_many s _ w hC (by simp) (by omega)
end Go.Proofs.YthdfmanocemfmaaDoor.Well
