/- The places of a piece, by this layer. Condition: the environment of this chapter. -/
import Derived.Test.YthdfmanocemfmaaDoorWellI
namespace Go.Proofs.YthdfmanocemfmaaDoor.Well
open Go.ChangeShapes Go.WideShapes Go.ChangeAt Go.RowKit Go.Proofs.YthdfmanocemfmaaDoor.Kit Go.Proofs.YthdfmanocemfmaaDoor.Num Go.Proofs.YthdfmanocemfmaaDoor.Mem Go.Deep Go.PlainAid
set_option linter.unusedVariables false
set_option linter.unusedSimpArgs false
/-- The first n places of a row from column c on; the first m rows of these from row r on. -/
def rowL (r c n : Nat) : List Pl := (List.range n).map fun j => ((r : Int), ((c + j : Nat) : Int))
def rectL (r m c n : Nat) : List Pl := (List.range m).flatMap fun i => rowL (r + i) c n
theorem row_succ (r c n : Nat) : rowL r c (n + 1) = rowL r c n ++ [((r : Int), ((c + n : Nat) : Int))] := by simp [rowL, List.range_succ]
theorem rect_succ (r m c n : Nat) : rectL r (m + 1) c n = rectL r m c n ++ rowL (r + m) c n := by simp [rectL, List.range_succ]
theorem row_len (r c n : Nat) : (rowL r c n).length = n := by simp [rowL]
theorem rect_len (r m c n : Nat) : (rectL r m c n).length = m * n := by
  induction m with
  | zero => simp [rectL]
  | succ m ih => rw [rect_succ, List.length_append, ih, row_len, Nat.succ_mul]
def rectV (a b : Int × Int × Int) : List Pl := rectL (min a.1.toNat b.1.toNat) (max a.1.toNat b.1.toNat - min a.1.toNat b.1.toNat + 1) (min a.2.1.toNat b.2.1.toNat) (max a.2.1.toNat b.2.1.toNat - min a.2.1.toNat b.2.1.toNat + 1)
def twoV (a b : Int × Int × Int) : List Pl × Int := if a.2.2 = 0 ∧ b.2.2 = 0 then (rectV a b, 0) else ([], 60)
def pieceV (l : List UInt8) : List Pl × Int := twoV (parseW ⟨(Lib.cut l [58]).1.toArray⟩) (parseW ⟨(if (Lib.cut l [58]).2.2 = true then (Lib.cut l [58]).2.1 else (Lib.cut l [58]).1).toArray⟩)
theorem parseW_cases (s : ByteArray) : parseW s = (0, 0, 60) ∨ ∃ a b : Nat, a ≤ 31 ∧ b ≤ 47 ∧ parseW s = ((a : Int), (b : Int), 0) := by
  rcases parse_inv s with h | ⟨a, b, ha, hb, h, _⟩
  · exact .inl h
  · exact .inr ⟨a, b, ha, hb, h⟩
def PiecePost (w : World) (r : List Pl × Int) (e : Ending) (w' : World) : Prop :=
  ∃ A c, e = .returned (.tuple #[.slice A r.1.length c, .int .i64 r.2]) ∧ r.1.length ≤ c ∧ c ≤ maxLen ∧ PRow w' w'.heap.size A r.1.length r.1 ∧ Below w.heap.size w w'
theorem piece_no {w w' : World} {r : List Pl × Int} (h : r = ([], 60)) (hb : Below w.heap.size w w') : PiecePost w r (.returned (.tuple #[.slice none 0 0, .int .i64 60])) w' := by
  subst h
  exact ⟨none, 0, rfl, Nat.le_refl _, Nat.zero_le _, srow_nil _ _ _, hb⟩
theorem cut_sizes (s : ByteArray) (c : UInt8) : (⟨(Lib.cut s.data.toList [c]).1.toArray⟩ : ByteArray).size ≤ s.size ∧ (⟨(Lib.cut s.data.toList [c]).2.1.toArray⟩ : ByteArray).size ≤ s.size := by
  have e0 := size_len s
  have e1 := size_len (⟨(Lib.cut s.data.toList [c]).1.toArray⟩ : ByteArray)
  have e2 := size_len (⟨(Lib.cut s.data.toList [c]).2.1.toArray⟩ : ByteArray)
  have f1 : (⟨(Lib.cut s.data.toList [c]).1.toArray⟩ : ByteArray).data.toList = (Lib.cut s.data.toList [c]).1 := rfl
  have f2 : (⟨(Lib.cut s.data.toList [c]).2.1.toArray⟩ : ByteArray).data.toList = (Lib.cut s.data.toList [c]).2.1 := rfl
  rw [f1] at e1
  rw [f2] at e2
  clear f1 f2
  rcases cut_split c s.data.toList with ⟨_, h2, _⟩ | ⟨_, _, h3⟩
  · rw [h2] at e1 e2 ⊢
    exact ⟨by rw [e1]; omega, Nat.zero_le _⟩
  · have h4 := congrArg List.length h3
    rw [List.length_append, List.length_cons] at h4
    omega
set_option maxHeartbeats 4000000 in
theorem piece_walk (s F L L0 : ByteArray) (more : Bool) (a b : Int × Int × Int) (w : World) (hC : Calls Tryd.prog 21 #[.string s, .string ⟨#[58]⟩] w fun e w' => e = .returned (.tuple #[.string F, .string L0, .bool more]) ∧ Below w.heap.size w w')
    (pF : ∀ w, Calls Tryd.prog 7 #[.string F] w fun e w' => e = .returned (retW a) ∧ Below w.heap.size w w') (pL : ∀ w, Calls Tryd.prog 7 #[.string L] w fun e w' => e = .returned (retW b) ∧ Below w.heap.size w w')
    (hm : (more = true ∧ L0 = L) ∨ (more = false ∧ L = F ∧ b = a)) (hcF : a = (0, 0, 60) ∨ ∃ x y : Nat, x ≤ 31 ∧ y ≤ 47 ∧ a = ((x : Int), (y : Int), 0)) (hcL : b = (0, 0, 60) ∨ ∃ x y : Nat, x ≤ 31 ∧ y ≤ 47 ∧ b = ((x : Int), (y : Int), 0)) :
    Calls Tryd.prog 22 #[.string s] w (PiecePost w (twoV a b)) := by
  obtain ⟨i0, hi0, hz0, hz1, hz2⟩ := info_parts info_pl
  unfold retW at pF pL
  rcases hcF with rfl | ⟨a1, a2, ha1, ha2, rfl⟩
  · have hR := hide (show twoV (0, 0, 60) b = ([], 60) from if_neg (by rintro ⟨h5, _⟩; cases h5))
    rcases hm with ⟨rfl, rfl⟩ | ⟨rfl, rfl, rfl⟩
    all_goals
      go_enter Tryd.func22, Tryd.ntmps22
      go_wp2_with (first | (go_at_call 21; refine (hC).mono ?_; rintro e w1 ⟨rfl, hb⟩; obtain ⟨hS, hE, hz, hc, hf⟩ := bcell hb; (try simp only [go_sem] at hE); subst hE) | (go_at_call 7; (with_reducible refine (pF _).mono ?_); focus (skip); rintro e w1 ⟨rfl, hb⟩; obtain ⟨hS, hE, hz, hc, hf⟩ := bcell hb; (try simp only [go_sem] at hE); subst hE) | (go_at_call 7; (with_reducible refine (pL _).mono ?_); focus (skip); rintro e w1 ⟨rfl, hb⟩; obtain ⟨hS, hE, hz, hc, hf⟩ := bcell hb; (try simp only [go_sem] at hE); subst hE) | ((with_reducible change Code.wp _ (Code.region _ _ _) _ _ _); refine wp_region_quiet_below (by kernel_rfl) (by kernel_rfl) ?_; (repeat (first | go_big_quiet_step ((first | (go_at_call 21; exact Calls.regrown_of (hC)) | (go_at_call 7; (with_reducible refine Calls.regrown_of (pF _)); focus (skip)) | (go_at_call 7; (with_reducible refine Calls.regrown_of (pL _)); focus (skip)))) | quiet_step ((first | (go_at_call 21; exact Calls.regrown_of (hC)) | (go_at_call 7; (with_reducible refine Calls.regrown_of (pF _)); focus (skip)) | (go_at_call 7; (with_reducible refine Calls.regrown_of (pL _)); focus (skip)))))); refine wpQuiet_nil ?_; intro w1 hw1; have hb := below_of_regrown hw1; clear hw1; obtain ⟨hS, hE, hz, hc, hf⟩ := bcell hb; (try simp only [go_sem] at hE); subst hE))
      go_ret2
      exact piece_no hR.out (by repeat' (first | (with_reducible exact Below.refl _ _) | (with_reducible refine below_drewN ?_ _) | (with_reducible refine Below.drew ?_) | (with_reducible refine Below.alloc ?_ ?_ _) | (with_reducible refine Below.setCell ?_ ?_ _) | (with_reducible refine below_step ?_ (by assumption) ?_) | (with_reducible refine below_step ?_ (below_regrown _ _ _) ?_) | go_size))
  rcases hcL with rfl | ⟨b1, b2, hb1, hb2, rfl⟩
  · have hR := hide (show twoV ((a1 : Int), (a2 : Int), 0) (0, 0, 60) = ([], 60) from if_neg (by rintro ⟨_, h5⟩; cases h5))
    rcases hm with ⟨rfl, rfl⟩ | ⟨rfl, rfl, h5⟩
    · go_enter Tryd.func22, Tryd.ntmps22
      go_wp2_with (first | (go_at_call 21; refine (hC).mono ?_; rintro e w1 ⟨rfl, hb⟩; obtain ⟨hS, hE, hz, hc, hf⟩ := bcell hb; (try simp only [go_sem] at hE); subst hE) | (go_at_call 7; (with_reducible refine (pF _).mono ?_); focus (skip); rintro e w1 ⟨rfl, hb⟩; obtain ⟨hS, hE, hz, hc, hf⟩ := bcell hb; (try simp only [go_sem] at hE); subst hE) | (go_at_call 7; (with_reducible refine (pL _).mono ?_); focus (skip); rintro e w1 ⟨rfl, hb⟩; obtain ⟨hS, hE, hz, hc, hf⟩ := bcell hb; (try simp only [go_sem] at hE); subst hE) | ((with_reducible change Code.wp _ (Code.region _ _ _) _ _ _); refine wp_region_quiet_below (by kernel_rfl) (by kernel_rfl) ?_; (repeat (first | go_big_quiet_step ((first | (go_at_call 21; exact Calls.regrown_of (hC)) | (go_at_call 7; (with_reducible refine Calls.regrown_of (pF _)); focus (skip)) | (go_at_call 7; (with_reducible refine Calls.regrown_of (pL _)); focus (skip)))) | quiet_step ((first | (go_at_call 21; exact Calls.regrown_of (hC)) | (go_at_call 7; (with_reducible refine Calls.regrown_of (pF _)); focus (skip)) | (go_at_call 7; (with_reducible refine Calls.regrown_of (pL _)); focus (skip)))))); refine wpQuiet_nil ?_; intro w1 hw1; have hb := below_of_regrown hw1; clear hw1; obtain ⟨hS, hE, hz, hc, hf⟩ := bcell hb; (try simp only [go_sem] at hE); subst hE))
      go_ret2
      exact piece_no hR.out (by repeat' (first | (with_reducible exact Below.refl _ _) | (with_reducible refine below_drewN ?_ _) | (with_reducible refine Below.drew ?_) | (with_reducible refine Below.alloc ?_ ?_ _) | (with_reducible refine Below.setCell ?_ ?_ _) | (with_reducible refine below_step ?_ (by assumption) ?_) | (with_reducible refine below_step ?_ (below_regrown _ _ _) ?_) | go_size))
    · cases h5
  · obtain ⟨rl, rh, cl, ch, m, n, hmr, hxr, hmc, hxc, g1, g2, g3, g4, g5, g6, hV⟩ : ∃ rl rh cl ch m n : Nat, min (a1 : Int) (b1 : Int) = (rl : Int) ∧ max (a1 : Int) (b1 : Int) = (rh : Int) ∧ min (a2 : Int) (b2 : Int) = (cl : Int) ∧ max (a2 : Int) (b2 : Int) = (ch : Int) ∧ rh + 1 = rl + m ∧ ch + 1 = cl + n ∧ m ≤ 32 ∧ n ≤ 48 ∧ rh ≤ 31 ∧ ch ≤ 47 ∧ Hid (twoV ((a1 : Int), (a2 : Int), 0) ((b1 : Int), (b2 : Int), 0) = (rectL rl m cl n, 0)) :=
      ⟨min a1 b1, max a1 b1, min a2 b2, max a2 b2, max a1 b1 - min a1 b1 + 1, max a2 b2 - min a2 b2 + 1, by omega, by omega, by omega, by omega, by omega, by omega, by omega, by omega, by omega, by omega, hide (if_pos ⟨rfl, rfl⟩)⟩
    dsimp only at pF pL
    rcases hm with ⟨rfl, rfl⟩ | ⟨rfl, rfl, h5⟩
    focus
      go_enter Tryd.func22, Tryd.ntmps22
      go_wp2_with (first | (go_at_call 21; refine (hC).mono ?_; rintro e w1c ⟨rfl, hbc⟩; obtain ⟨hS, hE, hzc, hcc, hfc⟩ := bcell hbc; (try simp only [go_sem] at hE); subst hE) | (go_at_call 7; (with_reducible refine (pF _).mono ?_); focus (skip); rintro e w1p ⟨rfl, hbp⟩; obtain ⟨hS, hE, hzp, hcp, hfp⟩ := bcell hbp; (try simp only [go_sem] at hE); subst hE) | (go_at_call 7; (with_reducible refine (pL _).mono ?_); focus (skip); rintro e w1q ⟨rfl, hbq⟩; obtain ⟨hS, hE, hzq, hcq, hfq⟩ := bcell hbq; (try simp only [go_sem] at hE); subst hE) | ((with_reducible change Code.wp _ (Code.region _ _ _) _ _ _); refine wp_region_quiet_below (by kernel_rfl) (by kernel_rfl) ?_; (repeat (first | go_big_quiet_step ((first | (go_at_call 21; exact Calls.regrown_of (hC)) | (go_at_call 7; (with_reducible refine Calls.regrown_of (pF _)); focus (skip)) | (go_at_call 7; (with_reducible refine Calls.regrown_of (pL _)); focus (skip)))) | quiet_step ((first | (go_at_call 21; exact Calls.regrown_of (hC)) | (go_at_call 7; (with_reducible refine Calls.regrown_of (pF _)); focus (skip)) | (go_at_call 7; (with_reducible refine Calls.regrown_of (pL _)); focus (skip)))))); refine wpQuiet_nil ?_; intro w1 hw1; have hb := below_of_regrown hw1; clear hw1; obtain ⟨hS, hE, hz, hc, hf⟩ := bcell hb; (try simp only [go_sem] at hE); subst hE))
    rotate_left
    focus
      obtain rfl : b1 = a1 := by have := congrArg (fun z => z.1) h5; dsimp only at this; omega
      obtain rfl : b2 = a2 := by have := congrArg (fun z => z.2.1) h5; dsimp only at this; omega
      clear h5 pL
      go_enter Tryd.func22, Tryd.ntmps22
      go_wp2_with (first | (go_at_call 21; refine (hC).mono ?_; rintro e w1c ⟨rfl, hbc⟩; obtain ⟨hS, hE, hzc, hcc, hfc⟩ := bcell hbc; (try simp only [go_sem] at hE); subst hE) | (go_at_call 7; refine (pF _).mono ?_; rintro e w1q ⟨rfl, hbq⟩; obtain ⟨hS, hE, hzq, hcq, hfq⟩ := bcell hbq; (try simp only [go_sem] at hE); subst hE) | ((with_reducible change Code.wp _ (Code.region _ _ _) _ _ _); refine wp_region_quiet_below (by kernel_rfl) (by kernel_rfl) ?_; (repeat (first | go_big_quiet_step ((first | (go_at_call 21; exact Calls.regrown_of (hC)) | (go_at_call 7; exact Calls.regrown_of (pF _)))) | quiet_step ((first | (go_at_call 21; exact Calls.regrown_of (hC)) | (go_at_call 7; exact Calls.regrown_of (pF _)))))); refine wpQuiet_nil ?_; intro w1 hw1; have hb := below_of_regrown hw1; clear hw1; obtain ⟨hS, hE, hz, hc, hf⟩ := bcell hb; (try simp only [go_sem] at hE); subst hE))
    rotate_left
    all_goals
      have HBW : Hid (Below w.heap.size w (w1q.alloc (.cells #[.int .i64 b1, .int .i64 b2] 23))) := hide (by repeat' (first | (with_reducible exact Below.refl _ _) | (with_reducible refine below_drewN ?_ _) | (with_reducible refine Below.drew ?_) | (with_reducible refine Below.alloc ?_ ?_ _) | (with_reducible refine Below.setCell ?_ ?_ _) | (with_reducible refine below_step ?_ (by assumption) ?_) | (with_reducible refine below_step ?_ (below_regrown _ _ _) ?_) | go_size))
      have hw0 : w.heap.size ≤ w1q.heap.size := by omega
      obtain ⟨wo, hwo⟩ : ∃ wo : World, w1q.alloc (.cells #[.int .i64 b1, .int .i64 b2] 23) = wo := ⟨_, rfl⟩
      have hzo : wo.heap.size = w1q.heap.size + 1 := by rw [← hwo]; exact World.size_alloc _ _
      have hco : ∀ b o, ltA b (w1q.heap.size + 1) → wo.cell? ⟨b, o, none⟩ = (w1q.alloc (.cells #[.int .i64 b1, .int .i64 b2] 23)).cell? ⟨b, o, none⟩ := fun b o _ => by rw [hwo]
      rw [hwo] at HBW ⊢
      clear hwo
      go_loopw [11, 12] (fun o r wr => ∃ (i : Nat) (ps : List Pl) (A2 : Option Addr) (cc2 : Nat), i ≤ m ∧ r = .int .i64 ((rl : Int) + i) ∧ o = .slice A2 ps.length cc2 ∧ ps = rectL rl i cl n ∧ ps.length ≤ cc2 ∧ cc2 ≤ maxLen ∧ wr.ownsRow wo.heap.size 23 2 (.slice A2 ps.length cc2) ps.length (SV encP ps) ∧ Below wo.heap.size wo wr) (fun _ r _ => 100 - (intOf r).toNat)
      case atStart => exact ⟨0, [], none, 0, Nat.zero_le _, by simp, rfl, rfl, Nat.le_refl _, Nat.zero_le _, World.ownsRow_nil _ _ _ _, Below.refl _ _⟩
      case round =>
        obtain ⟨i, ps, A2, cc2, hi, rfl, rfl, hps, hcap, hcm, hown, hbw⟩ := hrel
        have hlp : ps.length ≤ 1536 := by
          rw [hps, rect_len]
          exact Nat.le_trans (Nat.mul_le_mul (show i ≤ 32 by omega) g4) (by decide)
        have HO := hide hown
        have HPS := hide hps
        obtain ⟨hSr, hEr, hzr, hcr, hfr⟩ := bcell hbw
        rw [hzo] at hEr
        subst hEr
        clear hown hps
        by_cases hlt : i < m
        · have gR : decide ((rl : Int) + i ≤ rh) = true := decide_eq_true (by omega)
          go_wp2
          go_loopw [11, 13] (fun o c wr => ∃ (j : Nat) (qs : List Pl) (A3 : Option Addr) (cc3 : Nat), j ≤ n ∧ c = .int .i64 ((cl : Int) + j) ∧ o = .slice A3 qs.length cc3 ∧ qs = ps ++ rowL (rl + i) cl j ∧ qs.length ≤ cc3 ∧ cc3 ≤ maxLen ∧ wr.ownsRow wo.heap.size 23 2 (.slice A3 qs.length cc3) qs.length (SV encP qs) ∧ Below wo.heap.size wo wr) (fun _ c _ => 100 - (intOf c).toNat)
          case atStart => exact ⟨0, ps, A2, cc2, Nat.zero_le _, by simp, rfl, by simp [rowL], hcap, hcm, HO.out, hbw⟩
          case round =>
            clear hzr hcr hfr hcap hcm HO hbw
            obtain ⟨j, qs, A3, cc3, hj, rfl, rfl, hqs, hcap, hcm, hown, hbw⟩ := hrel
            have hlq : qs.length ≤ 1600 := by rw [hqs, List.length_append, row_len]; omega
            have HO := hide hown
            have HQS := hide hqs
            obtain ⟨hSr, hEr, hzr, hcr, hfr⟩ := bcell hbw
            rw [hzo] at hEr
            subst hEr
            clear hown hqs
            have hbs : wo.heap.size ≤ wr.heap.size := by omega
            by_cases hlt2 : j < n
            · go_wp2_with (at_builtin; go_loud (refine wp_append_srow (wr.alloc (.cells #[.int .i64 ((rl : Int) + i), .int .i64 ((cl : Int) + j)] 23)) rfl (.tmp 67) (.tmp 71) 31 rfl encP_len encP_one (by decide) wo.heap.size 23 i0 _ 16 Tryd.underlying31 hi0 hz0 hz1 hz2 rfl A3 qs.length cc3 _ rfl (HO.out.alloc _) _ _ 1 1 [((rl : Int) + i, (cl : Int) + j)] rfl (srow_one encP_len wr ((rl : Int) + i, (cl : Int) + j) 23) (by unfold maxLen; omega) (by omega) (by simp; omega) ?_); intro A5 c5 w5 hown5 hgrow5 hbel5 hcap5 hcm5)
              refine ⟨⟨j + 1, qs ++ [((rl : Int) + i, (cl : Int) + j)], A5, c5, by omega, by go_num, by rw [List.length_append]; rfl, by rw [HQS.out, row_succ, List.append_assoc]; congr 2, by rw [List.length_append]; exact hcap5, hcm5, by rw [List.length_append]; exact hown5, (hbw.alloc (by omega) _).trans hbel5⟩, by simp [intOf]; omega⟩
            · obtain rfl : j = n := by omega
              go_wp2
              refine ⟨⟨i + 1, qs, A3, cc3, by omega, by go_num, rfl, by rw [HQS.out, HPS.out, rect_succ], hcap, hcm, HO.out, hbw⟩, by simp [intOf]; omega⟩
        · obtain rfl : i = m := by omega
          go_wp2
          go_ret2
          rw [hV.out]
          subst HPS
          exact ⟨A2, cc2, rfl, hcap, hcm, srow_of_own encP_len (by decide) HO.out, HBW.out.trans (hbw.mono (by omega))⟩
theorem piece_any (s : ByteArray) (w : World) (hs : s.size ≤ 1073741824) (h : Env w) : Calls Tryd.prog 22 #[.string s] w (PiecePost w (pieceV s.data.toList)) := by
  obtain ⟨hs1, hs2⟩ := cut_sizes s 58
  have hC := cut_any s ⟨#[58]⟩ w (by omega) h
  have e58 : (⟨#[58]⟩ : ByteArray).data.toList = [58] := rfl
  rw [e58] at hC
  unfold pieceV
  generalize Lib.cut s.data.toList [58] = cv at *
  obtain ⟨f, l, more⟩ := cv
  dsimp only at *
  refine piece_walk s ⟨f.toArray⟩ ⟨(if more = true then l else f).toArray⟩ ⟨l.toArray⟩ more _ _ w hC (fun w => wparse_any _ w (by omega)) (fun w => wparse_any _ w (by split <;> omega)) ?_ (parseW_cases _) (parseW_cases _)
  cases more
  · exact .inr ⟨rfl, rfl, rfl⟩
  · exact .inl ⟨rfl, rfl⟩
end Go.Proofs.YthdfmanocemfmaaDoor.Well
