/- The places that a text names, by this layer. Condition: the environment of this chapter. -/
import Derived.Test.YthdfmanocemfmaaDoorWellL
namespace Go.Proofs.YthdfmanocemfmaaDoor.Well
open Go.ChangeShapes Go.WideShapes Go.ChangeAt Go.RowKit Go.Proofs.YthdfmanocemfmaaDoor.Kit Go.Proofs.YthdfmanocemfmaaDoor.Num Go.Proofs.YthdfmanocemfmaaDoor.Mem Go.Deep Go.PlainAid
set_option linter.unusedVariables false
set_option linter.unusedSimpArgs false
def listV : List (List UInt8) → Nat → List Pl → List Pl × Int × Int
  | [], _, acc => (acc, 0, 0)
  | x :: r, i, acc => if (pieceV x).2 ≠ 0 then ([], (pieceV x).2, (i : Int)) else if 384 < acc.length + (pieceV x).1.length then ([], 2, (i : Int)) else listV r (i + 1) (acc ++ (pieceV x).1)
def listS (l : List UInt8) : List Pl × Int × Int := if l = [] then ([], 0, 0) else listV (splitL 44 l) 0 []
theorem twoV_cases (a b : Int × Int × Int) (ha : a = (0, 0, 60) ∨ ∃ x y : Nat, x ≤ 31 ∧ y ≤ 47 ∧ a = ((x : Int), (y : Int), 0)) (hb : b = (0, 0, 60) ∨ ∃ x y : Nat, x ≤ 31 ∧ y ≤ 47 ∧ b = ((x : Int), (y : Int), 0)) : twoV a b = ([], 60) ∨ ((twoV a b).2 = 0 ∧ (twoV a b).1.length ≤ 1536) := by
  rcases ha with rfl | ⟨x, y, hx, hy, rfl⟩
  · exact .inl (if_neg (by rintro ⟨h5, _⟩; cases h5))
  · rcases hb with rfl | ⟨z, t, hz, ht, rfl⟩
    · exact .inl (if_neg (by rintro ⟨_, h5⟩; cases h5))
    · right
      rw [show twoV ((x : Int), (y : Int), 0) ((z : Int), (t : Int), 0) = (rectV ((x : Int), (y : Int), 0) ((z : Int), (t : Int), 0), 0) from if_pos ⟨rfl, rfl⟩]
      refine ⟨rfl, ?_⟩
      unfold rectV
      rw [rect_len]
      exact Nat.le_trans (Nat.mul_le_mul (show _ ≤ 32 by simp; omega) (show _ ≤ 48 by simp; omega)) (by decide)
theorem pieceV_cases (l : List UInt8) : pieceV l = ([], 60) ∨ ((pieceV l).2 = 0 ∧ (pieceV l).1.length ≤ 1536) := twoV_cases _ _ (parseW_cases _) (parseW_cases _)
def ListPost (w : World) (r : List Pl × Int × Int) (e : Ending) (w' : World) : Prop :=
  ∃ A c, e = .returned (.tuple #[.slice A r.1.length c, .int .i64 r.2.1, .int .i64 r.2.2]) ∧ r.1.length ≤ c ∧ c ≤ maxLen ∧ PRow w' w'.heap.size A r.1.length r.1 ∧ Below w.heap.size w w'
theorem list_no {w w' : World} {r : List Pl × Int × Int} {k i : Int} (h : r = ([], k, i)) (hb : Below w.heap.size w w') : ListPost w r (.returned (.tuple #[.slice none 0 0, .int .i64 k, .int .i64 i])) w' := by
  subst h
  exact ⟨none, 0, rfl, Nat.le_refl _, Nat.zero_le _, srow_nil _ _ _, hb⟩
/-- What is left of the text: how many bytes, and one; nothing when no more comes. -/
def leftOf (s m : Value) : Nat := match s, m with | .string b, .bool true => b.size + 1 | _, _ => 0
set_option maxHeartbeats 4000000 in
theorem list_any (s : ByteArray) (w : World) (hs : s.size ≤ 1073741824) (h : Env w) : Calls Tryd.prog 13 #[.string s] w (ListPost w (listS s.data.toList)) := by
  obtain ⟨i0, hi0, hz0, hz1, hz2⟩ := info_parts info_pl
  have HE := hide h
  have hsz := size_len s
  have HV := hide (show listS s.data.toList = if s.data.toList = [] then ([], 0, 0) else listV (splitL 44 s.data.toList) 0 [] from rfl)
  by_cases hl : s.data.toList = []
  · have h0 : s.size = 0 := by rw [hsz, hl]; rfl
    have h1 := is_empty h0
    have HR := hide (HV.out.trans (if_pos hl))
    clear hl hsz
    go_enter Tryd.func13, Tryd.ntmps13
    go_wp2
    go_loopw [0, 5, 6, 7] (fun a o i m wr => m = .bool false ∧ o = .slice none 0 0 ∧ wr = w) (fun _ _ _ _ _ => 0)
    case atStart => exact ⟨rfl, rfl, rfl⟩
    case round =>
      obtain ⟨rfl, rfl, rfl⟩ := hrel
      go_wp2
      (refine bodyPost_ret (v := .tuple #[(.slice none 0 0), .int .i64 0, .int .i64 0]) ?_ rfl (list_no HR.out (Below.refl _ _)); simp only [results, Tryd.results13]; go_simp)
  · have h0 : 0 < s.size := by
      rw [hsz]
      exact List.length_pos_iff.2 hl
    have h1 := not_empty h0
    have HR := hide (HV.out.trans (if_neg hl))
    clear hl hsz HV
    go_enter Tryd.func13, Tryd.ntmps13
    go_wp2
    go_loopw [0, 5, 6, 7] (fun a o i m wr => ∃ (rest : List UInt8) (fl : Bool) (k : Nat) (ps : List Pl) (A2 : Option Addr) (cc2 : Nat), a = .string ⟨rest.toArray⟩ ∧ m = .bool fl ∧ i = .int .i64 k ∧ o = .slice A2 ps.length cc2 ∧ listS s.data.toList = (if fl = true then listV (splitL 44 rest) k ps else (ps, 0, 0)) ∧ (fl = true → rest.length + 1 + k ≤ 1073741825) ∧ ps.length ≤ 384 ∧ ps.length ≤ cc2 ∧ cc2 ≤ maxLen ∧ wr.ownsRow w.heap.size 23 2 (.slice A2 ps.length cc2) ps.length (SV encP ps) ∧ Below w.heap.size w wr) (fun a _ _ m _ => leftOf a m)
    case atStart => exact ⟨s.data.toList, true, 0, [], none, 0, rfl, rfl, rfl, rfl, HR.out, fun _ => by rw [← size_len]; omega, Nat.zero_le _, Nat.le_refl _, Nat.zero_le _, World.ownsRow_nil _ _ _ _, Below.refl _ _⟩
    case round =>
      obtain ⟨rest, fl, k, ps, A2, cc2, rfl, rfl, rfl, rfl, hL, hk, hp, hcap, hcm, hown, hbw⟩ := hrel
      have HO := hide hown
      obtain ⟨hSr, hEr, hzr, hcr, hfr⟩ := bcell hbw
      subst hEr
      cases fl
      · have HL := hide hL
        have HF : ListPost w (listS s.data.toList) (.returned (.tuple #[.slice A2 ps.length cc2, .int .i64 0, .int .i64 0])) wr := by
          rw [HL.out, if_neg (by decide)]
          exact ⟨A2, cc2, rfl, hcap, hcm, srow_of_own encP_len (by decide) HO.out, hbw⟩
        clear hown hL HR
        go_wp2
        (refine bodyPost_ret (v := .tuple #[(.slice A2 ps.length cc2), .int .i64 0, .int .i64 0]) ?_ rfl (HF); simp only [results, Tryd.results13]; go_simp)
      · rw [if_pos rfl] at hL
        have hk := hk rfl
        have HEr := hide (HE.out.below hbw (Nat.le_refl _))
        have hR : (⟨rest.toArray⟩ : ByteArray).size = rest.length := size_len _
        have hC := cut_any ⟨rest.toArray⟩ ⟨#[44]⟩ wr (by omega) HEr.out
        rw [show (⟨#[44]⟩ : ByteArray).data.toList = [44] from rfl, show (⟨rest.toArray⟩ : ByteArray).data.toList = rest from rfl] at hC
        have hcs := cut_split 44 rest
        generalize Lib.cut rest [44] = cv at *
        obtain ⟨hd, tl, more⟩ := cv
        dsimp only at *
        obtain ⟨q, hsp, hq⟩ : ∃ q, splitL 44 rest = hd :: q ∧ ((more = true ∧ q = splitL 44 tl ∧ hd.length + 1 + tl.length = rest.length) ∨ (more = false ∧ q = [] ∧ tl = [] ∧ hd.length = rest.length)) := by
          rcases hcs with ⟨h2, h3, h4, _⟩ | ⟨h2, h3, h4⟩
          · obtain ⟨rfl, rfl, _⟩ : hd = rest ∧ tl = [] ∧ more = false := by
              simpa using h3
            exact ⟨[], h4, .inr ⟨h2, rfl, rfl, rfl⟩⟩
          · refine ⟨_, h3, .inl ⟨h2, rfl, ?_⟩⟩
            rw [h4, List.length_append, List.length_cons]
            omega
        have hhd : (⟨hd.toArray⟩ : ByteArray).size ≤ 1073741824 := by
          rw [size_len]
          show hd.length ≤ _
          omega
        have hP := fun w h => piece_any ⟨hd.toArray⟩ w hhd h
        rw [show (⟨hd.toArray⟩ : ByteArray).data.toList = hd from rfl] at hP
        have hpc := pieceV_cases hd
        rw [hsp] at hL
        have HLV : Hid (listV (hd :: q) k ps = if (pieceV hd).2 ≠ 0 then ([], (pieceV hd).2, (k : Int)) else if 384 < ps.length + (pieceV hd).1.length then ([], 2, (k : Int)) else listV q (k + 1) (ps ++ (pieceV hd).1)) := hide rfl
        have HL := hide hL
        clear hL hcs hsp hown HR hhd
        generalize pieceV hd = pv at *
        obtain ⟨qs, er⟩ := pv
        dsimp only at *
        rcases hpc with h5 | ⟨h5, h6⟩
        · obtain ⟨rfl, rfl⟩ : qs = [] ∧ er = 60 := by simpa using h5
          have HR := hide (HL.out.trans (HLV.out.trans (if_pos (by decide))))
          clear HL HLV h5 hq
          go_wp2_with (first | (go_at_call 22; refine (hP _ (HEr.out.below (B := wr.heap.size) (by repeat' (first | (with_reducible exact Below.refl _ _) | (with_reducible refine below_drewN ?_ _) | (with_reducible refine Below.drew ?_) | (with_reducible refine Below.alloc ?_ ?_ _) | (with_reducible refine Below.setCell ?_ ?_ _) | (with_reducible refine below_step ?_ (by assumption) ?_) | (with_reducible refine below_step ?_ (below_regrown _ _ _) ?_) | go_size)) (by omega))).mono ?_; rintro e w1p ⟨A1, c1, rfl, k1, k2, k3, hbp⟩; obtain ⟨hSp, hEp, hzp, hcp, hfp⟩ := bcell hbp; (try simp only [go_sem] at hEp); subst hEp) | (go_at_call 21; refine (hC).mono ?_; rintro e w1 ⟨rfl, hb⟩; obtain ⟨hS, hE, hz, hc, hf⟩ := bcell hb; (try simp only [go_sem] at hE); subst hE))
          (refine bodyPost_ret (v := .tuple #[(.slice none 0 0), .int .i64 60, .int .i64 k]) ?_ rfl (list_no HR.out (hbw.trans ((show Below wr.heap.size wr w1p from (by repeat' (first | (with_reducible exact Below.refl _ _) | (with_reducible refine below_drewN ?_ _) | (with_reducible refine Below.drew ?_) | (with_reducible refine Below.alloc ?_ ?_ _) | (with_reducible refine Below.setCell ?_ ?_ _) | (with_reducible refine below_step ?_ (by assumption) ?_) | (with_reducible refine below_step ?_ (below_regrown _ _ _) ?_) | go_size))).mono (by omega)))); simp only [results, Tryd.results13]; go_simp)
        · subst h5
          have HLV2 := hide (HLV.out.trans (if_neg (by decide)))
          have w1' : IntKind.i64.wrap (384 - (ps.length : Int)) = 384 - ps.length := IntWalk.i64_in _ (by omega)
          by_cases h7 : 384 < ps.length + qs.length
          · have HR := hide (HL.out.trans (HLV2.out.trans (if_pos h7)))
            clear HL HLV HLV2 hq
            go_wp2_with (first | (go_at_call 22; refine (hP _ (HEr.out.below (B := wr.heap.size) (by repeat' (first | (with_reducible exact Below.refl _ _) | (with_reducible refine below_drewN ?_ _) | (with_reducible refine Below.drew ?_) | (with_reducible refine Below.alloc ?_ ?_ _) | (with_reducible refine Below.setCell ?_ ?_ _) | (with_reducible refine below_step ?_ (by assumption) ?_) | (with_reducible refine below_step ?_ (below_regrown _ _ _) ?_) | go_size)) (by omega))).mono ?_; rintro e w1p ⟨A1, c1, rfl, k1, k2, k3, hbp⟩; obtain ⟨hSp, hEp, hzp, hcp, hfp⟩ := bcell hbp; (try simp only [go_sem] at hEp); subst hEp) | (go_at_call 21; refine (hC).mono ?_; rintro e w1 ⟨rfl, hb⟩; obtain ⟨hS, hE, hz, hc, hf⟩ := bcell hb; (try simp only [go_sem] at hE); subst hE))
            (refine bodyPost_ret (v := .tuple #[(.slice none 0 0), .int .i64 2, .int .i64 k]) ?_ rfl (list_no HR.out (hbw.trans ((show Below wr.heap.size wr w1p from (by repeat' (first | (with_reducible exact Below.refl _ _) | (with_reducible refine below_drewN ?_ _) | (with_reducible refine Below.drew ?_) | (with_reducible refine Below.alloc ?_ ?_ _) | (with_reducible refine Below.setCell ?_ ?_ _) | (with_reducible refine below_step ?_ (by assumption) ?_) | (with_reducible refine below_step ?_ (below_regrown _ _ _) ?_) | go_size))).mono (by omega)))); simp only [results, Tryd.results13]; go_simp)
          · have HR := hide (HL.out.trans (HLV2.out.trans (if_neg h7)))
            have HQ := hide hq
            clear HL HLV HLV2 hq
            go_wp2_with (first | (go_at_call 22; refine (hP _ (HEr.out.below (B := wr.heap.size) (by repeat' (first | (with_reducible exact Below.refl _ _) | (with_reducible refine below_drewN ?_ _) | (with_reducible refine Below.drew ?_) | (with_reducible refine Below.alloc ?_ ?_ _) | (with_reducible refine Below.setCell ?_ ?_ _) | (with_reducible refine below_step ?_ (by assumption) ?_) | (with_reducible refine below_step ?_ (below_regrown _ _ _) ?_) | go_size)) (by omega))).mono ?_; rintro e w1p ⟨A1, c1, rfl, k1, k2, k3, hbp⟩; obtain ⟨hSp, hEp, hzp, hcp, hfp⟩ := bcell hbp; (try simp only [go_sem] at hEp); subst hEp) | (go_at_call 21; refine (hC).mono ?_; rintro e w1 ⟨rfl, hb⟩; obtain ⟨hS, hE, hz, hc, hf⟩ := bcell hb; (try simp only [go_sem] at hE); subst hE) | (at_builtin; go_loud (refine wp_append_srow w1p rfl (.tmp 41) (.tmp 42) 31 rfl encP_len encP_one (by decide) w.heap.size 23 i0 _ 16 Tryd.underlying31 hi0 hz0 hz1 hz2 rfl A2 ps.length cc2 _ rfl (own_under HO.out (B1 := wr.heap.size) (by repeat' (first | (with_reducible exact Below.refl _ _) | (with_reducible refine below_drewN ?_ _) | (with_reducible refine Below.drew ?_) | (with_reducible refine Below.alloc ?_ ?_ _) | (with_reducible refine Below.setCell ?_ ?_ _) | (with_reducible refine below_step ?_ (by assumption) ?_) | (with_reducible refine below_step ?_ (below_regrown _ _ _) ?_) | go_size)) (Nat.le_refl _)) _ A1 qs.length c1 qs rfl k3 (by unfold maxLen; omega) (by omega) (by omega) ?_); intro A5 c5 w5 hown5 hgrow5 hbel5 hcap5 hcm5))
            have HB5 : Below w.heap.size w w5 := (hbw.trans ((show Below wr.heap.size wr w1p from (by repeat' (first | (with_reducible exact Below.refl _ _) | (with_reducible refine below_drewN ?_ _) | (with_reducible refine Below.drew ?_) | (with_reducible refine Below.alloc ?_ ?_ _) | (with_reducible refine Below.setCell ?_ ?_ _) | (with_reducible refine below_step ?_ (by assumption) ?_) | (with_reducible refine below_step ?_ (below_regrown _ _ _) ?_) | go_size))).mono (by omega))).trans hbel5
            rcases HQ.out with ⟨rfl, rfl, h8⟩ | ⟨rfl, rfl, rfl, h8⟩
            · refine ⟨⟨tl, true, k + 1, ps ++ qs, A5, c5, rfl, rfl, by go_num, by rw [List.length_append], HR.out, fun _ => by omega, by rw [List.length_append]; omega, by rw [List.length_append]; exact hcap5, hcm5, by rw [List.length_append]; exact hown5, HB5⟩, ?_⟩
              show tl.toArray.size + 1 < rest.toArray.size + 1
              simp
              omega
            · refine ⟨⟨[], false, k + 1, ps ++ qs, A5, c5, rfl, rfl, by go_num, by rw [List.length_append], HR.out, (fun h => by cases h), by rw [List.length_append]; omega, by rw [List.length_append]; exact hcap5, hcm5, by rw [List.length_append]; exact hown5, HB5⟩, ?_⟩
              show 0 < rest.toArray.size + 1
              omega
end Go.Proofs.YthdfmanocemfmaaDoor.Well
