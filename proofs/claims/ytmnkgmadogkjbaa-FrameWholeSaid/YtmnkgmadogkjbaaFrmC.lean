/- What feeding a feed does. No condition but sizes. -/
import Derived.Test.YtmnkgmadogkjbaaFrmB
import Derived.Deep.LoopGhost
import Derived.RegionTactic
import Derived.BigRegion
namespace Go.Proofs.Ytmnkgmadogkjbaa.Frame
open Go.ChangeShapes Go.WideShapes Go.ChangeAt Go.RowKit Go.Proofs.Ytmnkgmadogkjbaa.Kit Go.Proofs.Ytmnkgmadogkjbaa.Mem Go.Proofs.Ytmnkgmadogkjbaa.Pack Go.Proofs.Ytmnkgmadogkjbaa.Mix Go.Deep
set_option linter.unusedVariables false
section
variable {w : World} {g base : Nat} {b : List Int} {told : List (List Int)}
def UntilPost (w : World) (g base : Nat) (b : List Int) (told : List (List Int)) (e : Ending) (w' : World) : Prop :=
  e = .returned (.tuple #[]) ∧ CutSt w' g base (cutF b).2.1 (cutF b).2.2 (told ++ (cutF b).1) ∧ Below base w w'
def UntilRel (w0 : World) (g base : Nat) (b : List Int) (told : List (List Int)) (k : Nat) (w : World) : Prop :=
  ∃ b' told', b'.length < k ∧ CutSt w g base b' false told' ∧ Below base w0 w ∧ told ++ (cutF b).1 = told' ++ (cutF b').1 ∧ (cutF b).2 = (cutF b').2 ∧ (∀ x ∈ b', 0 ≤ x ∧ x ≤ 255) ∧ b'.length ≤ b.length ∧ told'.length + b'.length ≤ told.length + b.length
theorem until_any (h : CutSt w g base b false told) (hm : b.length ≤ 100000000) (ht : told.length ≤ 100000000) (hr : ∀ x ∈ b, 0 ≤ x ∧ x ≤ 255) (hB : base ≤ w.heap.size) :
    Calls Try.prog 18 #[.func (.func 19) #[.pointer (some ⟨g, 0, none⟩)] #[]] w (UntilPost w g base b told) := by
  go_enter Try.func18, Try.ntmps18
  go_wp2
  go_loopg [] (b.length + 1) (fun k wr => UntilRel w g base b told k wr)
  case atStart => exact ⟨b, told, by omega, h, Below.refl _ _, rfl, rfl, hr, Nat.le_refl _, Nat.le_refl _⟩
  case round =>
    obtain ⟨b', told', hk, hst, hbw, e1, e2, hr', hl1, hl2⟩ := hrel
    have hsz := hbw.size
    have E1 := hide e1
    have E2 := hide e2
    clear e1 e2 h
    by_cases c1 : b'.length < 2
    · go_wp2_with (go_at_call 19; refine (cut_few hst c1).mono ?_; rintro e w1 ⟨rfl, hcs, hb1⟩)
      go_end0
      have e := cutF_few b' c1
      unfold UntilPost
      rw [E1.out, E2.out, e]
      exact ⟨rfl, by simpa using hcs, hbw.trans (hb1.mono (by omega))⟩
    by_cases c2 : 512 < saysF b'
    · go_wp2_with (go_at_call 19; refine (cut_shut hst c1 (by omega) hr' c2).mono ?_; rintro e w1 ⟨rfl, hcs, hb1⟩)
      go_end0
      have e := cutF_shut b' c1 c2
      unfold UntilPost
      rw [E1.out, E2.out, e]
      exact ⟨rfl, by simpa using hcs, hbw.trans hb1⟩
    by_cases c3 : (b'.length : Int) - 2 < saysF b'
    · go_wp2_with (go_at_call 19; refine (cut_wait hst c1 (by omega) hr' c2 c3).mono ?_; rintro e w1 ⟨rfl, hcs, hb1⟩)
      go_end0
      have e := cutF_wait b' c1 (by omega) c3
      unfold UntilPost
      rw [E1.out, E2.out, e]
      exact ⟨rfl, by simpa using hcs, hbw.trans (hb1.mono (by omega))⟩
    · have e := cutF_one b' c1 c2 c3
      have hd : (b'.drop (2 + (saysF b').toNat)).length + 2 ≤ b'.length := by rw [List.length_drop]; omega
      have E := hide e
      have HD := hide hd
      clear e hd
      go_wp2_with (go_at_call 19; refine (cut_one hst c1 (by omega) (by omega) hr' c2 c3).mono ?_; rintro e w1 ⟨rfl, hcs, hb1⟩)
      go_roundg (gk - 1)
      case measure => omega
      case rel =>
        have hd := HD.out
        refine ⟨_, _, by omega, hcs, hbw.trans hb1, ?_, ?_, fun x hx => hr' x (List.mem_of_mem_drop hx), by omega, by simp only [List.length_append, List.length_cons, List.length_nil]; omega⟩
        · rw [E1.out, E.out]; simp
        · rw [E2.out, E.out]
theorem right_any {A : Option Addr} {n c : Nat} {l : List Int} {B : Nat} (hb : Bytes w B A n l) (hr : ∀ x ∈ l, 0 ≤ x ∧ x ≤ 255) (hB : B ≤ w.heap.size) (hc : n ≤ c) (hm : n ≤ 1099511627776) (h : rightF l) :
    Calls Try.prog 15 #[.agg #[.slice A n c, .bool false]] w fun e w' => e = .returned (.bool true) ∧ Below w.heap.size w w' := by
  have hl := hb.1
  subst hl
  rcases h with h | ⟨h1, h2⟩
  · go_enter Try.func15, Try.ntmps15
    go_wp2_with (first | (go_at_call 20; refine (says_few (bytes_alloc hb hB _) (by simp; omega) h hc).mono ?_; rintro e w1 ⟨rfl, hb⟩; obtain ⟨hS, hE, hz, hc, hf⟩ := bcell hb; (try simp only [go_sem] at hE); subst hE) | (refine wp_region_quiet_below (by kernel_rfl) (by kernel_rfl) ?_; (repeat (first | go_big_quiet_step ((first | (go_at_call 20; exact Calls.regrown_of (says_few (bytes_alloc hb hB _) (by simp; omega) h hc)))) | quiet_step ((first | (go_at_call 20; exact Calls.regrown_of (says_few (bytes_alloc hb hB _) (by simp; omega) h hc)))))); refine wpQuiet_nil ?_; intro w1 hw1; have hb := below_of_regrown hw1; clear hw1; obtain ⟨hS, hE, hz, hc, hf⟩ := bcell hb; (try simp only [go_sem] at hE); subst hE))
    go_ret
    exact ⟨rfl, (by repeat' (first | (with_reducible exact Below.refl _ _) | (with_reducible refine below_drewN ?_ _) | (with_reducible refine Below.drew ?_) | (with_reducible refine Below.alloc ?_ ?_ _) | (with_reducible refine Below.setCell ?_ ?_ _) | (with_reducible refine below_step ?_ (by assumption) ?_) | go_size))⟩
  · by_cases hl2 : l.length < 2
    · go_enter Try.func15, Try.ntmps15
      go_wp2_with (first | (go_at_call 20; refine (says_few (bytes_alloc hb hB _) (by simp; omega) hl2 hc).mono ?_; rintro e w1 ⟨rfl, hb⟩; obtain ⟨hS, hE, hz, hc, hf⟩ := bcell hb; (try simp only [go_sem] at hE); subst hE) | (refine wp_region_quiet_below (by kernel_rfl) (by kernel_rfl) ?_; (repeat (first | go_big_quiet_step ((first | (go_at_call 20; exact Calls.regrown_of (says_few (bytes_alloc hb hB _) (by simp; omega) hl2 hc)))) | quiet_step ((first | (go_at_call 20; exact Calls.regrown_of (says_few (bytes_alloc hb hB _) (by simp; omega) hl2 hc)))))); refine wpQuiet_nil ?_; intro w1 hw1; have hb := below_of_regrown hw1; clear hw1; obtain ⟨hS, hE, hz, hc, hf⟩ := bcell hb; (try simp only [go_sem] at hE); subst hE))
      go_ret
      exact ⟨rfl, (by repeat' (first | (with_reducible exact Below.refl _ _) | (with_reducible refine below_drewN ?_ _) | (with_reducible refine Below.drew ?_) | (with_reducible refine Below.alloc ?_ ?_ _) | (with_reducible refine Below.setCell ?_ ?_ _) | (with_reducible refine below_step ?_ (by assumption) ?_) | go_size))⟩
    · have hs := saysF_bd l hr
      have S1 := says_any (bytes_alloc hb hB (.cells #[.slice A l.length c, .bool false] 31)) hr (by simp; omega) (by omega) hc hm
      generalize saysF l = v at *
      go_enter Try.func15, Try.ntmps15
      go_wp2_with (first | (go_at_call 20; refine (S1).mono ?_; rintro e w1 ⟨rfl, hb⟩; obtain ⟨hS, hE, hz, hc, hf⟩ := bcell hb; (try simp only [go_sem] at hE); subst hE) | (refine wp_region_quiet_below (by kernel_rfl) (by kernel_rfl) ?_; (repeat (first | go_big_quiet_step ((first | (go_at_call 20; exact Calls.regrown_of (S1)))) | quiet_step ((first | (go_at_call 20; exact Calls.regrown_of (S1)))))); refine wpQuiet_nil ?_; intro w1 hw1; have hb := below_of_regrown hw1; clear hw1; obtain ⟨hS, hE, hz, hc, hf⟩ := bcell hb; (try simp only [go_sem] at hE); subst hE))
      go_ret
      exact ⟨rfl, (by repeat' (first | (with_reducible exact Below.refl _ _) | (with_reducible refine below_drewN ?_ _) | (with_reducible refine Below.drew ?_) | (with_reducible refine Below.alloc ?_ ?_ _) | (with_reducible refine Below.setCell ?_ ?_ _) | (with_reducible refine below_step ?_ (by assumption) ?_) | go_size))⟩
/-- What a feed is behind any bytes, and what is told. -/
def feedF (fb : List Int) (sh : Bool) (b : List Int) : List (List Int) × List Int × Bool := if sh = true then ([], fb, true) else cutF (fb ++ b)
def FeedPost (w : World) (r : List (List Int) × List Int × Bool) (e : Ending) (w' : World) : Prop :=
  ∃ A c At ct, e = .returned (.tuple #[.agg #[.slice A r.2.1.length c, .bool r.2.2], .slice At r.1.length ct]) ∧ OB w' w.heap.size A r.2.1.length r.2.1 ∧ r.2.1.length ≤ c ∧ c ≤ maxLen ∧ Pieces w' w.heap.size At r.1.length ct r.1 ∧ Below w.heap.size w w'
set_option maxHeartbeats 1000000 in
theorem feed_any {A A2 : Option Addr} {n c n2 c2 : Nat} {l l2 : List Int} {B : Nat} (hb : Bytes w B A n l) (hb2 : Bytes w B A2 n2 l2) (hr : ∀ x ∈ l, 0 ≤ x ∧ x ≤ 255) (hr2 : ∀ x ∈ l2, 0 ≤ x ∧ x ≤ 255) (hB : B ≤ w.heap.size) (hc : n ≤ c) (hm : n + n2 ≤ 100000000) (h : rightF l) :
    Calls Try.prog 13 #[.agg #[.slice A n c, .bool false], .slice A2 n2 c2] w (FeedPost w (cutF (l ++ l2))) := by
  have hl := hb.1
  subst hl
  have hl2 := hb2.1
  subst hl2
  have hr3 : ∀ x ∈ l ++ l2, 0 ≤ x ∧ x ≤ 255 := fun x hx => by
    rcases List.mem_append.1 hx with h | h
    · exact hr x h
    · exact hr2 x h
  have HR3 := hide hr3
  clear hr3
  go_enter Try.func13, Try.ntmps13
  go_wp2_with (first | (go_at_call 15; refine (right_any (bytes_alloc (bytes_alloc hb hB _) (by simp; omega) _) hr (by simp; omega) hc (by omega) h).mono ?_; rintro e w1 ⟨rfl, hb1⟩; obtain ⟨hS1, hE1, hz1, hc1, hf1⟩ := bcell hb1; (try simp only [go_sem] at hE1); subst hE1; have hbb := bytes_alloc (bytes_below (bytes_alloc (bytes_alloc hb hB _) (by simp; omega) _) hb1 (by simp; omega)) (by omega) (.cells #[] 5); have hbb2 := bytes_alloc (bytes_below (bytes_alloc (bytes_alloc hb2 hB _) (by simp; omega) _) hb1 (by simp; omega)) (by omega) (.cells #[] 5); have own0 := own_empty w1 5) | (at_builtin; refine app_u8_0 rfl (.tmp 21) (.tmp 23) rfl w1.heap.size _ 0 rfl own0 B A l.length c l rfl hbb (by omega) (by simp) ?_; intro A3 c3 w2 hown2 hgrow2 hbel2 hcap2 hcm2; have hbb3 := bytes_below hbb2 hbel2 (by omega); have hz2 : w1.heap.size + 1 ≤ w2.heap.size := (by have := hbel2.size; simp at this; exact this)) | (at_builtin; refine app_u8 rfl (.tmp 24) (.tmp 25) rfl w1.heap.size A3 _ c3 l rfl hown2 B A2 l2.length c2 l2 rfl hbb3 (by omega) (by omega) ?_; intro A4 c4 w3 hown3 hgrow3 hbel3 hcap3 hcm3; have hz3 := hbel3.size))
  have hcut : CutSt (w3.alloc (.cells #[.slice A4 (l.length + l2.length) c4, .bool false, .slice none 0 0] 45)) w3.heap.size w1.heap.size (l ++ l2) false [] := by
    refine ⟨A4, c4, none, 0, ?_, by omega, ?_, by rw [List.length_append]; exact hcap3, hcm3, pieces_nil _ _⟩
    · rw [List.length_append]; exact heap_alloc_new w3 _
    · rw [List.length_append]; exact ob_keep (ob_of_own hown3) (keepT_alloc w3 _ _)
  have hb13 : Below w1.heap.size w1 w3 := (((Below.refl _ _).alloc (Nat.le_refl _) _).trans hbel2).trans hbel3
  refine (until_any hcut (by rw [List.length_append]; omega) (by simp) HR3.out (by simp; omega)).mono ?_
  rintro e w5 ⟨rfl, hcs, hb5⟩
  rw [List.nil_append] at hcs
  clear hcut
  unfold FeedPost
  have hlen := (cutF_len (l ++ l2)).1
  rw [List.length_append] at hlen
  generalize cutF (l ++ l2) = r at *
  obtain ⟨rt, rb, rs⟩ := r
  dsimp only at hcs hlen ⊢
  obtain ⟨Ab, cb, At, ct, q1, q2, q3, q4, q5, q6⟩ := hcs
  obtain ⟨g0, g1, g2, g3, g4, g5, g6⟩ := cb_facts q1
  have hb15 : Below w1.heap.size w1 w5 := (hb13.alloc (by omega) _).trans hb5
  have hz5 : w1.heap.size ≤ w5.heap.size := hb15.size
  have hz35 : w3.heap.size + 1 ≤ w5.heap.size := by have := hb5.size; simp at this; exact this
  have own5 := own_empty w5 5
  have hbb5 := bytes_alloc (ob_bytes q3) (Nat.le_refl _) (.cells #[] 5)
  have H2 := hide hown2
  have H3 := hide hown3
  have HW0 := hide hb1
  generalize hgg : w3.heap.size = g at *
  clear hc1 hf1 hbb hbb2 hbb3 own0 hown2 hgrow2 hbel2 hown3 hgrow3 hbel3 H2 H3 hb13 hb5 hb1 hr hr2 h
  go_wp2_with (at_builtin; refine app_u8_0 rfl (.tmp 34) (.tmp 39) rfl w5.heap.size _ 0 rfl own5 w5.heap.size Ab rb.length cb rb rfl hbb5 (by omega) (by simp) ?_; intro A6 c6 w6 hown6 hgrow6 hbel6 hcap6 hcm6; have hb56 : Below w5.heap.size w5 w6 := ((Below.refl _ _).alloc (Nat.le_refl _) _).trans hbel6; have hz6 := hb56.size; obtain ⟨k0, k1, k2, k3, k4, k5, k6⟩ := cb_facts (keepT_below hb56 (Nat.le_refl _) 45 _ _ _ q1))
  have hB6 : Below (w.heap.size + 2) ((w.alloc (.cells #[.slice A l.length c, .bool false] 31)).alloc (.cells #[.slice none 0 0, .bool false] 31)) w6 :=
    (HW0.out.mono (by simp)).trans ((hb15.mono (by omega)).trans (hb56.mono (by omega)))
  have res0 : w6.cell? ⟨w.heap.size + 1, 0, none⟩ = some (.slice none 0 0) := (hB6.cell (p := ⟨w.heap.size + 1, 0, none⟩) (by simp)).trans (by go_simp)
  have res1 : w6.cell? ⟨w.heap.size + 1, 1, none⟩ = some (.bool false) := (hB6.cell (p := ⟨w.heap.size + 1, 1, none⟩) (by simp)).trans (by go_simp)
  have fre0 : w6.frozen? ⟨w.heap.size + 1, 0, none⟩ = false := (hB6.frozen (p := ⟨w.heap.size + 1, 0, none⟩) (by simp)).trans (by go_simp)
  have fre1 : w6.frozen? ⟨w.heap.size + 1, 1, none⟩ = false := (hB6.frozen (p := ⟨w.heap.size + 1, 1, none⟩) (by simp)).trans (by go_simp)
  have HB6 : Hid (Below w.heap.size w w6) := hide ((((Below.refl _ _).alloc (Nat.le_refl _) _).alloc (by simp) _).trans (hB6.mono (by omega)))
  have s0 := cb_set0 (keepT_below hb56 (Nat.le_refl _) _ _ _ _ q1) A6 rb.length c6
  have kk : ∀ t, 45 ≠ t → KeepT w6 (w6.setCell ⟨g, 0, none⟩ (.slice A6 rb.length c6)) t := fun t ht => keepT_set (keepT_below hb56 (Nat.le_refl _) 45 _ _ _ q1) ht _ _
  have OO : Hid (OB (w6.setCell ⟨g, 0, none⟩ (.slice A6 rb.length c6)) w.heap.size A6 rb.length rb) := hide (ob_keep (ob_base (ob_of_own hown6) (by omega)) (kk _ (by decide)))
  have PP : Hid (Pieces (w6.setCell ⟨g, 0, none⟩ (.slice A6 rb.length c6)) w.heap.size At rt.length ct rt) := hide (pieces_keep (pieces_base q6 (by omega)) ((keepT_below hb56 (Nat.le_refl _) _).trans (kk _ (by decide))) ((keepT_below hb56 (Nat.le_refl _) _).trans (kk _ (by decide))))
  have BB : Hid (Below w.heap.size w (w6.setCell ⟨g, 0, none⟩ (.slice A6 rb.length c6))) := hide (HB6.out.setCell (by show w.heap.size ≤ g; omega) _)
  obtain ⟨t0, t1, t2, t3, t4, t5, t6⟩ := cb_facts s0
  have hne : ∀ j k : Nat, (⟨w.heap.size + 1, j, none⟩ : Addr) ≠ ⟨g, k, none⟩ := fun j k e => by injection e with e; omega
  have hne := fun j k => (hne j k).symm
  have blk6 : w6.heap[w.heap.size + 1]? = some (.cells #[.slice none 0 0, .bool false] 31 (0, 0)) := (hB6.block (w.heap.size + 1) (by omega)).trans (by have := heap_alloc_new (w.alloc (.cells #[.slice A l.length c, .bool false] 31)) (.cells #[.slice none 0 0, .bool false] 31); simpa using this)
  have blkW : (w6.setCell ⟨g, 0, none⟩ (.slice A6 rb.length c6)).heap[w.heap.size + 1]? = some (.cells #[.slice none 0 0, .bool false] 31 (0, 0)) := (Below.heap_setCell w6 ⟨g, 0, none⟩ _ _ (by show w.heap.size + 1 ≠ g; omega)).trans blk6
  have HBLK := hide blkW
  clear blk6 blkW
  have u0 := (World.cell?_setCell_other w6 ⟨g, 0, none⟩ ⟨w.heap.size + 1, 0, none⟩ (.slice A6 rb.length c6) (hne 0 0)).trans res0
  have u1 := (World.cell?_setCell_other w6 ⟨g, 0, none⟩ ⟨w.heap.size + 1, 1, none⟩ (.slice A6 rb.length c6) (hne 1 0)).trans res1
  have v0 : (w6.setCell ⟨g, 0, none⟩ (.slice A6 rb.length c6)).frozen? ⟨w.heap.size + 1, 0, none⟩ = false := by go_simp
  have v1 : (w6.setCell ⟨g, 0, none⟩ (.slice A6 rb.length c6)).frozen? ⟨w.heap.size + 1, 1, none⟩ = false := by go_simp
  clear res0 res1 fre0 fre1 hB6 kk s0 hbb5 hown6 hgrow6 hbel6 hb56 k0 k1 k2 k3 k4 k5 k6 g0 g1 g2 g3 g4 g5 g6 own5 q1 q3 q6 hb15 HB6 hne
  generalize w6.setCell ⟨g, 0, none⟩ (.slice A6 rb.length c6) = W at *
  go_region
  go_wp2
  have kf := fun t ht => keepT_set2 HBLK.out (t := t) ht 0 1 (.slice A6 rb.length c6) (.bool rs)
  refine bodyPost_ret (v := .tuple #[.agg #[.slice A6 rb.length c6, .bool rs], .slice At rt.length ct]) ?_ rfl ⟨A6, c6, At, ct, rfl, ob_keep OO.out (kf _ (by decide)), hcap6, hcm6, pieces_keep PP.out (kf _ (by decide)) (kf _ (by decide)), ?_⟩
  · simp only [results, Try.results13]
    go_simp
  · have hW := BB.out
    exact (by repeat' (first | (with_reducible exact Below.refl _ _) | (with_reducible refine below_drewN ?_ _) | (with_reducible refine Below.drew ?_) | (with_reducible refine Below.alloc ?_ ?_ _) | (with_reducible refine Below.setCell ?_ ?_ _) | (with_reducible refine below_step ?_ (by assumption) ?_) | go_size))
end
end Go.Proofs.Ytmnkgmadogkjbaa.Frame
