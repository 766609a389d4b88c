/- What feeding a feed that is shut does; the payloads of bytes; whether lists of payloads are the same. No condition but sizes. -/
import Derived.Test.YtmnkgmadogkjbaaFrmC
import Derived.Outline
namespace Go.Proofs.Ytmnkgmadogkjbaa.Frame
open Go.ChangeShapes Go.WideShapes Go.ChangeAt Go.RowKit Go.Proofs.Ytmnkgmadogkjbaa.Kit Go.Proofs.Ytmnkgmadogkjbaa.Mem Go.Proofs.Ytmnkgmadogkjbaa.Pack Go.Proofs.Ytmnkgmadogkjbaa.Mix Go.Deep
set_option linter.unusedVariables false
section
variable {w : World}
theorem feed_shut {A A2 : Option Addr} {n c n2 c2 : Nat} {l : List Int} {B : Nat} (hb : Bytes w B A n l) (hB : B ≤ w.heap.size) (hc : n ≤ c) (hm : n ≤ 100000000) :
    Calls Try.prog 13 #[.agg #[.slice A n c, .bool true], .slice A2 n2 c2] w (FeedPost w ([], l, true)) := by
  have hl := hb.1
  subst hl
  unfold FeedPost
  dsimp only
  go_enter Try.func13, Try.ntmps13
  go_wp2
  have hbb := bytes_alloc (bytes_alloc (bytes_alloc hb hB (.cells #[.slice A l.length c, .bool true] 31)) (by simp; omega) (.cells #[.slice none 0 0, .bool false] 31)) (by simp; omega) (.cells #[] 5)
  have own0 : (((w.alloc (.cells #[.slice A l.length c, .bool true] 31)).alloc (.cells #[.slice none 0 0, .bool false] 31)).alloc (.cells #[] 5)).drew.ownsRow (w.heap.size + 1 + 1) 5 1 (.slice (some ⟨w.heap.size + 1 + 1, 0, none⟩) 0 0) 0 (BV []) := by
    have := own_empty ((w.alloc (.cells #[.slice A l.length c, .bool true] 31)).alloc (.cells #[.slice none 0 0, .bool false] 31)) 5
    simp only [World.size_alloc] at this
    exact this
  obtain ⟨A4, c4, w2, hrun1, hown1, hgrow1, hbel1, hcap1, hcm1⟩ := run_app_u8 (w := (((w.alloc (.cells #[.slice A l.length c, .bool true] 31)).alloc (.cells #[.slice none 0 0, .bool false] 31)).alloc (.cells #[] 5)).drew) (ty := 25) (w.heap.size + 1 + 1) _ 0 0 [] own0 _ A l.length c _ hbb (by omega) (by simp)
  rw [Nat.zero_add] at hrun1 hown1 hcap1
  rw [List.nil_append] at hown1
  have hB2 : Below (w.heap.size + 1 + 1) ((w.alloc (.cells #[.slice A l.length c, .bool true] 31)).alloc (.cells #[.slice none 0 0, .bool false] 31)) w2 := (((Below.refl _ _).alloc (by simp) _).drew).trans hbel1
  have e0 : w2.cell? ⟨w.heap.size, 0, none⟩ = some (.slice A l.length c) := (hB2.cell (p := ⟨w.heap.size, 0, none⟩) (by simp <;> omega)).trans (by go_simp)
  have e1 : w2.cell? ⟨w.heap.size, 1, none⟩ = some (.bool true) := (hB2.cell (p := ⟨w.heap.size, 1, none⟩) (by simp <;> omega)).trans (by go_simp)
  have r0 : w2.cell? ⟨w.heap.size + 1, 0, none⟩ = some (.slice none 0 0) := (hB2.cell (p := ⟨w.heap.size + 1, 0, none⟩) (by simp)).trans (by go_simp)
  have r1 : w2.cell? ⟨w.heap.size + 1, 1, none⟩ = some (.bool false) := (hB2.cell (p := ⟨w.heap.size + 1, 1, none⟩) (by simp)).trans (by go_simp)
  have f0 : w2.frozen? ⟨w.heap.size + 1, 0, none⟩ = false := (hB2.frozen (p := ⟨w.heap.size + 1, 0, none⟩) (by simp)).trans (by go_simp)
  have f1 : w2.frozen? ⟨w.heap.size + 1, 1, none⟩ = false := (hB2.frozen (p := ⟨w.heap.size + 1, 1, none⟩) (by simp)).trans (by go_simp)
  have blk : w2.heap[w.heap.size + 1]? = some (.cells #[.slice none 0 0, .bool false] 31 (0, 0)) := (hB2.block (w.heap.size + 1) (by omega)).trans (by have := heap_alloc_new (w.alloc (.cells #[.slice A l.length c, .bool true] 31)) (.cells #[.slice none 0 0, .bool false] 31); simpa using this)
  have BB : Hid (Below w.heap.size w w2) := hide ((((Below.refl _ _).alloc (Nat.le_refl _) _).alloc (by simp) _).trans (hB2.mono (by omega)))
  have HBLK := hide blk
  clear blk
  refine wp_region_mix 7 [1, 2, 4, 5] [0, 3, 6] (fun w' => w'.cell? ⟨w.heap.size, 0, none⟩ = some (.slice A l.length c) ∧ w'.cell? ⟨w.heap.size, 1, none⟩ = some (.bool true)) (by kernel_rfl) (by kernel_rfl) (by refine ⟨?_, ?_⟩ <;> go_simp) ?_
  simp only [opsOf, List.filterMap_cons, List.filterMap_nil, List.getElem?_toArray, List.getElem?_cons_zero, List.getElem?_cons_succ]
  repeat (refine wpPure_any (fun K hK => ?_); go_simp; refine hK _ ?_; clear hK K)
  refine wpPure_val (.slice A l.length c) rfl (fun w hw => by obtain ⟨q0, q2⟩ := hw; go_simp) ?_
  repeat (refine wpPure_any (fun K hK => ?_); go_simp; refine hK _ ?_; clear hK K)
  refine wpPure_val (.bool true) rfl (fun w hw => by obtain ⟨q0, q2⟩ := hw; go_simp) ?_
  refine wpPure_nil ?_
  refine wpMid_val (.slice (some ⟨w.heap.size + 1 + 1, 0, none⟩) 0 0) rfl (w' := (((w.alloc (.cells #[.slice A l.length c, .bool true] 31)).alloc (.cells #[.slice none 0 0, .bool false] 31)).alloc (.cells #[] 5)).drew) (by go_simp) (by refine ⟨?_, ?_⟩ <;> go_simp) ?_
  refine wpMid_append rfl (.tmp 14) (.tmp 16) 25 rfl (.slice (some ⟨w.heap.size + 1 + 1, 0, none⟩) 0 0) (.slice A l.length c) (.slice A4 l.length c4) rfl rfl hrun1 ⟨e0, e1⟩ ?_
  refine wpMid_val (.agg #[.slice A4 l.length c4, .bool true]) rfl (w' := w2) (by go_simp) ⟨e0, e1⟩ ?_
  refine wpMid_nil ?_
  simp only [List.drop_succ_cons, List.drop_zero]
  clear hrun1 own0 hbb hgrow1 hbel1 hB2
  go_wp2
  have kf := fun t ht => keepT_set2 HBLK.out (t := t) ht 0 1 (.slice A4 l.length c4) (.bool true)
  refine bodyPost_ret (v := .tuple #[.agg #[.slice A4 l.length c4, .bool true], .slice none 0 0]) ?_ rfl ⟨A4, c4, none, 0, rfl, ob_keep (ob_base (ob_of_own hown1) (by omega)) (kf _ (by decide)), hcap1, hcm1, pieces_nil _ _, ?_⟩
  · simp only [results, Try.results13]
    go_simp
  · have hW := BB.out
    exact (by repeat' (first | (with_reducible exact Below.refl _ _) | (with_reducible refine below_drewN ?_ _) | (with_reducible refine Below.drew ?_) | (with_reducible refine Below.alloc ?_ ?_ _) | (with_reducible refine Below.setCell ?_ ?_ _) | (with_reducible refine below_step ?_ (by assumption) ?_) | go_size))
/-- The payloads of bytes, and what is left. -/
def AllPost (w : World) (r : List (List Int) × List Int × Bool) (e : Ending) (w' : World) : Prop :=
  ∃ A c At ct, e = .returned (.tuple #[.slice At r.1.length ct, .agg #[.slice A r.2.1.length c, .bool r.2.2]]) ∧ OB w' w.heap.size A r.2.1.length r.2.1 ∧ r.2.1.length ≤ c ∧ c ≤ maxLen ∧ Pieces w' w.heap.size At r.1.length ct r.1 ∧ Below w.heap.size w w'
theorem all_any {A2 : Option Addr} {n2 c2 : Nat} {l2 : List Int} {B : Nat} (hb2 : Bytes w B A2 n2 l2) (hr2 : ∀ x ∈ l2, 0 ≤ x ∧ x ≤ 255) (hB : B ≤ w.heap.size) (hm : n2 ≤ 100000000) :
    Calls Try.prog 11 #[.slice A2 n2 c2] w (AllPost w (cutF l2)) := by
  have hl2 := hb2.1
  subst hl2
  have F := fun (w1 : World) (h : Bytes w1 B A2 l2.length l2) (h2 : B ≤ w1.heap.size) => feed_any (c := 0) (c2 := c2) (bytes_nil w1 B none) h (fun x hx => by cases hx) hr2 h2 (Nat.le_refl _) (by omega) (.inl (by simp))
  simp only [List.nil_append] at F
  unfold FeedPost at F
  unfold AllPost
  generalize cutF l2 = r at *
  obtain ⟨rt, rb, rs⟩ := r
  dsimp only at F ⊢
  have HF := hide F
  clear F
  go_enter Try.func11, Try.ntmps11
  go_wp2_with (go_at_call 13; refine (HF.out _ (bytes_alloc hb2 hB _) (by simp; omega)).mono ?_; rintro e w1 ⟨A, c, At, ct, rfl, hob, hcap, hcm, hp, hb1⟩; obtain ⟨hS1, hE1, hz1, hc1, hf1⟩ := bcell hb1; (try simp only [go_sem] at hE1); subst hE1)
  have blk : w1.heap[w.heap.size]? = some (.cells #[.slice none 0 0, .bool false] 31 (0, 0)) := (hb1.block w.heap.size (by simp)).trans (heap_alloc_new w _)
  have HBLK := hide ((Below.heap_alloc w1 (.cells #[.slice A rb.length c, .bool rs] 31) w.heap.size (by omega)).trans blk)
  have hBA := (hb1.alloc (by simp; omega) (.cells #[.slice A rb.length c, .bool rs] 31))
  have OO := ob_keep hob (keepT_alloc w1 (.cells #[.slice A rb.length c, .bool rs] 31) _)
  have PP := pieces_keep hp (keepT_alloc w1 (.cells #[.slice A rb.length c, .bool rs] 31) _) (keepT_alloc w1 (.cells #[.slice A rb.length c, .bool rs] 31) _)
  go_region
  all_goals
    go_wp2
    have kf := fun t ht => keepT_set2 HBLK.out (t := t) ht 0 1 (.slice A rb.length c) (.bool rs)
    refine bodyPost_ret (v := .tuple #[.slice At rt.length ct, .agg #[.slice A rb.length c, .bool rs]]) ?_ rfl ⟨A, c, At, ct, rfl, ob_base (ob_keep OO (kf _ (by decide))) (by simp), hcap, hcm, pieces_base (pieces_keep PP (kf _ (by decide)) (kf _ (by decide))) (by simp), ?_⟩
    · simp only [results, Try.results11]
      go_simp
    · have hW := ((Below.refl w.heap.size w).alloc (Nat.le_refl _) _).trans (hBA.mono (by simp))
      exact (by repeat' (first | (with_reducible exact Below.refl _ _) | (with_reducible refine below_drewN ?_ _) | (with_reducible refine Below.drew ?_) | (with_reducible refine Below.alloc ?_ ?_ _) | (with_reducible refine Below.setCell ?_ ?_ _) | (with_reducible refine below_step ?_ (by assumption) ?_) | go_size))
/-- Two lists of payloads that are the same are told to be. -/
theorem same_yes {A A2 : Option Addr} {n c n2 c2 B B2 : Nat} {ls : List (List Int)} (h : BRows w B A n ls) (h2 : BRows w B2 A2 n2 ls) (hB : B ≤ w.heap.size) (hB2 : B2 ≤ w.heap.size) (hm : n ≤ 100000000) :
    Calls Try.prog 12 #[.slice A n c, .slice A2 n2 c2] w fun e w' => e = .returned (.bool true) ∧ Below w.heap.size w w' := by
  have e1 := h.1
  have e2 := h2.1
  subst e1
  subst e2
  go_enter Try.func12, Try.ntmps12
  go_wp2
  go_loopw [5] (fun i wr => ∃ k : Nat, k ≤ ls.length ∧ i = .int .i64 k ∧ Below w.heap.size w wr) (fun i _ => ls.length - (intOf i).toNat)
  case atStart => exact ⟨0, Nat.zero_le _, rfl, Below.refl _ _⟩
  case round =>
    obtain ⟨k, hk, rfl, hbw⟩ := hrel
    have hz := hbw.size
    by_cases hlt : k < ls.length
    · obtain ⟨_, f, hr, hf⟩ := brows_below h hbw hB
      obtain ⟨_, f2, hr2, hf2⟩ := brows_below h2 hbw hB2
      obtain ⟨b, off, rfl, hblk, hcell⟩ := hr (by omega)
      obtain ⟨b2, off2, rfl, hblk2, hcell2⟩ := hr2 (by omega)
      have c1 : wr.cell? ⟨b, off + k, none⟩ = some (.slice (f k).1 (f k).2.1 (f k).2.2) := hcell k hlt
      have c3 : wr.cell? ⟨b2, off2 + k, none⟩ = some (.slice (f2 k).1 (f2 k).2.1 (f2 k).2.2) := hcell2 k hlt
      obtain ⟨q1, q2, q3⟩ := hf k hlt
      obtain ⟨p1, p2, p3⟩ := hf2 k hlt
      clear hcell hcell2 hf hf2 hr hr2
      have S1 := fun (w' : World) (hb : Below wr.heap.size wr w') => same_any (w := w') (c := (f k).2.2) (c' := (f2 k).2.2) (bytes_below q3 hb (by omega)) (bytes_below p3 hb (by omega))
      have e := sameB_self (ls.getD k [])
      rw [e] at S1
      have HS1 := hide S1
      clear S1 e q3 p3
      generalize f k = v at *
      generalize f2 k = v2 at *
      obtain ⟨v1, vn, vc⟩ := v
      obtain ⟨v21, v2n, v2c⟩ := v2
      dsimp only at *
      go_wp2
      (refine wp_region_quiet_below (by kernel_rfl) (by kernel_rfl) ?_; (repeat (first | go_big_quiet_step ((first | (go_at_call 10; exact Calls.regrown_of (below_of_same (HS1.out _ (below_regrown _ _ _)))))) | quiet_step ((first | (go_at_call 10; exact Calls.regrown_of (below_of_same (HS1.out _ (below_regrown _ _ _)))))))); refine wpQuiet_nil ?_; intro w1 hw1; have hb := below_of_regrown hw1; clear hw1; obtain ⟨hS, hE, hz, hc, hf⟩ := bcell hb; (try simp only [go_sem] at hE); subst hE)
      go_wp2
      go_roundw
      case rel => exact ⟨k + 1, by omega, by go_num, (by repeat' (first | (with_reducible exact Below.refl _ _) | (with_reducible refine below_drewN ?_ _) | (with_reducible refine Below.drew ?_) | (with_reducible refine Below.alloc ?_ ?_ _) | (with_reducible refine Below.setCell ?_ ?_ _) | (with_reducible refine below_step ?_ (by assumption) ?_) | go_size))⟩
      case measure => simp [intOf]; omega
    · obtain rfl : k = ls.length := by omega
      go_wp2
      go_ret
      exact ⟨rfl, hbw⟩
theorem sameFeed_yes {A A2 : Option Addr} {n c n2 c2 B B2 : Nat} {l : List Int} {s : Bool} (h : Bytes w B A n l) (h2 : Bytes w B2 A2 n2 l) (hB : B ≤ w.heap.size) (hB2 : B2 ≤ w.heap.size) :
    Calls Try.prog 14 #[.agg #[.slice A n c, .bool s], .agg #[.slice A2 n2 c2, .bool s]] w fun e w' => e = .returned (.bool true) ∧ Below w.heap.size w w' := by
  have e := sameB_self l
  cases s
  all_goals
    go_enter Try.func14, Try.ntmps14
    go_wp2_with (first | (go_at_call 10; refine ((e ▸ same_any (bytes_alloc (bytes_alloc h hB _) (by simp; omega) _) (bytes_alloc (bytes_alloc h2 hB2 _) (by simp; omega) _))).mono ?_; rintro e w1 ⟨rfl, rfl⟩) | (refine wp_region_quiet_below (by kernel_rfl) (by kernel_rfl) ?_; (repeat (first | go_big_quiet_step ((first | (go_at_call 10; exact Calls.regrown_of (below_of_same ((e ▸ same_any (bytes_alloc (bytes_alloc h hB _) (by simp; omega) _) (bytes_alloc (bytes_alloc h2 hB2 _) (by simp; omega) _))))))) | quiet_step ((first | (go_at_call 10; exact Calls.regrown_of (below_of_same ((e ▸ same_any (bytes_alloc (bytes_alloc h hB _) (by simp; omega) _) (bytes_alloc (bytes_alloc h2 hB2 _) (by simp; omega) _))))))))); refine wpQuiet_nil ?_; intro w1 hw1; have hb := below_of_regrown hw1; clear hw1; obtain ⟨hS, hE, hz, hc, hf⟩ := bcell hb; (try simp only [go_sem] at hE); subst hE))
    go_ret
    exact ⟨rfl, (by repeat' (first | (with_reducible exact Below.refl _ _) | (with_reducible refine below_drewN ?_ _) | (with_reducible refine Below.drew ?_) | (with_reducible refine Below.alloc ?_ ?_ _) | (with_reducible refine Below.setCell ?_ ?_ _) | (with_reducible refine below_step ?_ (by assumption) ?_) | go_size))⟩
/-- How many bytes there are, and how many lists. -/
def sizeF (ls : List (List Int)) : Nat := (ls.map fun l => 1 + l.length).sum
theorem sizeF_take (ls : List (List Int)) (k : Nat) (hk : k < ls.length) : sizeF (ls.take (k + 1)) = sizeF (ls.take k) + (1 + (ls.getD k []).length) := by
  unfold sizeF
  rw [List.take_succ_eq_append_getElem hk, List.map_append, List.sum_append]
  simp [List.getD_eq_getElem?_getD, List.getElem?_eq_getElem hk]
theorem sizeF_le (ls : List (List Int)) (k : Nat) : sizeF (ls.take k) ≤ sizeF ls := by
  unfold sizeF
  have e : ls = ls.take k ++ ls.drop k := (List.take_append_drop k ls).symm
  conv => rhs; rw [e, List.map_append, List.sum_append]
  omega
set_option maxRecDepth 100000 in
/-- What Size tells: the size, or what is greater than 5000. -/
theorem size_any {A : Option Addr} {n c B : Nat} {ls : List (List Int)} (h : BRows w B A n ls) (hm : n ≤ 9223372036854775807) (hsz : ∀ j, j < n → (ls.getD j []).length ≤ 140737488351232) :
    Calls Try.prog 6 #[.slice A n c] w fun e w' => (∃ v : Nat, e = .returned (.int .i64 v) ∧ (v = sizeF ls ∨ 5000 < v)) ∧ w = w' := by
  have e1 := h.1
  subst e1
  obtain ⟨_, f, hr, hf⟩ := h
  have HF := hide hf
  have HZ := hide hsz
  clear hf hsz
  go_enter Try.func6, Try.ntmps6
  go_wp2
  go_loop [3, 4] (fun s i => ∃ k v : Nat, k ≤ ls.length ∧ i = .int .i64 k ∧ s = .int .i64 v ∧ v = sizeF (ls.take k) ∧ v ≤ 300000000000000) (fun _ i => ls.length - (intOf i).toNat)
  case atStart => exact ⟨0, 0, Nat.zero_le _, rfl, rfl, rfl, by omega⟩
  case round =>
    obtain ⟨k, v, hk, rfl, rfl, hv, hv2⟩ := hrel
    have HV := hide hv
    clear hv
    by_cases hlt : k < ls.length
    · by_cases hvl : v < 1099511627776
      · obtain ⟨b, off, rfl, hblk, hcell⟩ := hr (by omega)
        have c1 : w.cell? ⟨b, off + k, none⟩ = some (.slice (f k).1 (f k).2.1 (f k).2.2) := hcell k hlt
        obtain ⟨q1, q2, q3⟩ := HF.out k hlt
        have hs := sizeF_take ls k hlt
        have hz := HZ.out k hlt
        rw [q3.1] at hs hz
        have HS := hide hs
        unfold maxLen at q2
        clear hcell hs q3
        generalize f k = u at *
        obtain ⟨u1, u2, u3⟩ := u
        dsimp only at *
        have g1 : decide ((v : Int) < 1099511627776) = true := decide_eq_true (by omega)
        have g2 : (v : Int) + 1 ≤ 300000000000000 := by omega
        have HL := hide (And.intro hvl hv2)
        have HQ := hide q2
        have g3 : (u2 : Int) ≤ 140737488351232 := by omega
        have HZ2 := hide hz
        clear hvl hv2 q2 q1 hz
        go_wp2
        go_round
        case rel => exact ⟨k + 1, v + (1 + u2), by omega, by go_num, by go_num, by rw [HS.out, ← HV.out], by have := HL.out; have := HZ2.out; omega⟩
        case measure => simp [intOf]; omega
      · have g1 : decide ((v : Int) < 1099511627776) = false := decide_eq_false (by omega)
        have HL := hide hvl
        clear hvl
        go_wp2
        go_ret
        have := HL.out
        exact ⟨⟨v, rfl, .inr (by omega)⟩, rfl⟩
    · obtain rfl : k = ls.length := by omega
      go_wp2
      go_ret
      exact ⟨⟨v, rfl, .inl (by rw [HV.out, List.take_length])⟩, rfl⟩
end
end Go.Proofs.Ytmnkgmadogkjbaa.Frame
