/- For all lists of pieces the law 'FramePieces' returns true. No condition. -/
import Derived.Test.YtmnkgmadogkjbaaFrmE
import Derived.Test.YtmnkgmadogkjbaaApart
import Derived.Deep.RegionWith
namespace Go.Proofs.Ytmnkgmadogkjbaa.FramePieces
open Go.ChangeShapes Go.WideShapes Go.ChangeAt Go.RowKit Go.Proofs.Ytmnkgmadogkjbaa.Kit Go.Proofs.Ytmnkgmadogkjbaa.Mem Go.Proofs.Ytmnkgmadogkjbaa.Pack Go.Proofs.Ytmnkgmadogkjbaa.Frame Go.Joins
set_option linter.unusedVariables false
theorem flat_le (ls : List (List Int)) : ls.flatten.length + ls.length ≤ sizeF ls := by
  induction ls with
  | nil => simp [sizeF]
  | cons p ls ih =>
    unfold sizeF at ih ⊢
    simp only [List.flatten_cons, List.length_append, List.map_cons, List.sum_cons, List.length_cons]
    omega
theorem flat_take (ls : List (List Int)) (k : Nat) (hk : k < ls.length) : (ls.take (k + 1)).flatten = (ls.take k).flatten ++ ls.getD k [] := by
  rw [List.take_succ_eq_append_getElem hk, List.flatten_append]
  simp [List.getD_eq_getElem?_getD, List.getElem?_eq_getElem hk]
/-- What feeding a piece tells, and leaves. -/
def fedF (bf : List Int) (sh : Bool) (l : List Int) : List (List Int) × List Int × Bool := if sh = true then ([], bf, true) else cutF (bf ++ l)
theorem fedF_step (a l : List Int) (td : List (List Int)) (bf : List Int) (sh : Bool) (h : cutF a = (td, bf, sh)) :
    cutF (a ++ l) = (td ++ (fedF bf sh l).1, (fedF bf sh l).2) := by
  rw [cutF_pieces, h]
  unfold fedF
  cases sh <;> simp
theorem fedF_len (bf l : List Int) (sh : Bool) : (fedF bf sh l).1.length ≤ bf.length + l.length ∧ (fedF bf sh l).2.1.length ≤ bf.length + l.length := by
  unfold fedF
  split
  · simp
  · have := cutF_len (bf ++ l); simp only [List.length_append] at this; omega
theorem feed_all {w : World} {A A2 : Option Addr} {n c n2 c2 : Nat} {a l l2 : List Int} {td : List (List Int)} {sh : Bool} {B : Nat} (hcut : cutF a = (td, l, sh)) (ha : ∀ x ∈ a, 0 ≤ x ∧ x ≤ 255)
    (hb : Bytes w B A n l) (hb2 : Bytes w B A2 n2 l2) (hr2 : ∀ x ∈ l2, 0 ≤ x ∧ x ≤ 255) (hB : B ≤ w.heap.size) (hc : n ≤ c) (hm : n + n2 ≤ 100000000) :
    Calls Try.prog 13 #[.agg #[.slice A n c, .bool sh], .slice A2 n2 c2] w (FeedPost w (fedF l sh l2)) := by
  cases sh with
  | true =>
    unfold fedF
    rw [if_pos rfl]
    exact feed_shut hb hB hc (by omega)
  | false =>
    unfold fedF
    rw [if_neg (by decide)]
    have h1 := cutF_left a
    have h2 := cutF_mem a
    rw [hcut] at h1 h2
    exact feed_any hb hb2 (fun x hx => ha x (h2 x hx)) hr2 hB hc hm (h1 rfl)
/-- What stands behind the call of Feed and the store of what it gave. -/
def Mid (w5 V : World) (g : Nat) (A6 : Option Addr) (c6 : Nat) (rb : List Int) (rs : Bool) (At6 : Option Addr) (ct6 : Nat) (rt : List (List Int)) : Prop :=
  KeepT w5 V 5 ∧ KeepT w5 V 25 ∧ V.heap[g]? = some (.cells #[.slice A6 rb.length c6, .bool rs] 31) ∧ OB V w5.heap.size A6 rb.length rb ∧ Pieces V w5.heap.size At6 rt.length ct6 rt ∧ w5.heap.size ≤ V.heap.size ∧ Below g w5 V
section
variable {w5 w6 : World} {g : Nat} {A6 : Option Addr} {c6 : Nat} {rb : List Int} {rs : Bool} {At6 : Option Addr} {ct6 : Nat} {rt : List (List Int)} {x y : Value}
theorem mid_of {V : World} (hB5 : V.heap[g]? = some (.cells #[x, y] 31 (0, 0))) (k1 : KeepT w5 V 5) (k2 : KeepT w5 V 25) (hob : OB V w5.heap.size A6 rb.length rb) (hp : Pieces V w5.heap.size At6 rt.length ct6 rt) (hz : w5.heap.size ≤ V.heap.size) (hb : Below g w5 V) :
    Mid w5 ((V.setCell ⟨g, 0, none⟩ (.slice A6 rb.length c6)).setCell ⟨g, 1, none⟩ (.bool rs)) g A6 c6 rb rs At6 ct6 rt := by
  have kf := fun t ht => keepT_set2 hB5 (t := t) ht 0 1 (.slice A6 rb.length c6) (.bool rs)
  exact ⟨k1.trans (kf _ (by decide)), k2.trans (kf _ (by decide)), box_set hB5 _ _, ob_keep hob (kf _ (by decide)), pieces_keep hp (kf _ (by decide)) (kf _ (by decide)), by simpa using hz, (hb.setCell (p := ⟨g, 0, none⟩) (Nat.le_refl _) _).setCell (p := ⟨g, 1, none⟩) (Nat.le_refl _) _⟩
theorem mid1 (hg : g < w5.heap.size) (hB5 : w5.heap[g]? = some (.cells #[x, y] 31 (0, 0))) (hb6 : Below w5.drew.heap.size w5.drew w6) (hob : OB w6 w5.drew.heap.size A6 rb.length rb) (hp : Pieces w6 w5.drew.heap.size At6 rt.length ct6 rt) (o : Obj) :
    Mid w5 (((w6.alloc o).setCell ⟨g, 0, none⟩ (.slice A6 rb.length c6)).setCell ⟨g, 1, none⟩ (.bool rs)) g A6 c6 rb rs At6 ct6 rt := by
  have hz : w5.heap.size ≤ w6.heap.size := hb6.size
  have kk : ∀ t, KeepT w5 (w6.alloc o) t := fun t => ((keepT_drew w5 t).trans (keepT_below hb6 (Nat.le_refl _) t)).trans (keepT_alloc _ _ _)
  exact mid_of ((Below.heap_alloc w6 o g (by omega)).trans ((hb6.block g hg).trans hB5)) (kk _) (kk _) (ob_keep hob (keepT_alloc _ _ _)) (pieces_keep hp (keepT_alloc _ _ _) (keepT_alloc _ _ _)) (by simp; omega)
    ((((Below.refl g w5).drew).trans (hb6.mono (Nat.le_of_lt hg))).alloc (by omega) _)
theorem mid2 (hg : g < w5.heap.size) (hB5 : w5.heap[g]? = some (.cells #[x, y] 31 (0, 0))) {u v : Value}
    (hb6 : Below (w5.alloc (.cells #[u, v] 31)).drew.heap.size (w5.alloc (.cells #[u, v] 31)).drew w6) (hob : OB w6 (w5.alloc (.cells #[u, v] 31)).drew.heap.size A6 rb.length rb) (hp : Pieces w6 (w5.alloc (.cells #[u, v] 31)).drew.heap.size At6 rt.length ct6 rt) (p q : Value) :
    Mid w5 ((((w6.setCell ⟨w5.heap.size, 0, none⟩ p).setCell ⟨w5.heap.size, 1, none⟩ q).setCell ⟨g, 0, none⟩ (.slice A6 rb.length c6)).setCell ⟨g, 1, none⟩ (.bool rs)) g A6 c6 rb rs At6 ct6 rt := by
  have hsz : (w5.alloc (.cells #[u, v] 31)).drew.heap.size = w5.heap.size + 1 := by simp [World.drew]
  rw [hsz] at hb6 hob hp
  have hz : w5.heap.size + 1 ≤ w6.heap.size := by have := hb6.size; rw [hsz] at this; exact this
  have hq : w6.heap[w5.heap.size]? = some (.cells #[u, v] 31 (0, 0)) := (hb6.block w5.heap.size (by omega)).trans (heap_alloc_new w5 _)
  have kf := fun t ht => keepT_set2 hq (t := t) ht 0 1 p q
  have k0 : ∀ t, KeepT w5 w6 t := fun t => ((keepT_alloc w5 _ t).trans (keepT_drew _ t)).trans (keepT_below hb6 (by rw [hsz]; exact Nat.le_refl _) t)
  have e1 : ((w6.setCell ⟨w5.heap.size, 0, none⟩ p).setCell ⟨w5.heap.size, 1, none⟩ q).heap[g]? = some (.cells #[x, y] 31 (0, 0)) := by
    rw [Below.heap_setCell _ _ _ g (by dsimp only; omega), Below.heap_setCell _ _ _ g (by dsimp only; omega), hb6.block g (by omega)]
    exact (Below.heap_alloc w5 _ g hg).trans hB5
  exact mid_of e1 ((k0 _).trans (kf _ (by decide))) ((k0 _).trans (kf _ (by decide))) (ob_keep (ob_base hob (by omega)) (kf _ (by decide))) (pieces_keep (pieces_base hp (by omega)) (kf _ (by decide)) (kf _ (by decide))) (by simp; omega)
    ((((((Below.refl g w5).alloc (Nat.le_of_lt hg) _).drew).trans (hb6.mono (by omega))).setCell (p := ⟨w5.heap.size, 0, none⟩) (Nat.le_of_lt hg) _).setCell (p := ⟨w5.heap.size, 1, none⟩) (Nat.le_of_lt hg) _)
end
theorem bytes_up {w : World} {B B2 : Nat} {A : Option Addr} {n : Nat} {l : List Int} (h : Bytes w B A n l) (hB : B ≤ B2) : Bytes w B2 A n l :=
  ⟨h.1, fun h0 => by obtain ⟨b, off, e, h2, h3⟩ := h.2 h0; exact ⟨b, off, e, Nat.lt_of_lt_of_le h2 hB, h3⟩⟩
set_option maxRecDepth 100000 in
set_option maxHeartbeats 2000000 in
theorem walk {w : World} {A : Option Addr} {n c B : Nat} {ls : List (List Int)} (h : BRows w B A n ls) (hB : B ≤ w.heap.size) (hn : n ≤ 140737488351232) (hr : ∀ l ∈ ls, (∀ x ∈ l, 0 ≤ x ∧ x ≤ 255) ∧ l.length ≤ 140737488351232) :
    Calls Try.prog 4 #[.slice A n c] w fun e w' => e = .returned (.bool true) ∧ Below w.heap.size w w' := by
  have e1 := h.1
  subst e1
  have hget : ∀ j, j < ls.length → ls.getD j [] ∈ ls := fun j hj => by rw [List.getD_eq_getElem?_getD, List.getElem?_eq_getElem hj]; exact List.getElem_mem hj
  have hsz := size_any (c := c) h (by omega) (fun j hj => (hr _ (hget j hj)).2)
  have HR := hide hr
  have HG := hide hget
  clear hr hget
  go_enter Try.func4, Try.ntmps4
  go_wp2_with (go_at_call 6; refine hsz.mono ?_; rintro e w1 ⟨⟨v, rfl, hv⟩, rfl⟩)
  · clear hsz hv
    go_wp2_with ((go_at_call 7; refine (lives_any _).mono ?_; rintro e w1 ⟨rfl, hb⟩; obtain ⟨hS, hE, hz, hc, hf⟩ := bcell hb; (try simp only [go_sem] at hE); subst hE))
    go_ret
    exact ⟨rfl, (by repeat' (first | (with_reducible exact Below.refl _ _) | (with_reducible refine below_drewN ?_ _) | (with_reducible refine Below.drew ?_) | (with_reducible refine Below.alloc ?_ ?_ _) | (with_reducible refine Below.setCell ?_ ?_ _) | (with_reducible refine below_step ?_ (by assumption) ?_) | go_size))⟩
  · obtain rfl : v = sizeF ls := by omega
    have HL := hide (show sizeF ls ≤ 5000 by omega)
    clear hsz hv
    go_wp2
    have hu8 : ∀ k, ∀ x ∈ (ls.take k).flatten, 0 ≤ x ∧ x ≤ 255 := by
      intro k x hx
      obtain ⟨l, hl, hx⟩ := List.mem_flatten.1 hx
      exact (HR.out l (List.mem_of_mem_take hl)).1 x hx
    have hfl : ∀ k, (ls.take k).flatten.length ≤ 5000 := fun k => by have := flat_le (ls.take k); have := sizeF_le ls k; have := HL.out; omega
    have HU := hide hu8
    have HFL := hide hfl
    clear hu8 hfl
    go_loopw [3, 4, 6] (fun a t i wr => ∃ (k : Nat) (A2 : Option Addr) (n2 c2 : Nat) (At : Option Addr) (nt ct : Nat) (A3 : Option Addr) (c3 : Nat) (td : List (List Int)) (bf : List Int) (sh : Bool), k ≤ ls.length ∧ a = .slice A2 n2 c2 ∧ t = .slice At nt ct ∧ i = .int .i64 k ∧
      wr.ownsRow (w.heap.size + 1) 5 1 (.slice A2 n2 c2) n2 (BV (ls.take k).flatten) ∧ PX wr (w.heap.size + 1) (Value.ownBlock (.slice A2 n2 c2)) At nt ct td ∧
      wr.heap[w.heap.size]? = some (.cells #[.slice A3 bf.length c3, .bool sh] 31) ∧ OB wr (w.heap.size + 1) A3 bf.length bf ∧ Apart (Value.ownBlock (.slice A2 n2 c2)) bf.length A3 ∧ bf.length ≤ c3 ∧ c3 ≤ maxLen ∧ cutF (ls.take k).flatten = (td, bf, sh) ∧ Below w.heap.size w wr) (fun _ _ i _ => ls.length - (intOf i).toNat)
    case atStart => exact ⟨0, none, 0, 0, none, 0, 0, none, 0, [], [], false, Nat.zero_le _, rfl, rfl, rfl, World.ownsRow_nil _ _ _ _, px_nil _ _ _, heap_alloc_new w _, ob_nil _ _ _, fun h => absurd h (by simp), Nat.le_refl _, Nat.zero_le _, by rw [List.take_zero, List.flatten_nil, cutF_few [] (by decide)], (by repeat' (first | (with_reducible exact Below.refl _ _) | (with_reducible refine below_drewN ?_ _) | (with_reducible refine Below.drew ?_) | (with_reducible refine Below.alloc ?_ ?_ _) | (with_reducible refine Below.setCell ?_ ?_ _) | (with_reducible refine below_step ?_ (by assumption) ?_) | go_size))⟩
    case round =>
      obtain ⟨k, A2, n2, c2, At, nt, ct, A3, c3, td, bf, sh, hk, rfl, rfl, rfl, hown, hpx, hblk, hob, hap, hc3, hm3, hcut, hbw⟩ := hrel
      have hzw : w.heap.size + 1 ≤ wr.heap.size := lt_of_blk hblk
      have hlen : n2 = (ls.take k).flatten.length := by have := hown.1; rw [BV, List.length_map] at this; omega
      have hfk := HFL.out k
      have hn2 : n2 ≤ 5000 := by omega
      have hcl := cutF_len (ls.take k).flatten
      rw [hcut] at hcl
      dsimp only at hcl
      have hbl : bf.length ≤ 5000 := by omega
      have htl : nt ≤ 5000 := by have := hpx.1; omega
      by_cases hlt : k < ls.length
      · obtain ⟨_, f, hr, hf⟩ := brows_below h hbw hB
        obtain ⟨b, off, rfl, hblk1, hcell⟩ := hr (by omega)
        have e1 : wr.cell? ⟨b, off + k, none⟩ = some (.slice (f k).1 (f k).2.1 (f k).2.2) := hcell k hlt
        obtain ⟨q1, q2, q3⟩ := hf k hlt
        obtain ⟨u1, u2⟩ := HR.out _ (HG.out k hlt)
        have hle2 : (ls.getD k []).length ≤ 5000 := by have := sizeF_take ls k hlt; have := sizeF_le ls (k + 1); have := HL.out; omega
        have HFT := hide (flat_take ls k hlt)
        have HST := hide (fedF_step _ (ls.getD k []) _ _ _ hcut)
        have hfd := fedF_len bf (ls.getD k []) sh
        have hfv : (f k).2.1 = (ls.getD k []).length := q3.1.symm
        have HCUT := hide hcut
        have HX := hide u1
        have HQ := hide q3
        have HO := hide hown
        have HP := hide hpx
        have HOB := hide hob
        have HAP := hide hap
        have HBLK := hide hblk
        have HM3 := hide hm3
        clear hcell hf hr q1 q2 u1 u2 q3 hcut hcl hown hpx hob hap hm3 hlen
        generalize ls.getD k [] = l at *
        generalize f k = v at *
        obtain ⟨v1, vn, vc⟩ := v
        dsimp only at *
        subst hfv
        go_wp2_with (at_builtin; refine app_at rfl (.tmp 22) (.tmp 26) rfl (w.heap.size + 1) A2 n2 c2 _ rfl HO.out B v1 _ vc _ rfl HQ.out (by omega) hzw ?_; intro A5 c5 w5 hown5 hgrow5 hat5 hbel5 hcap5 hcm5; have hz5 : wr.heap.size ≤ w5.heap.size := hgrow5.size)
        have hblk5 : w5.heap[w.heap.size]? = some (.cells #[.slice A3 bf.length c3, .bool sh] 31) := (hbel5.block w.heap.size (by omega)).trans HBLK.out
        obtain ⟨d1, d2, d3, d4⟩ := box_cells hblk5
        have e5 : w5.cell? ⟨b, off + k, none⟩ = some (.slice v1 l.length vc) := (hbel5.cell (p := ⟨b, off + k, none⟩) (by dsimp only; omega)).trans e1
        have ob5 := ob_grown HOB.out HAP.out hgrow5
        have ap5 := apart_grown HOB.out HAP.out hat5
        have px5 := px_grown HP.out HO.out hgrow5 rfl hat5
        have P : ∀ w', Below w5.heap.size w5 w' → Calls Try.prog 13 #[.agg #[.slice A3 bf.length c3, .bool sh], .slice v1 l.length vc] w' (FeedPost w' (fedF bf sh l)) := fun w' hb' =>
          feed_all HCUT.out (HU.out k) (bytes_below (ob_bytes ob5) hb' (Nat.le_refl _)) (bytes_below (bytes_up (bytes_below HQ.out hbel5 (by omega)) (show B ≤ w5.heap.size by omega)) hb' (Nat.le_refl _)) HX.out hb'.size hc3 (by omega)
        have hown5' := hide hown5
        unfold FeedPost at P
        generalize fedF bf sh l = r at *
        obtain ⟨rt, rb, rs⟩ := r
        dsimp only at P hfd
        have HPF := hide P
        have HST2 := HST.out
        dsimp only at HST2
        have HS2 := hide HST2
        have HB5 := hide hblk5
        have HOB5 := hide ob5
        have HAP5 := hide ap5
        have HPX5 := hide px5
        have HBEL := hide hbel5
        have HAT := hide hat5
        clear P hblk5 HBLK ob5 ap5 px5 HST HST2 hgrow5 HOB HAP HP HO hown5 hat5 e1
        have T1 := HPF.out w5.drew (by repeat' (first | (with_reducible exact Below.refl _ _) | (with_reducible refine below_drewN ?_ _) | (with_reducible refine Below.drew ?_) | (with_reducible refine Below.alloc ?_ ?_ _) | (with_reducible refine Below.setCell ?_ ?_ _) | (with_reducible refine below_step ?_ (by assumption) ?_) | go_size))
        have T2 := HPF.out (w5.alloc (.cells #[.slice none 0 0, .bool false] 31)).drew (by repeat' (first | (with_reducible exact Below.refl _ _) | (with_reducible refine below_drewN ?_ _) | (with_reducible refine Below.drew ?_) | (with_reducible refine Below.alloc ?_ ?_ _) | (with_reducible refine Below.setCell ?_ ?_ _) | (with_reducible refine below_step ?_ (by assumption) ?_) | go_size))
        go_region_with (go_at_call 13; (first | with_reducible refine T1.mono ?_ | with_reducible refine T2.mono ?_); rintro e w6 ⟨A6, c6, At6, ct6, rfl, hob6, hcap6, hcm6, hp6, hb6⟩; obtain ⟨hS6, hE6, hz6, hc6, hf6⟩ := bcell hb6; (try simp only [go_sem] at hE6); subst hE6)
        all_goals
          first
            | have M := mid1 (c6 := c6) (rs := rs) (by omega) HB5.out hb6 hob6 hp6 (.cells #[.slice A6 rb.length c6, .bool rs] 31)
            | have M := mid2 (c6 := c6) (rs := rs) (by omega) HB5.out hb6 hob6 hp6 (.slice A6 rb.length c6) (.bool rs)
          obtain ⟨m1, m2, m3, m4, m5, m6, m7⟩ := M
          have PX1 := hide (px_keep HPX5.out m1 m2)
          have PX2 := hide (px_base (px_of m5 (own_block_lt hown5'.out)) (show w.heap.size + 1 ≤ w5.heap.size by omega))
          have M3 := hide m3
          have M4 := hide m4
          have HOW := hide (own_keepT hown5'.out m1)
          have ap7 := hide (apart_base m4 (own_block_lt hown5'.out))
          have bel6 := hide ((hbw.trans (HBEL.out.mono (by omega))).trans m7)
          have m8 := Nat.le_trans (show w.heap.size + 1 ≤ w5.heap.size by omega) m6
          have nt2 := px_pieces HPX5.out |>.1
          have hsm : nt + rt.length ≤ 1099511627776 := by omega
          clear m1 m2 m3 m4 m5 m6 m7 T1 T2
          go_wp2_with (at_builtin; go_loud (refine app_px rfl (.tmp 38) (.tmp 39) rfl (w.heap.size + 1) _ At nt ct td rfl PX1.out At6 _ ct6 rt rfl PX2.out hsm m8 ?_; intro A7 c7 w7 hpx7 hbel7 hkt7 hcap7 hcm7))
          refine ⟨⟨k + 1, A5, n2 + l.length, c5, A7, nt + rt.length, c7, A6, c6, td ++ rt, rb, rs, by omega, rfl, rfl, by go_num, by rw [HFT.out]; exact own_keepT HOW.out (hkt7 _ (by decide)), hpx7, (hbel7.block w.heap.size (by omega)).trans M3.out, ob_keep (ob_base M4.out (by omega)) (hkt7 _ (by decide)), ap7.out, hcap6, hcm6, by rw [HFT.out]; exact HS2.out, bel6.out.trans (hbel7.mono (by omega))⟩, by simp [intOf]; omega⟩
      · obtain rfl : k = ls.length := by omega
        have hb2 := bytes_of_own hown
        have etd := hpx.1
        subst etd
        have P1 := all_any (c2 := c2) hb2 (HU.out _) (Nat.le_refl _) (by omega)
        unfold AllPost at P1
        rw [hcut] at P1
        dsimp only at P1
        have HPX := hide hpx
        have HOB := hide hob
        have HBLK := hide hblk
        obtain ⟨d1, d2, d3, d4⟩ := box_cells hblk
        clear hown hpx hob hap hcut hcl hb2 hlen hblk
        go_wp2_with (go_at_call 11; (with_reducible refine P1.mono ?_); rintro e w1 ⟨A7, c7, At7, ct7, rfl, ob7, hc7, hm7, hp7, hb1⟩; obtain ⟨hS1, hE1, hz1, hc1, hf1⟩ := bcell hb1; (try simp only [go_sem] at hE1); subst hE1)
        clear P1
        have kV : ∀ t, KeepT wr (w1.alloc (.cells #[.slice A7 bf.length c7, .bool sh] 31)) t := fun t => (keepT_below hb1 (Nat.le_refl _) t).trans (keepT_alloc _ _ _)
        have R1 := hide (pieces_rows (pieces_keep hp7 (keepT_alloc w1 (.cells #[.slice A7 bf.length c7, .bool sh] 31) _) (keepT_alloc w1 (.cells #[.slice A7 bf.length c7, .bool sh] 31) _)))
        have R2 := hide (pieces_rows (px_pieces (px_keep HPX.out (kV _) (kV _))))
        have O1 := hide (ob_bytes (ob_keep HOB.out (kV _)))
        have O2 := hide (ob_bytes (ob_keep ob7 (keepT_alloc w1 (.cells #[.slice A7 bf.length c7, .bool sh] 31) _)))
        clear ob7 hp7 kV HPX HOB HBLK
        have P2 := lives_any (w1.alloc (.cells #[.slice A7 bf.length c7, .bool sh] 31))
        go_wp2_with (go_at_call 7; (with_reducible refine P2.mono ?_); rintro e w2 ⟨rfl, hb2⟩; obtain ⟨hS2, hE2, hz2, hc2', hf2⟩ := bcell hb2; (try simp only [go_sem] at hE2); subst hE2)
        clear P2
        have P3 := same_yes (c := ct7) (c2 := ct) (brows_below R1.out hb2 (Nat.le_refl _)) (brows_below R2.out hb2 (Nat.le_refl _)) hb2.size hb2.size (by omega)
        go_wp2_with (go_at_call 12; (with_reducible refine P3.mono ?_); rintro e w3 ⟨rfl, hb3⟩; obtain ⟨hS3, hE3, hz3, hc3', hf3⟩ := bcell hb3; (try simp only [go_sem] at hE3); subst hE3)
        clear P3
        have P4 := sameFeed_yes (w := w3) (c := c3) (c2 := c7) (s := sh) (bytes_below (bytes_below O1.out hb2 (Nat.le_refl _)) hb3 hb2.size) (bytes_below (bytes_below O2.out hb2 (Nat.le_refl _)) hb3 hb2.size) (Nat.le_trans hb2.size hb3.size) (Nat.le_trans hb2.size hb3.size)
        go_wp2_with (go_at_call 14; (with_reducible refine P4.mono ?_); rintro e w4 ⟨rfl, hb4⟩; obtain ⟨hS4, hE4, hz4, hc4', hf4⟩ := bcell hb4; (try simp only [go_sem] at hE4); subst hE4)
        go_ret
        exact ⟨rfl, (by repeat' (first | (with_reducible exact Below.refl _ _) | (with_reducible refine below_drewN ?_ _) | (with_reducible refine Below.drew ?_) | (with_reducible refine Below.alloc ?_ ?_ _) | (with_reducible refine Below.setCell ?_ ?_ _) | (with_reducible refine below_step ?_ (by assumption) ?_) | go_size))⟩
theorem law : Law Try.checked 4 Try.f4 := by
  intro H enc W base args ds ps hval hA hsz
  have hA1 : DataW.TrodAll enc Try.prog W 0 (fun _ => true) true Try.f4.params.toList args.toList ds ps := hA
  have hw := weightsEach_at (sized_args hsz)
  have hw : ∀ (j : Nat) (t : TypeId) (d : DataW H), Try.f4.params.toList[j]? = some t → ds[j]? = some d → ∀ n ∈ d.weights Try.prog t, n ≤ 140737488351232 := hw
  rw [Try.params4] at hA1 hval hw
  obtain ⟨v0, vs0, d0, ds0, p0, q0, hargs, rfl, rfl, h0, r0⟩ := trodAll_cons hA1
  obtain ⟨rfl, rfl, rfl⟩ := trodAll_nil r0
  obtain rfl : args = #[v0] := by cases args; simp_all
  obtain ⟨A, len, cap, rfl⟩ := okWide_slice Try.underlying22 (hval 0 _ v0 rfl rfl)
  obtain ⟨A', len', cap', ls, e, h1, h2, h3, h4, h5⟩ := rdS_brows (rdS_of h0 (hw 0 _ _ rfl rfl))
  simp only [Value.cells, List.cons.injEq, Value.slice.injEq, and_true] at e
  obtain ⟨rfl, rfl, rfl⟩ := e
  exact walk h4 (Nat.le_refl _) h3 h5

set_option maxRecDepth 100000 in
theorem step (os : Os) (started : os.Started) (H : Type) (enc : TypeId × Value → H) :
    ReturnsInHanded {} Try.checked os 4 .any (Rows.framePiecesSpec.pre6 enc Try.prog Try.f4 Rows.framePiecesRow.domain false) (Rows.framePiecesSpec.post enc Try.prog Try.f4 false true false false) :=
  lifted (C := Try.checked) (s := Rows.framePiecesSpec) own started (by kernel_rfl) Try.func4
    (ChangeSpec.witness6 (enc := enc) (C := Try.checked) false ⟨#[], #[.slice none 0 0], []⟩ 8 (by kernel_rfl) (by kernel_rfl) (by kernel_rfl) (by kernel_rfl))
    laidOut (by kernel_rfl) (by kernel_rfl) Try.underlying4 rfl (fun ds h => by match ds, h with | [d0], _ => rfl) law
set_option maxRecDepth 100000 in
theorem over : Rows.framePiecesRow.holds Try.pinned (OpenSpec.ofChange Rows.framePiecesSpec) :=
  OpenClaim.holds_of_wide 4 Try.f4 rfl rfl rfl rfl rfl rfl rfl ⟨rfl, rfl, rfl, rfl, rfl⟩ rfl rfl rfl rfl rfl (by kernel_rfl) Try.func4 (by kernel_rfl)
    (of_decide_eq_true (by kernel_rfl)) (by unfold Func.isWrapper; first | (rw [if_pos (by decide +kernel)]; kernel_rfl) | (rw [if_neg (by decide +kernel)]; exact ⟨rfl, rfl⟩))
    (fun os started H enc _ => step os started H enc)
theorem proved : Rows.FramePiecesSaid := over
#print axioms proved

end Go.Proofs.Ytmnkgmadogkjbaa.FramePieces
