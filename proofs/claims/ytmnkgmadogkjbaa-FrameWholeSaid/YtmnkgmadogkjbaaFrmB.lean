/- What cutting one frame off a feed does. No condition but sizes. -/
import Derived.Test.YtmnkgmadogkjbaaFrmA
import Derived.Test.YtmnkgmadogkjbaaMix
namespace Go.Proofs.Ytmnkgmadogkjbaa.Frame
open Go.ChangeShapes Go.WideShapes Go.ChangeAt Go.RowKit Go.Proofs.Ytmnkgmadogkjbaa.Kit Go.Proofs.Ytmnkgmadogkjbaa.Mem Go.Proofs.Ytmnkgmadogkjbaa.Pack Go.Proofs.Ytmnkgmadogkjbaa.Mix
set_option linter.unusedVariables false
theorem run_app_u8 {w : World} {ty : TypeId} (base : Nat) (A : Option Addr) (n c : Nat) (l : List Int) (hown : w.ownsRow base 5 1 (.slice A n c) n (BV l))
    (B : Nat) (A2 : Option Addr) (m c2 : Nat) (l2 : List Int) (hb : Bytes w B A2 m l2) (hsz : n + m ≤ 140737488355328) (hbase : base ≤ w.heap.size) :
    ∃ A' c' w', (Builtin.append_ #[25, 25] ty #[.slice A n c, .slice A2 m c2]).run Try.prog w = .ok (.slice A' (n + m) c') w' ∧ w'.ownsRow base 5 1 (.slice A' (n + m) c') (n + m) (BV (l ++ l2)) ∧ w.grownBy w' (Value.ownBlock (.slice A n c)) ∧ Below base w w' ∧ n + m ≤ c' ∧ c' ≤ maxLen := by
  obtain ⟨i, hi, h1, h2, h3⟩ := info_parts info_u8
  obtain ⟨A', c', w', k1, k2, k3, k4, k5⟩ := run_append_row (P := Try.prog) w base 25 ty 5 i (.int .u8 0) 1 1 Try.underlying25 hi h1 h2 h3 rfl (by decide) _ n (BV l) hown B A2 m c2 (BV l2) (by simp [BV, hb.1]) (bytes_row hb) (bv_one l2) (by unfold maxLen; omega) (by omega) hbase
  rw [bv_append] at k2
  exact ⟨A', c', w', k1, k2, k3, below_of_own hown k3 hbase, k4, k5⟩
/-- A feed that is cut, in its block. -/
def CB (w : World) (g : Nat) (Ab : Option Addr) (nb cb : Nat) (sh : Bool) (At : Option Addr) (nt ct : Nat) : Prop :=
  w.heap[g]? = some (.cells #[.slice Ab nb cb, .bool sh, .slice At nt ct] 45 (0, 0))
def CutSt (w : World) (g base : Nat) (b : List Int) (sh : Bool) (told : List (List Int)) : Prop :=
  ∃ Ab cb At ct, CB w g Ab b.length cb sh At told.length ct ∧ base ≤ g ∧ OB w base Ab b.length b ∧ b.length ≤ cb ∧ cb ≤ maxLen ∧ Pieces w base At told.length ct told
theorem cb_facts {w : World} {g : Nat} {Ab At : Option Addr} {nb cb nt ct : Nat} {sh : Bool} (h : CB w g Ab nb cb sh At nt ct) : g < w.heap.size ∧ w.cell? ⟨g, 0, none⟩ = some (.slice Ab nb cb) ∧ w.cell? ⟨g, 1, none⟩ = some (.bool sh) ∧ w.cell? ⟨g, 2, none⟩ = some (.slice At nt ct) ∧
    w.frozen? ⟨g, 0, none⟩ = false ∧ w.frozen? ⟨g, 1, none⟩ = false ∧ w.frozen? ⟨g, 2, none⟩ = false := by
  unfold CB at h
  exact ⟨lt_of_blk h, cell_of_row w g 0 _ _ (0, 0) h, cell_of_row w g 1 _ _ (0, 0) h, cell_of_row w g 2 _ _ (0, 0) h, by simp [World.frozen?, h], by simp [World.frozen?, h], by simp [World.frozen?, h]⟩
theorem cb_set0 {w : World} {g : Nat} {Ab At : Option Addr} {nb cb nt ct : Nat} {sh : Bool} (h : CB w g Ab nb cb sh At nt ct) (A : Option Addr) (n c : Nat) : CB (w.setCell ⟨g, 0, none⟩ (.slice A n c)) g A n c sh At nt ct := by
  unfold CB at h ⊢
  simp [World.setCell, Array.getElem?_modify, h]
theorem cb_set1 {w : World} {g : Nat} {Ab At : Option Addr} {nb cb nt ct : Nat} {sh : Bool} (h : CB w g Ab nb cb sh At nt ct) (s : Bool) : CB (w.setCell ⟨g, 1, none⟩ (.bool s)) g Ab nb cb s At nt ct := by
  unfold CB at h ⊢
  simp [World.setCell, Array.getElem?_modify, h]
theorem cb_set2 {w : World} {g : Nat} {Ab At : Option Addr} {nb cb nt ct : Nat} {sh : Bool} (h : CB w g Ab nb cb sh At nt ct) (A : Option Addr) (n c : Nat) : CB (w.setCell ⟨g, 2, none⟩ (.slice A n c)) g Ab nb cb sh A n c := by
  unfold CB at h ⊢
  simp [World.setCell, Array.getElem?_modify, h]
theorem cutst_keep {w w' : World} {g base : Nat} {b : List Int} {sh : Bool} {told : List (List Int)} (h : CutSt w g base b sh told) (hk : ∀ t, KeepT w w' t) : CutSt w' g base b sh told := by
  obtain ⟨Ab, cb, At, ct, h1, h2, h3, h4, h5, h6⟩ := h
  exact ⟨Ab, cb, At, ct, hk _ _ _ _ h1, h2, ob_keep h3 (hk _), h4, h5, pieces_keep h6 (hk _) (hk _)⟩
section
variable {w : World} {g base : Nat} {b : List Int} {told : List (List Int)}
theorem cut_few (h : CutSt w g base b false told) (hl : b.length < 2) : Calls Try.prog 19 #[.pointer (some ⟨g, 0, none⟩)] w fun e w' => e = .returned (.bool false) ∧ CutSt w' g base b false told ∧ Below w.heap.size w w' := by
  have H := hide h
  obtain ⟨Ab, cb, At, ct, h1, h2, h3, h4, h5, h6⟩ := h
  obtain ⟨hg, c0, c1, c2, d0, d1, d2⟩ := cb_facts h1
  have hb0 := ob_bytes h3
  clear h1 h3 h6
  go_enter Try.func19, Try.ntmps19
  go_wp2_with (go_at_call 20; refine (says_few hb0 (Nat.le_refl _) hl h4).mono ?_; rintro e w1 ⟨rfl, hb⟩; obtain ⟨hS, hE, hz, hc, hf⟩ := bcell hb; (try simp only [go_sem] at hE); subst hE)
  go_ret
  exact ⟨rfl, cutst_keep H.out fun t => keepT_below hb (Nat.le_refl _) t, hb⟩
theorem cut_wait (h : CutSt w g base b false told) (hl : ¬ b.length < 2) (hm : b.length ≤ 1099511627776) (hr : ∀ x ∈ b, 0 ≤ x ∧ x ≤ 255) (h5 : ¬ 512 < saysF b) (h6 : (b.length : Int) - 2 < saysF b) : Calls Try.prog 19 #[.pointer (some ⟨g, 0, none⟩)] w fun e w' => e = .returned (.bool false) ∧ CutSt w' g base b false told ∧ Below w.heap.size w w' := by
  have H := hide h
  obtain ⟨Ab, cb, At, ct, h1, h2, h3, h4, h7, h8⟩ := h
  obtain ⟨hg, c0, c1, c2, d0, d1, d2⟩ := cb_facts h1
  have hb0 := ob_bytes h3
  clear h1 h3 h8
  go_enter Try.func19, Try.ntmps19
  go_wp2_with (go_at_call 20; refine (says_any hb0 hr (Nat.le_refl _) (by omega) h4 hm).mono ?_; rintro e w1 ⟨rfl, hb⟩; obtain ⟨hS, hE, hz, hc, hf⟩ := bcell hb; (try simp only [go_sem] at hE); subst hE)
  go_ret
  exact ⟨rfl, cutst_keep H.out fun t => keepT_below hb (Nat.le_refl _) t, hb⟩
theorem cut_shut (h : CutSt w g base b false told) (hl : ¬ b.length < 2) (hm : b.length ≤ 1099511627776) (hr : ∀ x ∈ b, 0 ≤ x ∧ x ≤ 255) (h5 : 512 < saysF b) : Calls Try.prog 19 #[.pointer (some ⟨g, 0, none⟩)] w fun e w' => e = .returned (.bool false) ∧ CutSt w' g base [] true told ∧ Below base w w' := by
  obtain ⟨Ab, cb, At, ct, h1, h2, h3, h4, h7, h8⟩ := h
  obtain ⟨hg, c0, c1, c2, d0, d1, d2⟩ := cb_facts h1
  have hb0 := ob_bytes h3
  have H1 := hide h1
  clear h1
  go_enter Try.func19, Try.ntmps19
  go_wp2_with (go_at_call 20; refine (says_any hb0 hr (Nat.le_refl _) (by omega) h4 hm).mono ?_; rintro e w1 ⟨rfl, hb⟩; obtain ⟨hS, hE, hz, hc, hf⟩ := bcell hb; (try simp only [go_sem] at hE); subst hE)
  go_ret
  have hk := fun t => keepT_below hb (Nat.le_refl _) t
  have k1 : CB w1 g Ab b.length cb false At told.length ct := hk _ _ _ _ H1.out
  have k2 := cb_set0 k1 none 0 0
  have k3 := cb_set1 k2 true
  have q : ∀ t, 45 ≠ t → KeepT w ((w1.setCell ⟨g, 0, none⟩ (.slice none 0 0)).setCell ⟨g, 1, none⟩ (.bool true)) t := fun t ht => ((hk t).trans (keepT_set k1 ht _ _)).trans (keepT_set k2 ht _ _)
  exact ⟨rfl, ⟨none, 0, At, ct, k3, h2, ob_nil _ _ _, Nat.le_refl _, Nat.zero_le _, pieces_keep h8 (q _ (by decide)) (q _ (by decide))⟩, ((hb.mono (by omega)).setCell h2 _).setCell h2 _⟩
set_option maxHeartbeats 1000000 in
theorem cut_one (h : CutSt w g base b false told) (hl : ¬ b.length < 2) (hm : b.length ≤ 1099511627776) (ht : told.length ≤ 1000000000) (hr : ∀ x ∈ b, 0 ≤ x ∧ x ≤ 255) (h5 : ¬ 512 < saysF b) (h6 : ¬ (b.length : Int) - 2 < saysF b) :
    Calls Try.prog 19 #[.pointer (some ⟨g, 0, none⟩)] w fun e w' => e = .returned (.bool true) ∧ CutSt w' g base (b.drop (2 + (saysF b).toNat)) false (told ++ [(b.drop 2).take (saysF b).toNat]) ∧ Below base w w' := by
  obtain ⟨Ab, cb, At, ct, h1, h2, h3, h4, h7, h8⟩ := h
  obtain ⟨hg, c0, c1, c2, d0, d1, d2⟩ := cb_facts h1
  have hb0 := ob_bytes h3
  have H1 := hide h1
  have hsb := saysF_bd b hr
  have HS := fun w => says_any (w := w) (B := w.heap.size) (l := b) (A := Ab) (n := b.length) (c := cb)
  clear h1
  obtain ⟨n, hn⟩ := Int.eq_ofNat_of_zero_le hsb.1
  rw [hn] at h5 h6 hsb
  have hS1 := says_any hb0 hr (Nat.le_refl _) (by omega) h4 hm
  rw [hn] at hS1
  have HN := hide hn
  clear hn HS
  go_enter Try.func19, Try.ntmps19
  go_wp2_with (go_at_call 20; refine (hS1).mono ?_; rintro e w1 ⟨rfl, hb⟩; obtain ⟨hS, hE, hz, hc, hf⟩ := bcell hb; (try simp only [go_sem] at hE); subst hE)
  refine wp_region_mix 16 [0, 1, 2, 3, 4, 6, 7, 8, 9, 10, 11, 12] [5, 13, 14, 15] (fun w' => w'.cell? ⟨g, 0, none⟩ = some (.slice Ab b.length cb) ∧ w'.cell? ⟨g, 2, none⟩ = some (.slice At told.length ct)) (by kernel_rfl) (by kernel_rfl) (by refine ⟨?_, ?_⟩ <;> go_simp) ?_
  simp only [opsOf, List.filterMap_cons, List.filterMap_nil, List.getElem?_toArray, List.getElem?_cons_zero, List.getElem?_cons_succ]
  repeat (refine wpPure_any (fun K hK => ?_); go_simp; refine hK _ ?_; clear hK K)
  refine wpPure_val (.slice At told.length ct) rfl (fun w hw => by obtain ⟨q0, q2⟩ := hw; go_simp) ?_
  repeat (refine wpPure_any (fun K hK => ?_); go_simp; refine hK _ ?_; clear hK K)
  refine wpPure_val (.slice Ab b.length cb) rfl (fun w hw => by obtain ⟨q0, q2⟩ := hw; go_simp) ?_
  repeat (refine wpPure_any (fun K hK => ?_); go_simp; refine hK _ ?_; clear hK K)
  refine wpPure_val (.slice (if cb = 2 then Ab else Ab.map (·.add 2)) n (cb - 2)) rfl (fun w _ => ?_) ?_
  · have e1 : (2 + (n : Int)).toNat = 2 + n := by omega
    have e2 : 2 + n - 2 = n := by omega
    by_cases hc2 : cb = 2
    · rw [if_pos hc2]
      go_simp
      rw [if_pos (by omega), if_pos (by omega)]
    · rw [if_neg hc2]
      go_simp
      rw [if_pos (by omega), if_pos (by omega)]
  refine wpPure_nil ?_
  have hbt := ob_take (ob_cut h3 (k := 2) (c := cb) (by omega) h4) (k := n) (by omega)
  generalize (if cb = 2 then Ab else Ab.map (·.add 2)) = A3 at hbt ⊢
  have hL : ((b.drop 2).take n).length = n := hbt.1
  have HB := hide hb
  have k01 : ∀ t, KeepT w w1 t := fun t => keepT_below hb (Nat.le_refl _) t
  have q1 : CB w1 g Ab b.length cb false At told.length ct := k01 _ _ _ _ H1.out
  have own0 : (w1.alloc (.cells #[] 5)).drew.ownsRow w1.heap.size 5 1 (.slice (some ⟨w1.heap.size, 0, none⟩) 0 0) 0 (BV []) := own_empty w1 5
  have k12 : ∀ t, KeepT w1 (w1.alloc (.cells #[] 5)).drew t := fun t => keepT_alloc w1 _ t
  have q2 : CB (w1.alloc (.cells #[] 5)).drew g Ab b.length cb false At told.length ct := k12 _ _ _ _ q1
  have hb2 := ob_bytes (ob_keep (ob_keep hbt (k01 _)) (k12 _))
  obtain ⟨A4, c4, w2, hrun1, hown1, hgrow1, hbel1, hcap1, hcm1⟩ := run_app_u8 (ty := 25) w1.heap.size _ 0 0 [] own0 _ A3 n (cb - 2) _ hb2 (by omega) (by simp)
  rw [Nat.zero_add] at hrun1 hown1 hcap1
  rw [List.nil_append] at hown1
  have hbel2 : Below w1.heap.size w1 w2 := (((Below.refl _ _).alloc (Nat.le_refl _) _).drew).trans hbel1
  have k13 : ∀ t, KeepT w1 w2 t := fun t => keepT_below hbel2 (Nat.le_refl _) t
  have q3 : CB w2 g Ab b.length cb false At told.length ct := k13 _ _ _ _ q1
  have k34 : ∀ t, KeepT w2 (w2.alloc (.cells #[.slice A4 n c4] 25)) t := fun t => keepT_alloc w2 _ t
  have q4 : CB (w2.alloc (.cells #[.slice A4 n c4] 25)) g Ab b.length cb false At told.length ct := k34 _ _ _ _ q3
  have hbw1 : base ≤ w1.heap.size := by have := hb.size; omega
  have hbw2 : w1.heap.size ≤ w2.heap.size := hbel2.size
  have o4 : OB (w2.alloc (.cells #[.slice A4 n c4] 25)) base A4 n ((b.drop 2).take n) := ob_keep (ob_base (ob_of_own hown1) hbw1) (k34 _)
  have p4 : Pieces (w2.alloc (.cells #[.slice A4 n c4] 25)) base At told.length ct told := pieces_keep h8 (((k01 _).trans (k13 _)).trans (k34 _)) (((k01 _).trans (k13 _)).trans (k34 _))
  obtain ⟨A5, c5, w3, hrun2, p5, hbel3, k45, hcap2, hcm2⟩ := run_app_pieces (ty := 22) base At told.length ct told p4 _ (some ⟨w2.heap.size, 0, none⟩) 1 1 [(b.drop 2).take n] (fun _ => (A4, n, c4)) rfl
    (row_of (row_new w2 [.slice A4 n c4] 25) (fun j hj => by obtain rfl : j = 0 := by { simp at hj; omega }; rfl)) (fun j hj => by obtain rfl : j = 0 := by { omega }; exact ⟨hcap1, hcm1, o4⟩) (by omega) (by simp; omega)
  have q5 : CB w3 g Ab b.length cb false At told.length ct := k45 _ (by decide) _ _ _ q4
  have o5 : OB w3 base Ab b.length b := ob_keep h3 ((((k01 _).trans (k13 _)).trans (k34 _)).trans (k45 _ (by decide)))
  have B5 : Below base w w3 := (((hb.mono (by omega)).trans (hbel2.mono hbw1)).alloc (by omega) _).trans hbel3
  have C0 := cb_facts q1
  have C2 := cb_facts q2
  have C3 := cb_facts q3
  have C4 := cb_facts q4
  have C5 := cb_facts q5
  refine wpMid_val (.slice (some ⟨w1.heap.size, 0, none⟩) 0 0) rfl (w' := (w1.alloc (.cells #[] 5)).drew) (by go_simp) ⟨C2.2.1, C2.2.2.2.1⟩ ?_
  refine wpMid_append rfl (.tmp 42) (.tmp 49) 25 rfl (.slice (some ⟨w1.heap.size, 0, none⟩) 0 0) (.slice A3 n (cb - 2)) (.slice A4 n c4) rfl rfl hrun1 ⟨C3.2.1, C3.2.2.2.1⟩ ?_
  refine wpMid_val (.slice (some ⟨w2.heap.size, 0, none⟩) 1 1) rfl (w' := w2.alloc (.cells #[.slice A4 n c4] 25)) (by go_simp) ⟨C4.2.1, C4.2.2.2.1⟩ ?_
  refine wpMid_append rfl (.tmp 41) (.tmp 51) 22 rfl (.slice At told.length ct) (.slice (some ⟨w2.heap.size, 0, none⟩) 1 1) (.slice A5 (told.length + 1) c5) rfl rfl hrun2 ⟨C5.2.1, C5.2.2.2.1⟩ ?_
  refine wpMid_nil ?_
  have hsl : ∃ A6, (if cb = 2 + n then Ab else Ab.map (·.add (2 + n))) = A6 ∧ ∀ w, (Instr.slice 25 (.slice Ab b.length cb) (some (.int .i64 (2 + (n : Int)))) none none).run Try.prog w = .ok (.slice A6 (b.length - (2 + n)) (cb - (2 + n))) w := by
    refine ⟨_, rfl, fun w => ?_⟩
    have e1 : (2 + (n : Int)).toNat = 2 + n := by omega
    by_cases hck : cb = 2 + n
    · rw [if_pos hck]
      go_simp
      exact fun h => absurd (h (by omega)) (by omega)
    · rw [if_neg hck]
      go_simp
      exact fun h => absurd (h (by omega)) (by omega)
  obtain ⟨A6, hA6, hsl⟩ := hsl
  obtain ⟨r1, r2, r3, r4, r5, r6, r7⟩ := C5
  clear C0 C2 C3 C4 q1 q2 q3 q4 hrun1 hrun2 hown1 hgrow1 hbel1 own0 hb2 p4 o4 k01 k12 k13 k34 c0 c1 c2 d0 d1 d2 hc hf hb0
  simp only [List.drop_succ_cons, List.drop_zero]
  go_wp2
  go_ret
  have hN : (saysF b).toNat = n := by rw [HN.out]; rfl
  rw [hN]
  have s1 := cb_set2 q5 A5 (told.length + 1) c5
  have s2 := cb_set0 s1 A6 (b.length - (2 + n)) (cb - (2 + n))
  have kk : ∀ t, 45 ≠ t → KeepT w3 ((w3.setCell ⟨g, 2, none⟩ (.slice A5 (told.length + 1) c5)).setCell ⟨g, 0, none⟩ (.slice A6 (b.length - (2 + n)) (cb - (2 + n)))) t := fun t ht => (keepT_set q5 ht _ _).trans (keepT_set s1 ht _ _)
  have ob6 := ob_cut o5 (k := 2 + n) (c := cb) (by omega) h4
  rw [hA6] at ob6
  refine ⟨rfl, ⟨A6, cb - (2 + n), A5, c5, ?_, h2, ?_, by rw [List.length_drop]; omega, by omega, ?_⟩, (B5.setCell h2 _).setCell h2 _⟩
  · rw [List.length_drop, List.length_append]
    exact s2
  · rw [List.length_drop]
    exact ob_keep ob6 (kk _ (by decide))
  · rw [List.length_append]
    exact pieces_keep p5 (kk _ (by decide)) (kk _ (by decide))
end
end Go.Proofs.Ytmnkgmadogkjbaa.Frame
