/- DeckNames: of any deck each id has one part and one name, which have that id; what any text names. Condition: none beyond the row's own. -/
import Derived.Test.YtfckciblnojniaaDoorDkNb
namespace Go.Proofs.YtfckciblnojniaaDoor.DeckNames
open Go.ChangeShapes Go.WideShapes Go.ChangeAt Go.RowKit Go.Joins Go.Proofs.YtfckciblnojniaaDoor.Kit Go.Proofs.YtfckciblnojniaaDoor.Num Go.Proofs.YtfckciblnojniaaDoor.Mem Go.Proofs.YtfckciblnojniaaDoor.Well Go.Proofs.YtfckciblnojniaaDoor.Rail Go.Proofs.YtfckciblnojniaaDoor.Dk Go.Proofs.YtfckciblnojniaaDoor.Door Go.Deep Go.PlainAid
set_option linter.unusedVariables false
set_option linter.unusedSimpArgs false
theorem deck_up {w : World} {B0 B1 : Nat} {D : Dck} (h : DeckI w B0 D) (hB : B0 ≤ B1) : DeckI w B1 D :=
  ⟨⟨row_more h.bs.row hB, h.bs.len, h.bs.fit⟩, srow_more h.ps hB, fun p hp => ⟨(h.st p hp).1, row_more (h.st p hp).2 hB⟩, srow_more h.rs hB⟩
theorem find_any {w : World} {D : Dck} (h : DeckI w w.heap.size D) (hl : SmallD D) (hE : Env w) (s : ByteArray) (hs : s.size ≤ 201) :
    Calls Tryd.prog 22 #[D.val, .string s] w fun e w' => e = .returned (.tuple #[.int .i64 (findF D s.data.toList).1, .int .i64 (findF D s.data.toList).2]) ∧ Below w.heap.size w w' := by
  by_cases h0 : chkD D = 0
  case neg => exact find_bad h (Nat.le_refl _) hl s h0
  obtain ⟨⟨l⟩⟩ := s
  match l with
  | [] => exact find_empty h (Nat.le_refl _) hl h0
  | x :: t => exact find_some h (Nat.le_refl _) hl hE h0 x t (by have : (x :: t).length ≤ 201 := hs; simp at this; omega)
theorem nm_size {D : Dck} (h0 : chkD D = 0) {i : Nat} (h : i < nW D + nT D + nL D) : (⟨(partNm (Dk.partAt D i)).toArray⟩ : ByteArray).size ≤ 201 := by
  show (partNm (Dk.partAt D i)).toArray.size ≤ 201
  rw [List.size_toArray]
  obtain ⟨u, r, c, hu, hr, hc, e⟩ := part_form h0 h
  have hts := itoa_size u hu
  have hts : (Lib.itoa (u : Int)).toArray.size ≤ 20 := hts
  rw [List.size_toArray] at hts
  have hns := nm_le r c
  rw [size_len] at hns
  rcases e with ⟨e, _⟩ | ⟨e, _⟩ | ⟨e, _⟩
  · rw [e, nm_box _ _ _ _ (by decide)]; simp only [List.length_cons, List.length_append]; omega
  · rw [e, nm_box _ _ _ _ (by decide)]; simp only [List.length_cons, List.length_append]; omega
  · rw [e, nm_lane]; simp only [List.length_cons]; omega
theorem name_of_find {D : Dck} {l : List UInt8} {a e : Int} (h : findF D l = (a, e)) (he : e = 0) : nameF D a = l := by
  subst he
  by_cases h0 : chkD D = 0
  · rcases name_find h0 l with e | ⟨n, e, hn, hp⟩
    · rw [e] at h; simp at h
    · rw [e] at h
      simp only [Prod.mk.injEq, and_true] at h
      subst h
      unfold nameF partF
      rw [if_neg (show ¬ chkD D ≠ 0 by simpa using h0), if_neg (show ¬ ((n : Int) < 0 ∨ ((nW D + nT D + nL D : Nat) : Int) ≤ n) by omega), if_neg (by simp)]
      exact hp
  · have : findF D l = (0, chkD D) := by cases l <;> exact if_pos h0
    rw [this] at h
    simp only [Prod.mk.injEq] at h
    exact absurd h.2 h0
theorem name_none {D : Dck} {id : Int} (h : id < 0 ∨ ((nW D + nT D + nL D : Nat) : Int) ≤ id) : nameF D id = [] := by
  unfold nameF
  rcases partF_cases D id with g | ⟨_, i, rfl, hi, _⟩
  · exact if_pos g
  · omega
set_option maxHeartbeats 16000000 in
set_option maxRecDepth 20000 in
theorem walk {w : World} {D : Dck} (h : DeckI w w.heap.size D) (hps : D.ps.length ≤ 4611686018427387904) (hE : Env w) (id : Int) (s : ByteArray) (hsz : s.size ≤ 9223372036854775807) : Calls Tryd.prog 5 #[D.val, .int .i64 id, .string s] w fun e w' => e = .returned (.bool true) ∧ Below w.heap.size w w' := by
  have HE := hide hE
  have L := fun W h => lives_any W h
  have cL : ∀ W, Below w.heap.size w W → Calls Tryd.prog 6 #[D.val] W fun e w' => e = .returned (.bool (largeD D)) ∧ Below W.heap.size W w' :=
    fun W hb => large_any (h.below hb (Nat.le_refl _)) hb.size hps
  cases hg : largeD D with
  | true =>
    rw [hg] at cL
    clear h hg hE
    obtain ⟨bA, bc, bs, pA, pc, ps, rA, rc, rs, arms⟩ := D
    unfold Dck.val at cL ⊢
    dsimp only at cL ⊢
    go_enter Tryd.func5, Tryd.ntmps5
    go_wp2_with (first | (go_at_call 6; (with_reducible refine (cL _ (by repeat' (first | (with_reducible exact Below.refl _ _) | (with_reducible refine below_drewN ?_ _) | (with_reducible refine Below.drew ?_) | (with_reducible refine Below.alloc ?_ ?_ _) | (with_reducible refine Below.setCell ?_ ?_ _) | (with_reducible refine below_step ?_ (by assumption) ?_) | (with_reducible refine below_step ?_ (below_regrown _ _ _) ?_) | go_size))).mono ?_); rintro e w1 ⟨rfl, hb⟩; obtain ⟨hS, hE, hz, hc, hf⟩ := bcell hb; (try simp only [go_sem] at hE); subst hE) | (go_at_call 7; (with_reducible refine (L _ (HE.out.below (B := w.heap.size) (by repeat' (first | (with_reducible exact Below.refl _ _) | (with_reducible refine below_drewN ?_ _) | (with_reducible refine Below.drew ?_) | (with_reducible refine Below.alloc ?_ ?_ _) | (with_reducible refine Below.setCell ?_ ?_ _) | (with_reducible refine below_step ?_ (by assumption) ?_) | (with_reducible refine below_step ?_ (below_regrown _ _ _) ?_) | go_size)) (by omega))).mono ?_); rintro e w1 ⟨rfl, hb⟩; obtain ⟨hS, hE, hz, hc, hf⟩ := bcell hb; (try simp only [go_sem] at hE); subst hE) | ((with_reducible change Code.wp _ (Code.region _ _ _) _ _ _); refine wp_region_quiet_below (by kernel_rfl) (by kernel_rfl) ?_; (repeat (first | go_big_quiet_step ((first | (go_at_call 6; (with_reducible refine Calls.regrown_of (cL _ (by repeat' (first | (with_reducible exact Below.refl _ _) | (with_reducible refine below_drewN ?_ _) | (with_reducible refine Below.drew ?_) | (with_reducible refine Below.alloc ?_ ?_ _) | (with_reducible refine Below.setCell ?_ ?_ _) | (with_reducible refine below_step ?_ (by assumption) ?_) | (with_reducible refine below_step ?_ (below_regrown _ _ _) ?_) | go_size))));) | (go_at_call 7; (with_reducible refine Calls.regrown_of (L _ (HE.out.below (B := w.heap.size) (by repeat' (first | (with_reducible exact Below.refl _ _) | (with_reducible refine below_drewN ?_ _) | (with_reducible refine Below.drew ?_) | (with_reducible refine Below.alloc ?_ ?_ _) | (with_reducible refine Below.setCell ?_ ?_ _) | (with_reducible refine below_step ?_ (by assumption) ?_) | (with_reducible refine below_step ?_ (below_regrown _ _ _) ?_) | go_size)) (by omega))));))) | quiet_step ((first | (go_at_call 6; (with_reducible refine Calls.regrown_of (cL _ (by repeat' (first | (with_reducible exact Below.refl _ _) | (with_reducible refine below_drewN ?_ _) | (with_reducible refine Below.drew ?_) | (with_reducible refine Below.alloc ?_ ?_ _) | (with_reducible refine Below.setCell ?_ ?_ _) | (with_reducible refine below_step ?_ (by assumption) ?_) | (with_reducible refine below_step ?_ (below_regrown _ _ _) ?_) | go_size))));) | (go_at_call 7; (with_reducible refine Calls.regrown_of (L _ (HE.out.below (B := w.heap.size) (by repeat' (first | (with_reducible exact Below.refl _ _) | (with_reducible refine below_drewN ?_ _) | (with_reducible refine Below.drew ?_) | (with_reducible refine Below.alloc ?_ ?_ _) | (with_reducible refine Below.setCell ?_ ?_ _) | (with_reducible refine below_step ?_ (by assumption) ?_) | (with_reducible refine below_step ?_ (below_regrown _ _ _) ?_) | go_size)) (by omega))));))))); refine wpQuiet_nil ?_; intro w1 hw1; have hb := below_of_regrown hw1; clear hw1; obtain ⟨hS, hE, hz, hc, hf⟩ := bcell hb; (try simp only [go_sem] at hE); subst hE))
    go_ret
    exact ⟨rfl, (by repeat' (first | (with_reducible exact Below.refl _ _) | (with_reducible refine below_drewN ?_ _) | (with_reducible refine Below.drew ?_) | (with_reducible refine Below.alloc ?_ ?_ _) | (with_reducible refine Below.setCell ?_ ?_ _) | (with_reducible refine below_step ?_ (by assumption) ?_) | (with_reducible refine below_step ?_ (below_regrown _ _ _) ?_) | go_size))⟩
  | false =>
    rw [hg] at cL
    have hs := small_of hg
    by_cases h200 : 200 < s.size
    · clear h hg hE hs
      obtain ⟨bA, bc, bs, pA, pc, ps, rA, rc, rs, arms⟩ := D
      unfold Dck.val at cL ⊢
      dsimp only at cL ⊢
      go_enter Tryd.func5, Tryd.ntmps5
      go_wp2_with (first | (go_at_call 6; (with_reducible refine (cL _ (by repeat' (first | (with_reducible exact Below.refl _ _) | (with_reducible refine below_drewN ?_ _) | (with_reducible refine Below.drew ?_) | (with_reducible refine Below.alloc ?_ ?_ _) | (with_reducible refine Below.setCell ?_ ?_ _) | (with_reducible refine below_step ?_ (by assumption) ?_) | (with_reducible refine below_step ?_ (below_regrown _ _ _) ?_) | go_size))).mono ?_); rintro e w1 ⟨rfl, hb⟩; obtain ⟨hS, hE, hz, hc, hf⟩ := bcell hb; (try simp only [go_sem] at hE); subst hE) | (go_at_call 7; (with_reducible refine (L _ (HE.out.below (B := w.heap.size) (by repeat' (first | (with_reducible exact Below.refl _ _) | (with_reducible refine below_drewN ?_ _) | (with_reducible refine Below.drew ?_) | (with_reducible refine Below.alloc ?_ ?_ _) | (with_reducible refine Below.setCell ?_ ?_ _) | (with_reducible refine below_step ?_ (by assumption) ?_) | (with_reducible refine below_step ?_ (below_regrown _ _ _) ?_) | go_size)) (by omega))).mono ?_); rintro e w1 ⟨rfl, hb⟩; obtain ⟨hS, hE, hz, hc, hf⟩ := bcell hb; (try simp only [go_sem] at hE); subst hE) | ((with_reducible change Code.wp _ (Code.region _ _ _) _ _ _); refine wp_region_quiet_below (by kernel_rfl) (by kernel_rfl) ?_; (repeat (first | go_big_quiet_step ((first | (go_at_call 6; (with_reducible refine Calls.regrown_of (cL _ (by repeat' (first | (with_reducible exact Below.refl _ _) | (with_reducible refine below_drewN ?_ _) | (with_reducible refine Below.drew ?_) | (with_reducible refine Below.alloc ?_ ?_ _) | (with_reducible refine Below.setCell ?_ ?_ _) | (with_reducible refine below_step ?_ (by assumption) ?_) | (with_reducible refine below_step ?_ (below_regrown _ _ _) ?_) | go_size))));) | (go_at_call 7; (with_reducible refine Calls.regrown_of (L _ (HE.out.below (B := w.heap.size) (by repeat' (first | (with_reducible exact Below.refl _ _) | (with_reducible refine below_drewN ?_ _) | (with_reducible refine Below.drew ?_) | (with_reducible refine Below.alloc ?_ ?_ _) | (with_reducible refine Below.setCell ?_ ?_ _) | (with_reducible refine below_step ?_ (by assumption) ?_) | (with_reducible refine below_step ?_ (below_regrown _ _ _) ?_) | go_size)) (by omega))));))) | quiet_step ((first | (go_at_call 6; (with_reducible refine Calls.regrown_of (cL _ (by repeat' (first | (with_reducible exact Below.refl _ _) | (with_reducible refine below_drewN ?_ _) | (with_reducible refine Below.drew ?_) | (with_reducible refine Below.alloc ?_ ?_ _) | (with_reducible refine Below.setCell ?_ ?_ _) | (with_reducible refine below_step ?_ (by assumption) ?_) | (with_reducible refine below_step ?_ (below_regrown _ _ _) ?_) | go_size))));) | (go_at_call 7; (with_reducible refine Calls.regrown_of (L _ (HE.out.below (B := w.heap.size) (by repeat' (first | (with_reducible exact Below.refl _ _) | (with_reducible refine below_drewN ?_ _) | (with_reducible refine Below.drew ?_) | (with_reducible refine Below.alloc ?_ ?_ _) | (with_reducible refine Below.setCell ?_ ?_ _) | (with_reducible refine below_step ?_ (by assumption) ?_) | (with_reducible refine below_step ?_ (below_regrown _ _ _) ?_) | go_size)) (by omega))));))))); refine wpQuiet_nil ?_; intro w1 hw1; have hb := below_of_regrown hw1; clear hw1; obtain ⟨hS, hE, hz, hc, hf⟩ := bcell hb; (try simp only [go_sem] at hE); subst hE))
      go_ret
      exact ⟨rfl, (by repeat' (first | (with_reducible exact Below.refl _ _) | (with_reducible refine below_drewN ?_ _) | (with_reducible refine Below.drew ?_) | (with_reducible refine Below.alloc ?_ ?_ _) | (with_reducible refine Below.setCell ?_ ?_ _) | (with_reducible refine below_step ?_ (by assumption) ?_) | (with_reducible refine below_step ?_ (below_regrown _ _ _) ?_) | go_size))⟩
    have c1 := fun W (hb : Below w.heap.size w W) => find_any (deck_up (h.below hb (Nat.le_refl _)) hb.size) hs (hE.below hb (Nat.le_refl _)) s (by omega)
    have c2 := fun W (hb : Below w.heap.size w W) => rfind_any (h.below hb (Nat.le_refl _)) hb.size hs s
    have c3 := fun W (hb : Below w.heap.size w W) => counts_any (h.below hb (Nat.le_refl _)) hb.size hs
    have c4 := fun a W (hb : Below w.heap.size w W) => name_dk (h.below hb (Nat.le_refl _)) hb.size hs (hE.below hb (Nat.le_refl _)).1 a
    have c5 := fun W (hb : Below w.heap.size w W) => part_any (h.below hb (Nat.le_refl _)) hb.size hs id
    have c6 := fun p W (hb : Below w.heap.size w W) => id_any (h.below hb (Nat.le_refl _)) hb.size hs p
    have c7 := fun t ht W (hb : Below w.heap.size w W) => find_any (deck_up (h.below hb (Nat.le_refl _)) hb.size) hs (hE.below hb (Nat.le_refl _)) t ht
    have HF := hide (fun a e h he => name_of_find (D := D) (l := s.data.toList) (a := a) (e := e) h he)
    have HNo := hide (fun h => name_none (D := D) (id := id) h)
    have HI : Hid (∀ i : Nat, id = i → i < nW D + nT D + nL D → partF D id = (Dk.partAt D i, 0) ∧ idF D (Dk.partAt D i) = (id, 0) ∧ nameF D id = partNm (Dk.partAt D i) ∧ findF D (partNm (Dk.partAt D i)) = (id, 0) ∧ (⟨(partNm (Dk.partAt D i)).toArray⟩ : ByteArray).size ≤ 201) := hide (fun i hi hlt => by
      subst hi
      by_cases h0 : chkD D = 0
      case neg => unfold nW nT nL at hlt; simp only [if_neg h0] at hlt; omega
      have hp : partF D (i : Int) = (Dk.partAt D i, 0) := by
        unfold partF
        rw [if_neg (show ¬ chkD D ≠ 0 by simpa using h0), if_neg (show ¬ ((i : Int) < 0 ∨ ((nW D + nT D + nL D : Nat) : Int) ≤ i) by omega)]
        rfl
      refine ⟨hp, id_part h0 hlt, ?_, find_name h0 hlt, nm_size h0 hlt⟩
      unfold nameF
      rw [hp]
      exact if_neg (by simp))
    have HCL : Hid (nW D + nT D + nL D ≤ 1000) := hide (by
      by_cases h0 : chkD D = 0
      · have := counts_le h0; omega
      · unfold nW nT nL; simp only [if_neg h0]; omega)
    clear h hg hE hs hps
    have hcl := HCL.out
    generalize nW D = n1 at *
    generalize nT D = n2 at *
    generalize nL D = n3 at *
    obtain ⟨a, e, hae⟩ : ∃ a e, findF D s.data.toList = (a, e) := ⟨_, _, rfl⟩
    have HFa := hide (HF.out a e hae)
    rw [hae] at c1 c2
    clear hae HF
    unfold Dck.val at cL c1 c2 c3 c4 c5 c6 c7 ⊢
    by_cases he : e = 0
    · have ca := c4 a
      rw [HFa.out he, mk_of] at ca
      subst he
      by_cases g1 : id < 0 ∨ ((n1 + n2 + n3 : Nat) : Int) ≤ id
      · have cb := c4 id
        rw [HNo.out g1] at cb
        exact out0 HE.out h200 hcl cL c1 c2 c3 ca g1 cb
      · obtain ⟨i, rfl⟩ := Int.eq_ofNat_of_zero_le (show 0 ≤ id by omega)
        obtain ⟨q1, q2, q3, q4, q5⟩ := HI.out i rfl (by omega)
        have cb := c4 (i : Int)
        have cd := c6 (Dk.partAt D i)
        have ce := c7 _ q5
        rw [mk_list, q4] at ce
        rw [q1] at c5
        rw [q2] at cd
        rw [q3] at cb
        exact in0 HE.out h200 hcl cL c1 c2 c3 ca (by omega) cb c5 cd ce
    · by_cases g1 : id < 0 ∨ ((n1 + n2 + n3 : Nat) : Int) ≤ id
      · have cb := c4 id
        rw [HNo.out g1] at cb
        exact out1 HE.out h200 hcl cL he c1 c2 c3 g1 cb
      · obtain ⟨i, rfl⟩ := Int.eq_ofNat_of_zero_le (show 0 ≤ id by omega)
        obtain ⟨q1, q2, q3, q4, q5⟩ := HI.out i rfl (by omega)
        have cb := c4 (i : Int)
        have cd := c6 (Dk.partAt D i)
        have ce := c7 _ q5
        rw [mk_list, q4] at ce
        rw [q1] at c5
        rw [q2] at cd
        rw [q3] at cb
        exact in1 HE.out h200 hcl cL he c1 c2 c3 (by omega) cb c5 cd ce
set_option maxRecDepth 20000 in
theorem law : LawS Tryd.checked Rows.deckNamesRow.laid 5 Tryd.f5 := by
  intro H enc W base args ds ps hval hA hsz hL hS
  have hA1 : DataW.TrodAll enc Tryd.prog W 0 (fun _ => true) true Tryd.f5.params.toList args.toList ds ps := hA
  have hw := weightsEach_at (sized_args hsz)
  have hw : ∀ (j : Nat) (t : TypeId) (d : DataW H), Tryd.f5.params.toList[j]? = some t → ds[j]? = some d → ∀ n ∈ d.weights Tryd.prog t, n ≤ 140737488351232 := hw
  rw [Tryd.params5] at hA1 hval hw
  obtain ⟨v0, vs0, d0, ds0, p0, q0, hargs, rfl, rfl, h0, r0⟩ := trodAll_cons hA1
  obtain ⟨v1, vs1, d1, ds1, p1, q1, rfl, rfl, rfl, h1, r1⟩ := trodAll_cons r0
  obtain ⟨v2, vs2, d2, ds2, p2, q2, rfl, rfl, rfl, h2, r2⟩ := trodAll_cons r1
  obtain ⟨rfl, rfl, rfl⟩ := trodAll_nil r2
  obtain rfl : args = #[v0, v1, v2] := by cases args; simp_all
  obtain ⟨id, rfl, rfl, rfl, _⟩ := open_int Tryd.underlying3 (hval 1 _ v1 rfl rfl) h1
  obtain ⟨s, rfl, rfl, rfl, hsz2⟩ := ChangeMaps.open_string Tryd.underlying9 (hval 2 _ v2 rfl rfl) h2
  obtain ⟨⟨cs⟩, rfl, _⟩ := okWide_struct Tryd.underlying26 (hval 0 _ v0 rfl rfl)
  obtain ⟨D, e, k1, k2⟩ := dck_rd (rdS_of h0 (hw 0 _ _ rfl rfl))
  have e : Value.agg (Array.mk cs) = D.val := e
  rw [e]
  exact walk k1 k2 (env_laid hL hS) id s (by unfold maxLen at hsz2; omega)

set_option maxRecDepth 100000 in
theorem met : Door.Met Rows.deckNamesRow.laid := fun os args =>
  laidMetH_of_parts3 (fuel := 8) (laidMet_of_run' 8 (by kernel_rfl) (by kernel_rfl)) (by kernel_rfl) (by kernel_rfl)
set_option maxRecDepth 100000 in
theorem step (os : Os) (started : os.Started) (H : Type) (enc : TypeId × Value → H) :
    ReturnsInHanded {} Tryd.checked os 5 .any (fun w args => (Rows.deckNamesSpec.pre enc Tryd.prog Tryd.f5 Rows.deckNamesRow.domain false w args ∧ laidMetH Tryd.prog Rows.deckNamesRow.laid w) ∧ sizedMet enc Tryd.prog Tryd.f5 (OpenSpec.ofChange Rows.deckNamesSpec) false w args) (Rows.deckNamesSpec.post enc Tryd.prog Tryd.f5 false true false false) :=
  Door.liftedS (C := Tryd.checked) (L := Rows.deckNamesRow.laid) (s := Rows.deckNamesSpec) own started (by kernel_rfl) Tryd.func5
    (ChangeSpec.witness_shaped (enc := enc) (C := Tryd.checked) (os := os) (X := fun w _ => laidMetH Tryd.prog Rows.deckNamesRow.laid w) false (World.doorLaid Tryd.prog 400 os) #[.agg #[.slice none 0 0, .slice none 0 0, .slice none 0 0, .int .i64 0], .int .i64 0, .string ⟨#[]⟩] 8 rfl (World.shaped_of_RefB (by kernel_rfl) (by kernel_rfl)) (by kernel_rfl) (by kernel_rfl) (by kernel_rfl) (met os _))
    laidOut (by kernel_rfl) (by kernel_rfl) Tryd.underlying4 rfl (fun ds h => by match ds, h with | [d0, d1, d2], _ => rfl) law
set_option maxRecDepth 100000 in
theorem over : Rows.deckNamesRow.holds Tryd.pinned (OpenSpec.ofChange Rows.deckNamesSpec) :=
  OpenClaim.holds_of_wide 5 Tryd.f5 rfl rfl rfl rfl rfl rfl rfl ⟨rfl, rfl, rfl, rfl, rfl⟩ rfl rfl rfl rfl rfl (by kernel_rfl) Tryd.func5 (by kernel_rfl)
    (of_decide_eq_true (by kernel_rfl)) (by unfold Func.isWrapper; first | (rw [if_pos (by decide +kernel)]; kernel_rfl) | (rw [if_neg (by decide +kernel)]; exact ⟨rfl, rfl⟩))
    (fun os started H enc _ => step os started H enc)
theorem proved : Rows.DeckNamesCardSaid :=
  Claim7.holds_tied_plain_at .later [] Rows.deckNamesCard.laidKinds true Rows.deckNamesCard.stood.harness Rows.deckNamesCard.stood.looks
    over (fun _ h => by cases h) (by kernel_rfl) (fun _ h => by cases h) deckNames_row_tie rfl ⟨rfl, rfl⟩ (by kernel_rfl) rfl
    (fun f fn hf hfn => by
      obtain rfl : f = 5 := Option.some.inj ((show Tryd.prog.funcNamed Rows.deckNamesRow.func = some 5 by kernel_rfl).symm.trans hf) |>.symm
      obtain rfl : fn = Tryd.f5 := (Option.some.inj (Tryd.func5.symm.trans hfn)).symm
      exact ⟨by kernel_rfl, fun j t ht => by
        have hall : (Tryd.f5.params.toList.all fun u => !Tryd.prog.wantsStandIn u) = true := by kernel_rfl
        exact (show Tryd.prog.wantsStandIn t = false by simpa using List.all_eq_true.1 hall t (Array.mem_toList_iff.2 (Array.mem_of_getElem? ht)))⟩)
    (by kernel_rfl)
#print axioms proved

end Go.Proofs.YtfckciblnojniaaDoor.DeckNames
