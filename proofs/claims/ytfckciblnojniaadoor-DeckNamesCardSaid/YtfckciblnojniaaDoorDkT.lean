/- The name of a part, by the reference, and the name of an id, by both. Condition: the library's table. -/
import Derived.Test.YtfckciblnojniaaDoorDkS
import Derived.Test.YtfckciblnojniaaDoorDkO
namespace Go.Proofs.YtfckciblnojniaaDoor.Dk
open Go.ChangeShapes Go.WideShapes Go.ChangeAt Go.RowKit Go.Proofs.YtfckciblnojniaaDoor.Kit Go.Proofs.YtfckciblnojniaaDoor.Flt Go.Proofs.YtfckciblnojniaaDoor.Mem Go.Proofs.YtfckciblnojniaaDoor.Rail Go.Proofs.YtfckciblnojniaaDoor.Num Go.Proofs.YtfckciblnojniaaDoor.Well Go.Deep
set_option linter.unusedVariables false
set_option linter.unusedSimpArgs false
theorem itoa_size (u : Nat) (h : u ≤ 24) : (⟨(Lib.itoa (u : Int)).toArray⟩ : ByteArray).size ≤ 20 := by
  unfold Lib.itoa
  rw [if_neg (by omega), Int.toNat_natCast]
  exact dec_size u (by omega)
theorem nm_le (r c : Int) : (nameS r c).size ≤ 4 := by
  by_cases h : rightP r c = true
  · obtain ⟨a, b, rfl, rfl, h1, h2⟩ := right_nat h
    rw [nameS_nat h1 h2]
    exact name_len a b h2
  · unfold nameS
    rw [if_neg h]
    exact Nat.zero_le _
theorem cat2 (L : ByteArray) (x : UInt8) (h : L = ⟨#[x]⟩) (a : List UInt8) : L ++ (⟨a.toArray⟩ : ByteArray) = ⟨(x :: a).toArray⟩ := by
  subst h
  apply ByteArray.ext
  simp
theorem cat4 (L : ByteArray) (x : UInt8) (h : L = ⟨#[x]⟩) (a : List UInt8) (nm : ByteArray) : L ++ (⟨a.toArray⟩ : ByteArray) ++ (⟨#[46]⟩ : ByteArray) ++ nm = ⟨(x :: (a ++ 46 :: nm.data.toList)).toArray⟩ := by
  subst h
  apply ByteArray.ext
  simp
set_option maxHeartbeats 4000000 in
theorem rname_box (k : Int) (hk : k = 1 ∨ k = 2) (u : Nat) (hu : u ≤ 24) (r c : Int) (w : World) : Calls Tryd.prog 39 #[.agg #[.int .i64 k, .int .i64 u, .int .i64 r, .int .i64 c]] w fun e w' => e = .returned (.string ⟨(partNm ⟨k, u, r, c⟩).toArray⟩) ∧ Below w.heap.size w w' := by
  have T := fun w => rtext_any (u : Int) (by unfold In64; omega) w
  have N := fun w => rname_any r c w
  have hts := itoa_size u hu
  have hns := nm_le r c
  rw [nm_box k u r c (by rcases hk with rfl | rfl <;> decide)]
  rcases hk with rfl | rfl
  · have hv := hide (cat4 _ 80 (show ({ data := #[32, 80, 84, 76] } : ByteArray).extract 1 2 = ⟨#[80]⟩ by decide) (Lib.itoa (u : Int)) (nameS r c))
    show Calls _ _ _ _ fun e w' => e = .returned (.string ⟨((80 : UInt8) :: _).toArray⟩) ∧ _
    rw [← hv.out]
    clear hv
    generalize (⟨(Lib.itoa (u : Int)).toArray⟩ : ByteArray) = t at *
    generalize nameS r c = nm at *
    go_enter Tryd.func39, Tryd.ntmps39
    go_wp2_with (first | (go_at_call 51; refine (T _).mono ?_; rintro e w1 ⟨rfl, hb⟩; obtain ⟨hS, hE, hz, hc, hf⟩ := bcell hb; (try simp only [go_sem] at hE); subst hE) | (go_at_call 52; refine (N _).mono ?_; rintro e w1 ⟨rfl, hb⟩; obtain ⟨hS, hE, hz, hc, hf⟩ := bcell hb; (try simp only [go_sem] at hE); subst hE) | ((with_reducible change Code.wp _ (Code.region _ _ _) _ _ _); refine wp_region_quiet_below (by kernel_rfl) (by kernel_rfl) ?_; (repeat (first | go_big_quiet_step ((first | (go_at_call 51; exact Calls.regrown_of (T _)) | (go_at_call 52; exact Calls.regrown_of (N _)))) | quiet_step ((first | (go_at_call 51; exact Calls.regrown_of (T _)) | (go_at_call 52; exact Calls.regrown_of (N _)))))); refine wpQuiet_nil ?_; intro w1 hw1; have hb := below_of_regrown hw1; clear hw1; obtain ⟨hS, hE, hz, hc, hf⟩ := bcell hb; (try simp only [go_sem] at hE); subst hE))
    go_ret
    exact ⟨rfl, (by repeat' (first | (with_reducible exact Below.refl _ _) | (with_reducible refine below_drewN ?_ _) | (with_reducible refine Below.drew ?_) | (with_reducible refine Below.alloc ?_ ?_ _) | (with_reducible refine Below.setCell ?_ ?_ _) | (with_reducible refine below_step ?_ (by assumption) ?_) | (with_reducible refine below_step ?_ (below_regrown _ _ _) ?_) | go_size))⟩
  · have hv := hide (cat4 _ 84 (show ({ data := #[32, 80, 84, 76] } : ByteArray).extract 2 3 = ⟨#[84]⟩ by decide) (Lib.itoa (u : Int)) (nameS r c))
    show Calls _ _ _ _ fun e w' => e = .returned (.string ⟨((84 : UInt8) :: _).toArray⟩) ∧ _
    rw [← hv.out]
    clear hv
    generalize (⟨(Lib.itoa (u : Int)).toArray⟩ : ByteArray) = t at *
    generalize nameS r c = nm at *
    go_enter Tryd.func39, Tryd.ntmps39
    go_wp2_with (first | (go_at_call 51; refine (T _).mono ?_; rintro e w1 ⟨rfl, hb⟩; obtain ⟨hS, hE, hz, hc, hf⟩ := bcell hb; (try simp only [go_sem] at hE); subst hE) | (go_at_call 52; refine (N _).mono ?_; rintro e w1 ⟨rfl, hb⟩; obtain ⟨hS, hE, hz, hc, hf⟩ := bcell hb; (try simp only [go_sem] at hE); subst hE) | ((with_reducible change Code.wp _ (Code.region _ _ _) _ _ _); refine wp_region_quiet_below (by kernel_rfl) (by kernel_rfl) ?_; (repeat (first | go_big_quiet_step ((first | (go_at_call 51; exact Calls.regrown_of (T _)) | (go_at_call 52; exact Calls.regrown_of (N _)))) | quiet_step ((first | (go_at_call 51; exact Calls.regrown_of (T _)) | (go_at_call 52; exact Calls.regrown_of (N _)))))); refine wpQuiet_nil ?_; intro w1 hw1; have hb := below_of_regrown hw1; clear hw1; obtain ⟨hS, hE, hz, hc, hf⟩ := bcell hb; (try simp only [go_sem] at hE); subst hE))
    go_ret
    exact ⟨rfl, (by repeat' (first | (with_reducible exact Below.refl _ _) | (with_reducible refine below_drewN ?_ _) | (with_reducible refine Below.drew ?_) | (with_reducible refine Below.alloc ?_ ?_ _) | (with_reducible refine Below.setCell ?_ ?_ _) | (with_reducible refine below_step ?_ (by assumption) ?_) | (with_reducible refine below_step ?_ (below_regrown _ _ _) ?_) | go_size))⟩
set_option maxHeartbeats 4000000 in
theorem rname_lane (u : Nat) (hu : u ≤ 24) (r c : Int) (w : World) : Calls Tryd.prog 39 #[.agg #[.int .i64 3, .int .i64 u, .int .i64 r, .int .i64 c]] w fun e w' => e = .returned (.string ⟨(partNm ⟨3, u, r, c⟩).toArray⟩) ∧ Below w.heap.size w w' := by
  have T := fun w => rtext_any (u : Int) (by unfold In64; omega) w
  have hts := itoa_size u hu
  rw [nm_lane u r c]
  have hv := hide (cat2 _ 76 (show ({ data := #[32, 80, 84, 76] } : ByteArray).extract 3 4 = ⟨#[76]⟩ by decide) (Lib.itoa (u : Int)))
  show Calls _ _ _ _ fun e w' => e = .returned (.string ⟨((76 : UInt8) :: _).toArray⟩) ∧ _
  rw [← hv.out]
  clear hv
  generalize (⟨(Lib.itoa (u : Int)).toArray⟩ : ByteArray) = t at *
  go_enter Tryd.func39, Tryd.ntmps39
  go_wp2_with (first | (go_at_call 51; refine (T _).mono ?_; rintro e w1 ⟨rfl, hb⟩; obtain ⟨hS, hE, hz, hc, hf⟩ := bcell hb; (try simp only [go_sem] at hE); subst hE) | ((with_reducible change Code.wp _ (Code.region _ _ _) _ _ _); refine wp_region_quiet_below (by kernel_rfl) (by kernel_rfl) ?_; (repeat (first | go_big_quiet_step ((first | (go_at_call 51; exact Calls.regrown_of (T _)))) | quiet_step ((first | (go_at_call 51; exact Calls.regrown_of (T _)))))); refine wpQuiet_nil ?_; intro w1 hw1; have hb := below_of_regrown hw1; clear hw1; obtain ⟨hS, hE, hz, hc, hf⟩ := bcell hb; (try simp only [go_sem] at hE); subst hE))
  go_ret
  exact ⟨rfl, (by repeat' (first | (with_reducible exact Below.refl _ _) | (with_reducible refine below_drewN ?_ _) | (with_reducible refine Below.drew ?_) | (with_reducible refine Below.alloc ?_ ?_ _) | (with_reducible refine Below.setCell ?_ ?_ _) | (with_reducible refine below_step ?_ (by assumption) ?_) | (with_reducible refine below_step ?_ (below_regrown _ _ _) ?_) | go_size))⟩
theorem rname_at {D : Dck} (h0 : chkD D = 0) {i : Nat} (h : i < nW D + nT D + nL D) (w : World) : Calls Tryd.prog 39 #[(partAt D i).val] w fun e w' => e = .returned (.string ⟨(partNm (partAt D i)).toArray⟩) ∧ Below w.heap.size w w' := by
  obtain ⟨u, r, c, hu, hr, hc, ⟨e, _⟩ | ⟨e, _⟩ | ⟨e, _⟩⟩ := part_form h0 h
  · rw [e]; exact rname_box 1 (.inl rfl) u hu r c w
  · rw [e]; exact rname_box 2 (.inr rfl) u hu r c w
  · rw [e]; exact rname_lane u hu 0 0 w
/-- The name of an id. -/
def nameF (D : Dck) (id : Int) : List UInt8 := if (partF D id).2 ≠ 0 then [] else partNm (partF D id).1
theorem partF_cases (D : Dck) (id : Int) : (partF D id).2 ≠ 0 ∨ (chkD D = 0 ∧ ∃ i : Nat, id = i ∧ i < nW D + nT D + nL D ∧ partF D id = (partAt D i, 0)) := by
  unfold partF
  by_cases h0 : chkD D = 0
  case neg => rw [if_pos h0]; exact .inl h0
  rw [if_neg (by simpa using h0)]
  by_cases h1 : id < 0 ∨ ((nW D + nT D + nL D : Nat) : Int) ≤ id
  · rw [if_pos h1]; exact .inl (by decide)
  · rw [if_neg h1]
    exact .inr ⟨h0, id.toNat, by omega, by omega, rfl⟩
section
variable {w : World} {B0 : Nat} {D : Dck}
set_option maxHeartbeats 8000000 in
set_option maxRecDepth 20000 in
theorem rname_dk (h : DeckI w B0 D) (hB : B0 ≤ w.heap.size) (hl : SmallD D) (id : Int) :
    Calls Tryd.prog 17 #[D.val, .int .i64 id] w fun e w' => e = .returned (.string ⟨(nameF D id).toArray⟩) ∧ Below w.heap.size w w' := by
  have cP : ∀ W, Below w.heap.size w W → Calls Tryd.prog 13 #[D.val, .int .i64 id] W fun e w' => e = .returned (.tuple #[(partF D id).1.val, .int .i64 (partF D id).2]) ∧ Below W.heap.size W w' :=
    fun W hb => rpart_any (h.below hb hB) (by have := hb.size; omega) hl id
  rcases partF_cases D id with hn | ⟨h0, i, rfl, hi, hp⟩
  · have hv : nameF D id = [] := if_pos hn
    rw [hv]
    clear h hl hv
    generalize partF D id = X at *
    obtain ⟨⟨k, u, r, c⟩, e⟩ := X
    obtain ⟨bA, bc, bs, pA, pc, ps, rA, rc, rs, arms⟩ := D
    unfold Dck.val Pt.val at cP
    unfold Dck.val
    dsimp only at cP hn ⊢
    have g1 : (e == 0) = false := beq_false_of_ne hn
    have g2 : (e != 0) = true := bne_iff_ne.2 hn
    go_enter Tryd.func17, Tryd.ntmps17
    go_wp2_with (first | (go_at_call 13; (with_reducible refine (cP _ (by repeat' (first | (with_reducible exact Below.refl _ _) | (with_reducible refine below_drewN ?_ _) | (with_reducible refine Below.drew ?_) | (with_reducible refine Below.alloc ?_ ?_ _) | (with_reducible refine Below.setCell ?_ ?_ _) | (with_reducible refine below_step ?_ (by assumption) ?_) | (with_reducible refine below_step ?_ (below_regrown _ _ _) ?_) | go_size))).mono ?_); rintro e w1 ⟨rfl, hb⟩; obtain ⟨hS, hE, hz, hc, hf⟩ := bcell hb; (try simp only [go_sem] at hE); subst hE) | ((with_reducible change Code.wp _ (Code.region _ _ _) _ _ _); refine wp_region_quiet_below (by kernel_rfl) (by kernel_rfl) ?_; (repeat (first | go_big_quiet_step ((first | (go_at_call 13; (with_reducible refine Calls.regrown_of (cP _ (by repeat' (first | (with_reducible exact Below.refl _ _) | (with_reducible refine below_drewN ?_ _) | (with_reducible refine Below.drew ?_) | (with_reducible refine Below.alloc ?_ ?_ _) | (with_reducible refine Below.setCell ?_ ?_ _) | (with_reducible refine below_step ?_ (by assumption) ?_) | (with_reducible refine below_step ?_ (below_regrown _ _ _) ?_) | go_size))));))) | quiet_step ((first | (go_at_call 13; (with_reducible refine Calls.regrown_of (cP _ (by repeat' (first | (with_reducible exact Below.refl _ _) | (with_reducible refine below_drewN ?_ _) | (with_reducible refine Below.drew ?_) | (with_reducible refine Below.alloc ?_ ?_ _) | (with_reducible refine Below.setCell ?_ ?_ _) | (with_reducible refine below_step ?_ (by assumption) ?_) | (with_reducible refine below_step ?_ (below_regrown _ _ _) ?_) | go_size))));))))); refine wpQuiet_nil ?_; intro w1 hw1; have hb := below_of_regrown hw1; clear hw1; obtain ⟨hS, hE, hz, hc, hf⟩ := bcell hb; (try simp only [go_sem] at hE); subst hE))
    go_ret
    exact ⟨rfl, (by repeat' (first | (with_reducible exact Below.refl _ _) | (with_reducible refine below_drewN ?_ _) | (with_reducible refine Below.drew ?_) | (with_reducible refine Below.alloc ?_ ?_ _) | (with_reducible refine Below.setCell ?_ ?_ _) | (with_reducible refine below_step ?_ (by assumption) ?_) | (with_reducible refine below_step ?_ (below_regrown _ _ _) ?_) | go_size))⟩
  · have hv : nameF D (i : Int) = partNm (partAt D i) := by unfold nameF; rw [hp]; rfl
    rw [hv]
    rw [hp] at cP
    have cN := fun w => rname_at h0 hi w
    clear h hl hv hp hi h0
    generalize (⟨(partNm (partAt D i)).toArray⟩ : ByteArray) = t at *
    generalize partAt D i = X at *
    obtain ⟨k, u, r, c⟩ := X
    obtain ⟨bA, bc, bs, pA, pc, ps, rA, rc, rs, arms⟩ := D
    unfold Pt.val at cN
    unfold Dck.val Pt.val at cP
    unfold Dck.val
    dsimp only at cP cN ⊢
    go_enter Tryd.func17, Tryd.ntmps17
    go_wp2_with (first | (go_at_call 13; (with_reducible refine (cP _ (by repeat' (first | (with_reducible exact Below.refl _ _) | (with_reducible refine below_drewN ?_ _) | (with_reducible refine Below.drew ?_) | (with_reducible refine Below.alloc ?_ ?_ _) | (with_reducible refine Below.setCell ?_ ?_ _) | (with_reducible refine below_step ?_ (by assumption) ?_) | (with_reducible refine below_step ?_ (below_regrown _ _ _) ?_) | go_size))).mono ?_); rintro e w1 ⟨rfl, hb⟩; obtain ⟨hS, hE, hz, hc, hf⟩ := bcell hb; (try simp only [go_sem] at hE); subst hE) | (go_at_call 39; refine (cN _).mono ?_; rintro e w1 ⟨rfl, hb⟩; obtain ⟨hS, hE, hz, hc, hf⟩ := bcell hb; (try simp only [go_sem] at hE); subst hE) | ((with_reducible change Code.wp _ (Code.region _ _ _) _ _ _); refine wp_region_quiet_below (by kernel_rfl) (by kernel_rfl) ?_; (repeat (first | go_big_quiet_step ((first | (go_at_call 13; (with_reducible refine Calls.regrown_of (cP _ (by repeat' (first | (with_reducible exact Below.refl _ _) | (with_reducible refine below_drewN ?_ _) | (with_reducible refine Below.drew ?_) | (with_reducible refine Below.alloc ?_ ?_ _) | (with_reducible refine Below.setCell ?_ ?_ _) | (with_reducible refine below_step ?_ (by assumption) ?_) | (with_reducible refine below_step ?_ (below_regrown _ _ _) ?_) | go_size))));) | (go_at_call 39; exact Calls.regrown_of (cN _)))) | quiet_step ((first | (go_at_call 13; (with_reducible refine Calls.regrown_of (cP _ (by repeat' (first | (with_reducible exact Below.refl _ _) | (with_reducible refine below_drewN ?_ _) | (with_reducible refine Below.drew ?_) | (with_reducible refine Below.alloc ?_ ?_ _) | (with_reducible refine Below.setCell ?_ ?_ _) | (with_reducible refine below_step ?_ (by assumption) ?_) | (with_reducible refine below_step ?_ (below_regrown _ _ _) ?_) | go_size))));) | (go_at_call 39; exact Calls.regrown_of (cN _)))))); refine wpQuiet_nil ?_; intro w1 hw1; have hb := below_of_regrown hw1; clear hw1; obtain ⟨hS, hE, hz, hc, hf⟩ := bcell hb; (try simp only [go_sem] at hE); subst hE))
    go_ret
    exact ⟨rfl, (by repeat' (first | (with_reducible exact Below.refl _ _) | (with_reducible refine below_drewN ?_ _) | (with_reducible refine Below.drew ?_) | (with_reducible refine Below.alloc ?_ ?_ _) | (with_reducible refine Below.setCell ?_ ?_ _) | (with_reducible refine below_step ?_ (by assumption) ?_) | (with_reducible refine below_step ?_ (below_regrown _ _ _) ?_) | go_size))⟩
set_option maxHeartbeats 8000000 in
set_option maxRecDepth 20000 in
theorem name_dk (h : DeckI w B0 D) (hB : B0 ≤ w.heap.size) (hl : SmallD D) (hpw : Pow w) (id : Int) :
    Calls Tryd.prog 16 #[D.val, .int .i64 id] w fun e w' => e = .returned (.string ⟨(nameF D id).toArray⟩) ∧ Below w.heap.size w w' := by
  have HE := hide hpw
  clear hpw
  have cP : ∀ W, Below w.heap.size w W → Calls Tryd.prog 12 #[D.val, .int .i64 id] W fun e w' => e = .returned (.tuple #[(partF D id).1.val, .int .i64 (partF D id).2]) ∧ Below W.heap.size W w' :=
    fun W hb => part_any (h.below hb hB) (by have := hb.size; omega) hl id
  rcases partF_cases D id with hn | ⟨h0, i, rfl, hi, hp⟩
  · have hv : nameF D id = [] := if_pos hn
    rw [hv]
    clear h hl hv
    generalize partF D id = X at *
    obtain ⟨⟨k, u, r, c⟩, e⟩ := X
    obtain ⟨bA, bc, bs, pA, pc, ps, rA, rc, rs, arms⟩ := D
    unfold Dck.val Pt.val at cP
    unfold Dck.val
    dsimp only at cP hn ⊢
    have g1 : (e == 0) = false := beq_false_of_ne hn
    have g2 : (e != 0) = true := bne_iff_ne.2 hn
    go_enter Tryd.func16, Tryd.ntmps16
    go_wp2_with (first | (go_at_call 12; (with_reducible refine (cP _ (by repeat' (first | (with_reducible exact Below.refl _ _) | (with_reducible refine below_drewN ?_ _) | (with_reducible refine Below.drew ?_) | (with_reducible refine Below.alloc ?_ ?_ _) | (with_reducible refine Below.setCell ?_ ?_ _) | (with_reducible refine below_step ?_ (by assumption) ?_) | (with_reducible refine below_step ?_ (below_regrown _ _ _) ?_) | go_size))).mono ?_); rintro e w1 ⟨rfl, hb⟩; obtain ⟨hS, hE, hz, hc, hf⟩ := bcell hb; (try simp only [go_sem] at hE); subst hE) | ((with_reducible change Code.wp _ (Code.region _ _ _) _ _ _); refine wp_region_quiet_below (by kernel_rfl) (by kernel_rfl) ?_; (repeat (first | go_big_quiet_step ((first | (go_at_call 12; (with_reducible refine Calls.regrown_of (cP _ (by repeat' (first | (with_reducible exact Below.refl _ _) | (with_reducible refine below_drewN ?_ _) | (with_reducible refine Below.drew ?_) | (with_reducible refine Below.alloc ?_ ?_ _) | (with_reducible refine Below.setCell ?_ ?_ _) | (with_reducible refine below_step ?_ (by assumption) ?_) | (with_reducible refine below_step ?_ (below_regrown _ _ _) ?_) | go_size))));))) | quiet_step ((first | (go_at_call 12; (with_reducible refine Calls.regrown_of (cP _ (by repeat' (first | (with_reducible exact Below.refl _ _) | (with_reducible refine below_drewN ?_ _) | (with_reducible refine Below.drew ?_) | (with_reducible refine Below.alloc ?_ ?_ _) | (with_reducible refine Below.setCell ?_ ?_ _) | (with_reducible refine below_step ?_ (by assumption) ?_) | (with_reducible refine below_step ?_ (below_regrown _ _ _) ?_) | go_size))));))))); refine wpQuiet_nil ?_; intro w1 hw1; have hb := below_of_regrown hw1; clear hw1; obtain ⟨hS, hE, hz, hc, hf⟩ := bcell hb; (try simp only [go_sem] at hE); subst hE))
    go_ret
    exact ⟨rfl, (by repeat' (first | (with_reducible exact Below.refl _ _) | (with_reducible refine below_drewN ?_ _) | (with_reducible refine Below.drew ?_) | (with_reducible refine Below.alloc ?_ ?_ _) | (with_reducible refine Below.setCell ?_ ?_ _) | (with_reducible refine below_step ?_ (by assumption) ?_) | (with_reducible refine below_step ?_ (below_regrown _ _ _) ?_) | go_size))⟩
  · have hv : nameF D (i : Int) = partNm (partAt D i) := by unfold nameF; rw [hp]; rfl
    rw [hv]
    rw [hp] at cP
    obtain ⟨u, r, c, hu, hr, hc, hX⟩ := part_form h0 hi
    have T := fun w h => text_any (u : Int) (by unfold In64; omega) w h
    have N := fun w h => name_any (r : Int) (c : Int) w h
    have hts := itoa_size u hu
    have hns := nm_le r c
    have v1 := hide (cat4 _ 80 (show ({ data := #[80, 84, 76] } : ByteArray).extract 0 1 = ⟨#[80]⟩ by decide) (Lib.itoa (u : Int)) (nameS r c))
    have v2 := hide (cat4 _ 84 (show ({ data := #[80, 84, 76] } : ByteArray).extract 1 2 = ⟨#[84]⟩ by decide) (Lib.itoa (u : Int)) (nameS r c))
    have v3 := hide (cat2 _ 76 (show ({ data := #[80, 84, 76] } : ByteArray).extract 2 3 = ⟨#[76]⟩ by decide) (Lib.itoa (u : Int)))
    clear h hl hv hp hi h0
    rcases hX with ⟨e, _⟩ | ⟨e, _⟩ | ⟨e, _⟩
    · rw [e] at cP ⊢
      rw [nm_box _ _ _ _ (by decide)]
      show Calls _ _ _ _ fun e w' => e = .returned (.string ⟨((80 : UInt8) :: _).toArray⟩) ∧ _
      rw [← v1.out]
      clear v1 v2 v3 e
      generalize (⟨(Lib.itoa (u : Int)).toArray⟩ : ByteArray) = t at *
      generalize nameS r c = nm at *
      obtain ⟨bA, bc, bs, pA, pc, ps, rA, rc, rs, arms⟩ := D
      unfold Dck.val Pt.val at cP
      unfold Dck.val
      dsimp only at cP ⊢
      go_enter Tryd.func16, Tryd.ntmps16
      go_wp2_with (first | (go_at_call 12; (with_reducible refine (cP _ (by repeat' (first | (with_reducible exact Below.refl _ _) | (with_reducible refine below_drewN ?_ _) | (with_reducible refine Below.drew ?_) | (with_reducible refine Below.alloc ?_ ?_ _) | (with_reducible refine Below.setCell ?_ ?_ _) | (with_reducible refine below_step ?_ (by assumption) ?_) | (with_reducible refine below_step ?_ (below_regrown _ _ _) ?_) | go_size))).mono ?_); rintro e w1 ⟨rfl, hb⟩; obtain ⟨hS, hE, hz, hc, hf⟩ := bcell hb; (try simp only [go_sem] at hE); subst hE) | (go_at_call 37; refine (T _ (HE.out.below (B := w.heap.size) (by repeat' (first | (with_reducible exact Below.refl _ _) | (with_reducible refine below_drewN ?_ _) | (with_reducible refine Below.drew ?_) | (with_reducible refine Below.alloc ?_ ?_ _) | (with_reducible refine Below.setCell ?_ ?_ _) | (with_reducible refine below_step ?_ (by assumption) ?_) | (with_reducible refine below_step ?_ (below_regrown _ _ _) ?_) | go_size)) (by omega))).mono ?_; rintro e w1 ⟨rfl, hb⟩; obtain ⟨hS, hE, hz, hc, hf⟩ := bcell hb; (try simp only [go_sem] at hE); subst hE) | (go_at_call 38; refine (N _ (HE.out.below (B := w.heap.size) (by repeat' (first | (with_reducible exact Below.refl _ _) | (with_reducible refine below_drewN ?_ _) | (with_reducible refine Below.drew ?_) | (with_reducible refine Below.alloc ?_ ?_ _) | (with_reducible refine Below.setCell ?_ ?_ _) | (with_reducible refine below_step ?_ (by assumption) ?_) | (with_reducible refine below_step ?_ (below_regrown _ _ _) ?_) | go_size)) (by omega))).mono ?_; rintro e w1 ⟨rfl, hb⟩; obtain ⟨hS, hE, hz, hc, hf⟩ := bcell hb; (try simp only [go_sem] at hE); subst hE) | ((with_reducible change Code.wp _ (Code.region _ _ _) _ _ _); refine wp_region_quiet_below (by kernel_rfl) (by kernel_rfl) ?_; (repeat (first | go_big_quiet_step ((first | (go_at_call 12; (with_reducible refine Calls.regrown_of (cP _ (by repeat' (first | (with_reducible exact Below.refl _ _) | (with_reducible refine below_drewN ?_ _) | (with_reducible refine Below.drew ?_) | (with_reducible refine Below.alloc ?_ ?_ _) | (with_reducible refine Below.setCell ?_ ?_ _) | (with_reducible refine below_step ?_ (by assumption) ?_) | (with_reducible refine below_step ?_ (below_regrown _ _ _) ?_) | go_size))));) | (go_at_call 37; exact Calls.regrown_of (T _ (HE.out.below (B := w.heap.size) (by repeat' (first | (with_reducible exact Below.refl _ _) | (with_reducible refine below_drewN ?_ _) | (with_reducible refine Below.drew ?_) | (with_reducible refine Below.alloc ?_ ?_ _) | (with_reducible refine Below.setCell ?_ ?_ _) | (with_reducible refine below_step ?_ (by assumption) ?_) | (with_reducible refine below_step ?_ (below_regrown _ _ _) ?_) | go_size)) (by omega)))) | (go_at_call 38; exact Calls.regrown_of (N _ (HE.out.below (B := w.heap.size) (by repeat' (first | (with_reducible exact Below.refl _ _) | (with_reducible refine below_drewN ?_ _) | (with_reducible refine Below.drew ?_) | (with_reducible refine Below.alloc ?_ ?_ _) | (with_reducible refine Below.setCell ?_ ?_ _) | (with_reducible refine below_step ?_ (by assumption) ?_) | (with_reducible refine below_step ?_ (below_regrown _ _ _) ?_) | go_size)) (by omega)))))) | quiet_step ((first | (go_at_call 12; (with_reducible refine Calls.regrown_of (cP _ (by repeat' (first | (with_reducible exact Below.refl _ _) | (with_reducible refine below_drewN ?_ _) | (with_reducible refine Below.drew ?_) | (with_reducible refine Below.alloc ?_ ?_ _) | (with_reducible refine Below.setCell ?_ ?_ _) | (with_reducible refine below_step ?_ (by assumption) ?_) | (with_reducible refine below_step ?_ (below_regrown _ _ _) ?_) | go_size))));) | (go_at_call 37; exact Calls.regrown_of (T _ (HE.out.below (B := w.heap.size) (by repeat' (first | (with_reducible exact Below.refl _ _) | (with_reducible refine below_drewN ?_ _) | (with_reducible refine Below.drew ?_) | (with_reducible refine Below.alloc ?_ ?_ _) | (with_reducible refine Below.setCell ?_ ?_ _) | (with_reducible refine below_step ?_ (by assumption) ?_) | (with_reducible refine below_step ?_ (below_regrown _ _ _) ?_) | go_size)) (by omega)))) | (go_at_call 38; exact Calls.regrown_of (N _ (HE.out.below (B := w.heap.size) (by repeat' (first | (with_reducible exact Below.refl _ _) | (with_reducible refine below_drewN ?_ _) | (with_reducible refine Below.drew ?_) | (with_reducible refine Below.alloc ?_ ?_ _) | (with_reducible refine Below.setCell ?_ ?_ _) | (with_reducible refine below_step ?_ (by assumption) ?_) | (with_reducible refine below_step ?_ (below_regrown _ _ _) ?_) | go_size)) (by omega)))))))); refine wpQuiet_nil ?_; intro w1 hw1; have hb := below_of_regrown hw1; clear hw1; obtain ⟨hS, hE, hz, hc, hf⟩ := bcell hb; (try simp only [go_sem] at hE); subst hE))
      go_ret
      exact ⟨rfl, (by repeat' (first | (with_reducible exact Below.refl _ _) | (with_reducible refine below_drewN ?_ _) | (with_reducible refine Below.drew ?_) | (with_reducible refine Below.alloc ?_ ?_ _) | (with_reducible refine Below.setCell ?_ ?_ _) | (with_reducible refine below_step ?_ (by assumption) ?_) | (with_reducible refine below_step ?_ (below_regrown _ _ _) ?_) | go_size))⟩
    · rw [e] at cP ⊢
      rw [nm_box _ _ _ _ (by decide)]
      show Calls _ _ _ _ fun e w' => e = .returned (.string ⟨((84 : UInt8) :: _).toArray⟩) ∧ _
      rw [← v2.out]
      clear v1 v2 v3 e
      generalize (⟨(Lib.itoa (u : Int)).toArray⟩ : ByteArray) = t at *
      generalize nameS r c = nm at *
      obtain ⟨bA, bc, bs, pA, pc, ps, rA, rc, rs, arms⟩ := D
      unfold Dck.val Pt.val at cP
      unfold Dck.val
      dsimp only at cP ⊢
      go_enter Tryd.func16, Tryd.ntmps16
      go_wp2_with (first | (go_at_call 12; (with_reducible refine (cP _ (by repeat' (first | (with_reducible exact Below.refl _ _) | (with_reducible refine below_drewN ?_ _) | (with_reducible refine Below.drew ?_) | (with_reducible refine Below.alloc ?_ ?_ _) | (with_reducible refine Below.setCell ?_ ?_ _) | (with_reducible refine below_step ?_ (by assumption) ?_) | (with_reducible refine below_step ?_ (below_regrown _ _ _) ?_) | go_size))).mono ?_); rintro e w1 ⟨rfl, hb⟩; obtain ⟨hS, hE, hz, hc, hf⟩ := bcell hb; (try simp only [go_sem] at hE); subst hE) | (go_at_call 37; refine (T _ (HE.out.below (B := w.heap.size) (by repeat' (first | (with_reducible exact Below.refl _ _) | (with_reducible refine below_drewN ?_ _) | (with_reducible refine Below.drew ?_) | (with_reducible refine Below.alloc ?_ ?_ _) | (with_reducible refine Below.setCell ?_ ?_ _) | (with_reducible refine below_step ?_ (by assumption) ?_) | (with_reducible refine below_step ?_ (below_regrown _ _ _) ?_) | go_size)) (by omega))).mono ?_; rintro e w1 ⟨rfl, hb⟩; obtain ⟨hS, hE, hz, hc, hf⟩ := bcell hb; (try simp only [go_sem] at hE); subst hE) | (go_at_call 38; refine (N _ (HE.out.below (B := w.heap.size) (by repeat' (first | (with_reducible exact Below.refl _ _) | (with_reducible refine below_drewN ?_ _) | (with_reducible refine Below.drew ?_) | (with_reducible refine Below.alloc ?_ ?_ _) | (with_reducible refine Below.setCell ?_ ?_ _) | (with_reducible refine below_step ?_ (by assumption) ?_) | (with_reducible refine below_step ?_ (below_regrown _ _ _) ?_) | go_size)) (by omega))).mono ?_; rintro e w1 ⟨rfl, hb⟩; obtain ⟨hS, hE, hz, hc, hf⟩ := bcell hb; (try simp only [go_sem] at hE); subst hE) | ((with_reducible change Code.wp _ (Code.region _ _ _) _ _ _); refine wp_region_quiet_below (by kernel_rfl) (by kernel_rfl) ?_; (repeat (first | go_big_quiet_step ((first | (go_at_call 12; (with_reducible refine Calls.regrown_of (cP _ (by repeat' (first | (with_reducible exact Below.refl _ _) | (with_reducible refine below_drewN ?_ _) | (with_reducible refine Below.drew ?_) | (with_reducible refine Below.alloc ?_ ?_ _) | (with_reducible refine Below.setCell ?_ ?_ _) | (with_reducible refine below_step ?_ (by assumption) ?_) | (with_reducible refine below_step ?_ (below_regrown _ _ _) ?_) | go_size))));) | (go_at_call 37; exact Calls.regrown_of (T _ (HE.out.below (B := w.heap.size) (by repeat' (first | (with_reducible exact Below.refl _ _) | (with_reducible refine below_drewN ?_ _) | (with_reducible refine Below.drew ?_) | (with_reducible refine Below.alloc ?_ ?_ _) | (with_reducible refine Below.setCell ?_ ?_ _) | (with_reducible refine below_step ?_ (by assumption) ?_) | (with_reducible refine below_step ?_ (below_regrown _ _ _) ?_) | go_size)) (by omega)))) | (go_at_call 38; exact Calls.regrown_of (N _ (HE.out.below (B := w.heap.size) (by repeat' (first | (with_reducible exact Below.refl _ _) | (with_reducible refine below_drewN ?_ _) | (with_reducible refine Below.drew ?_) | (with_reducible refine Below.alloc ?_ ?_ _) | (with_reducible refine Below.setCell ?_ ?_ _) | (with_reducible refine below_step ?_ (by assumption) ?_) | (with_reducible refine below_step ?_ (below_regrown _ _ _) ?_) | go_size)) (by omega)))))) | quiet_step ((first | (go_at_call 12; (with_reducible refine Calls.regrown_of (cP _ (by repeat' (first | (with_reducible exact Below.refl _ _) | (with_reducible refine below_drewN ?_ _) | (with_reducible refine Below.drew ?_) | (with_reducible refine Below.alloc ?_ ?_ _) | (with_reducible refine Below.setCell ?_ ?_ _) | (with_reducible refine below_step ?_ (by assumption) ?_) | (with_reducible refine below_step ?_ (below_regrown _ _ _) ?_) | go_size))));) | (go_at_call 37; exact Calls.regrown_of (T _ (HE.out.below (B := w.heap.size) (by repeat' (first | (with_reducible exact Below.refl _ _) | (with_reducible refine below_drewN ?_ _) | (with_reducible refine Below.drew ?_) | (with_reducible refine Below.alloc ?_ ?_ _) | (with_reducible refine Below.setCell ?_ ?_ _) | (with_reducible refine below_step ?_ (by assumption) ?_) | (with_reducible refine below_step ?_ (below_regrown _ _ _) ?_) | go_size)) (by omega)))) | (go_at_call 38; exact Calls.regrown_of (N _ (HE.out.below (B := w.heap.size) (by repeat' (first | (with_reducible exact Below.refl _ _) | (with_reducible refine below_drewN ?_ _) | (with_reducible refine Below.drew ?_) | (with_reducible refine Below.alloc ?_ ?_ _) | (with_reducible refine Below.setCell ?_ ?_ _) | (with_reducible refine below_step ?_ (by assumption) ?_) | (with_reducible refine below_step ?_ (below_regrown _ _ _) ?_) | go_size)) (by omega)))))))); refine wpQuiet_nil ?_; intro w1 hw1; have hb := below_of_regrown hw1; clear hw1; obtain ⟨hS, hE, hz, hc, hf⟩ := bcell hb; (try simp only [go_sem] at hE); subst hE))
      go_ret
      exact ⟨rfl, (by repeat' (first | (with_reducible exact Below.refl _ _) | (with_reducible refine below_drewN ?_ _) | (with_reducible refine Below.drew ?_) | (with_reducible refine Below.alloc ?_ ?_ _) | (with_reducible refine Below.setCell ?_ ?_ _) | (with_reducible refine below_step ?_ (by assumption) ?_) | (with_reducible refine below_step ?_ (below_regrown _ _ _) ?_) | go_size))⟩
    · rw [e] at cP ⊢
      rw [nm_lane]
      show Calls _ _ _ _ fun e w' => e = .returned (.string ⟨((76 : UInt8) :: _).toArray⟩) ∧ _
      rw [← v3.out]
      clear v1 v2 v3 e
      generalize (⟨(Lib.itoa (u : Int)).toArray⟩ : ByteArray) = t at *
      generalize nameS r c = nm at *
      obtain ⟨bA, bc, bs, pA, pc, ps, rA, rc, rs, arms⟩ := D
      unfold Dck.val Pt.val at cP
      unfold Dck.val
      dsimp only at cP ⊢
      go_enter Tryd.func16, Tryd.ntmps16
      go_wp2_with (first | (go_at_call 12; (with_reducible refine (cP _ (by repeat' (first | (with_reducible exact Below.refl _ _) | (with_reducible refine below_drewN ?_ _) | (with_reducible refine Below.drew ?_) | (with_reducible refine Below.alloc ?_ ?_ _) | (with_reducible refine Below.setCell ?_ ?_ _) | (with_reducible refine below_step ?_ (by assumption) ?_) | (with_reducible refine below_step ?_ (below_regrown _ _ _) ?_) | go_size))).mono ?_); rintro e w1 ⟨rfl, hb⟩; obtain ⟨hS, hE, hz, hc, hf⟩ := bcell hb; (try simp only [go_sem] at hE); subst hE) | (go_at_call 37; refine (T _ (HE.out.below (B := w.heap.size) (by repeat' (first | (with_reducible exact Below.refl _ _) | (with_reducible refine below_drewN ?_ _) | (with_reducible refine Below.drew ?_) | (with_reducible refine Below.alloc ?_ ?_ _) | (with_reducible refine Below.setCell ?_ ?_ _) | (with_reducible refine below_step ?_ (by assumption) ?_) | (with_reducible refine below_step ?_ (below_regrown _ _ _) ?_) | go_size)) (by omega))).mono ?_; rintro e w1 ⟨rfl, hb⟩; obtain ⟨hS, hE, hz, hc, hf⟩ := bcell hb; (try simp only [go_sem] at hE); subst hE) | ((with_reducible change Code.wp _ (Code.region _ _ _) _ _ _); refine wp_region_quiet_below (by kernel_rfl) (by kernel_rfl) ?_; (repeat (first | go_big_quiet_step ((first | (go_at_call 12; (with_reducible refine Calls.regrown_of (cP _ (by repeat' (first | (with_reducible exact Below.refl _ _) | (with_reducible refine below_drewN ?_ _) | (with_reducible refine Below.drew ?_) | (with_reducible refine Below.alloc ?_ ?_ _) | (with_reducible refine Below.setCell ?_ ?_ _) | (with_reducible refine below_step ?_ (by assumption) ?_) | (with_reducible refine below_step ?_ (below_regrown _ _ _) ?_) | go_size))));) | (go_at_call 37; exact Calls.regrown_of (T _ (HE.out.below (B := w.heap.size) (by repeat' (first | (with_reducible exact Below.refl _ _) | (with_reducible refine below_drewN ?_ _) | (with_reducible refine Below.drew ?_) | (with_reducible refine Below.alloc ?_ ?_ _) | (with_reducible refine Below.setCell ?_ ?_ _) | (with_reducible refine below_step ?_ (by assumption) ?_) | (with_reducible refine below_step ?_ (below_regrown _ _ _) ?_) | go_size)) (by omega)))))) | quiet_step ((first | (go_at_call 12; (with_reducible refine Calls.regrown_of (cP _ (by repeat' (first | (with_reducible exact Below.refl _ _) | (with_reducible refine below_drewN ?_ _) | (with_reducible refine Below.drew ?_) | (with_reducible refine Below.alloc ?_ ?_ _) | (with_reducible refine Below.setCell ?_ ?_ _) | (with_reducible refine below_step ?_ (by assumption) ?_) | (with_reducible refine below_step ?_ (below_regrown _ _ _) ?_) | go_size))));) | (go_at_call 37; exact Calls.regrown_of (T _ (HE.out.below (B := w.heap.size) (by repeat' (first | (with_reducible exact Below.refl _ _) | (with_reducible refine below_drewN ?_ _) | (with_reducible refine Below.drew ?_) | (with_reducible refine Below.alloc ?_ ?_ _) | (with_reducible refine Below.setCell ?_ ?_ _) | (with_reducible refine below_step ?_ (by assumption) ?_) | (with_reducible refine below_step ?_ (below_regrown _ _ _) ?_) | go_size)) (by omega)))))))); refine wpQuiet_nil ?_; intro w1 hw1; have hb := below_of_regrown hw1; clear hw1; obtain ⟨hS, hE, hz, hc, hf⟩ := bcell hb; (try simp only [go_sem] at hE); subst hE))
      go_ret
      exact ⟨rfl, (by repeat' (first | (with_reducible exact Below.refl _ _) | (with_reducible refine below_drewN ?_ _) | (with_reducible refine Below.drew ?_) | (with_reducible refine Below.alloc ?_ ?_ _) | (with_reducible refine Below.setCell ?_ ?_ _) | (with_reducible refine below_step ?_ (by assumption) ?_) | (with_reducible refine below_step ?_ (below_regrown _ _ _) ?_) | go_size))⟩
end
end Go.Proofs.YtfckciblnojniaaDoor.Dk
