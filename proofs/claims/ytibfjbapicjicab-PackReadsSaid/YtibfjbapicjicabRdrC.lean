/- What Take and U do: the next bytes, the next number. No condition but sizes. -/
import Derived.Test.YtibfjbapicjicabRdrB
namespace Go.Proofs.Ytibfjbapicjicab.Pack
open Go.ChangeShapes Go.WideShapes Go.ChangeAt Go.RowKit Go.Proofs.Ytibfjbapicjicab.Kit Go.Proofs.Ytibfjbapicjicab.Mem
set_option linter.unusedVariables false
theorem bytes_up {w w' : World} {B n g : Nat} {A : Option Addr} {l : List Int} (h : Bytes w B A n l) (hu : w.grownBy w' (some g)) (hB : B ≤ g) (hw : B ≤ w.heap.size) : Bytes w' B A n l :=
  ⟨h.1, row_keep h.2 fun p hp => hu.cell_far p (by omega) (fun e => by injection e with e; omega)⟩
/-- The bytes that are taken. -/
def takeT (l : List Int) (p e m : Int) : List Int := if okT p e m l.length = true then (l.drop p.toNat).take m.toNat else []
def TakePost (g : Nat) (p e m : Int) (A : Option Addr) (l : List Int) (c : Nat) (w : World) (en : Ending) (w' : World) : Prop :=
  ∃ A2 c2, en = .returned (.slice A2 (takeT l p e m).length c2) ∧ w'.ownsRow w.heap.size 5 1 (.slice A2 (takeT l p e m).length c2) (takeT l p e m).length (BV (takeT l p e m)) ∧
    RB w' g (atT p e m l.length) (errT p e m l.length) A l.length c ∧ w.grownBy w' (some g) ∧ (takeT l p e m).length ≤ c2
section
variable (g : Nat) (p e m : Int) (A : Option Addr) (l : List Int) (c : Nat) (w : World)
theorem take_bad (h : RB w g p e A l.length c) (hp : 0 ≤ p ∧ p ≤ l.length) (hn : l.length ≤ 1099511627776) (hm : -9223372036854775808 ≤ m ∧ m ≤ 9223372036854775807) (hno : ¬ okT p e m l.length = true) :
    Calls Try.prog 12 #[.pointer (some ⟨g, 0, none⟩), .int .i64 m] w (TakePost g p e m A l c w) := by
  have own0 := own_empty w 5
  have hgl := (rb_facts h).1
  have ht : takeT l p e m = [] := by unfold takeT; rw [if_neg hno]
  have ha : atT p e m l.length = p := by unfold atT; rw [if_neg hno]
  have HT := hide ht
  have HA := hide ha
  clear ht ha
  go_enter Try.func12, Try.ntmps12
  go_wp2_with (first | (go_at_call 28; refine (next_bad g p e m A l.length c _ (rb_alloc h _) hp hn hm hno).mono ?_; rintro en w1 ⟨rfl, hrb, hu⟩; have own1 := own0.kept hu (.inr (by simp [Value.ownBlock]; omega))) | (at_builtin; refine app_u8_0 rfl _ _ rfl w.heap.size _ _ rfl own1 0 none 0 0 [] rfl (bytes_nil _ _ _) (by omega) (by have := hu.size; simp at this; omega) ?_; intro A1 c1 w2 hown hgrow hbel hcap hcm))
  go_ret
  unfold TakePost
  rw [HT.out, HA.out]
  exact ⟨A1, c1, rfl, hown, rb_below hrb hbel hgl, up_below ((up_alloc (up_refl _ _) _).trans hu) hbel (Nat.le_refl _), hcap⟩
theorem take_ok (k q : Nat) (h : RB w g k 0 A l.length c) (hb : Bytes w g A l.length l) (hm : k + q ≤ l.length) (hn : l.length ≤ 1099511627776) (hc : l.length ≤ c) (hcm : c ≤ 9223372036854775807) :
    Calls Try.prog 12 #[.pointer (some ⟨g, 0, none⟩), .int .i64 q] w (TakePost g k 0 q A l c w) := by
  have own0 := own_empty w 5
  have hgl := (rb_facts h).1
  have hok : okT k 0 q l.length = true := okT_true _ _ _ _ (by omega)
  have ht : takeT l k 0 q = (l.drop k).take q := by unfold takeT; rw [if_pos hok]; simp
  have ha : atT k 0 q l.length = (k : Int) + q := by unfold atT; rw [if_pos hok]
  have he : errT k 0 q l.length = 0 := by unfold errT; rw [if_neg (by omega), if_neg (by omega)]
  have htl : ((l.drop k).take q).length = q := by simp; omega
  have HT := hide ht
  have HA := hide ha
  have HE := hide he
  have HL := hide htl
  clear ht ha he hok htl
  go_enter Try.func12, Try.ntmps12
  go_wp2_with (first | (go_at_call 28; refine (next_ok g A l.length c _ k q (rb_alloc h _) hm hn hc hcm).mono ?_; rintro en w1 ⟨rfl, hrb, hu⟩; have own1 := own0.kept hu (.inr (by simp [Value.ownBlock]; omega)); have hb1 := bytes_take (bytes_cut (bytes_up (bytes_alloc hb (by omega) _) hu (Nat.le_refl _) (by simp; omega)) (k := k) (c := c) (by omega) hc) (k := q) (by omega); generalize (if c = k then A else A.map (·.add k)) = A3 at hb1 ⊢) | (at_builtin; refine app_u8_0 rfl _ _ rfl w.heap.size _ _ rfl own1 _ _ _ _ _ rfl hb1 (by omega) (by have := hu.size; simp at this; omega) ?_; intro A1 c1 w2 hown hgrow hbel hcap hcm))
  go_ret
  unfold TakePost
  rw [HT.out, HA.out, HE.out, HL.out]
  exact ⟨A1, c1, rfl, hown, rb_below hrb hbel hgl, up_below ((up_alloc (up_refl _ _) _).trans hu) hbel (Nat.le_refl _), hcap⟩
theorem take_any (h : RB w g p e A l.length c) (hb : Bytes w g A l.length l) (hp : 0 ≤ p ∧ p ≤ l.length) (hn : l.length ≤ 1099511627776) (hc : l.length ≤ c) (hcm : c ≤ 9223372036854775807) (hm : -9223372036854775808 ≤ m ∧ m ≤ 9223372036854775807) :
    Calls Try.prog 12 #[.pointer (some ⟨g, 0, none⟩), .int .i64 m] w (TakePost g p e m A l c w) := by
  by_cases hok : okT p e m l.length = true
  · have h2 : 0 ≤ m ∧ m ≤ l.length - p ∧ e = 0 := by unfold okT at hok; exact of_decide_eq_true hok
    obtain ⟨k, rfl⟩ := Int.eq_ofNat_of_zero_le hp.1
    obtain ⟨q, rfl⟩ := Int.eq_ofNat_of_zero_le h2.1
    obtain rfl := h2.2.2
    exact take_ok g A l c w k q h hb (by omega) hn hc hcm
  · exact take_bad g p e m A l c w h hp hn hm hok
end
end Go.Proofs.Ytibfjbapicjicab.Pack
