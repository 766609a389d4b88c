/- What the reference of the reader does: Fail, End, Take, U. No condition but sizes. -/
import Derived.Test.YtibfjbapicjicabRdrE
namespace Go.Proofs.Ytibfjbapicjicab.Pack
open Go.ChangeShapes Go.WideShapes Go.ChangeAt Go.RowKit Go.Proofs.Ytibfjbapicjicab.Kit Go.Proofs.Ytibfjbapicjicab.Mem
set_option linter.unusedVariables false
theorem ret_rr {A : Option Addr} {n c : Nat} {p e e' : Int} (h : e = e') : Ending.returned (.agg #[.slice A n c, .int .i64 (p), .int .i64 (e)]) = .returned (.agg #[.slice A n c, .int .i64 (p), .int .i64 (e')]) := by rw [h]
section
variable (A : Option Addr) (n c : Nat) (p e x : Int) (w : World)
theorem rfail_any : Calls Try.prog 35 #[.agg #[.slice A n c, .int .i64 (p), .int .i64 (e)], .int .i64 x] w fun en w' => en = .returned (.agg #[.slice A n c, .int .i64 (p), .int .i64 (failE e x)]) ∧ Below w.heap.size w w' := by
  by_cases he : e = 0
  · subst he
    have Q := hide (show failE 0 x = x by unfold failE; rw [if_pos rfl])
    go_enter Try.func35, Try.ntmps35
    go_wp2
    (refine bodyPost_ret (v := .agg #[.slice A n c, .int .i64 (p), .int .i64 (x)]) ?_ rfl ⟨?_, (by repeat' (first | (with_reducible exact Below.refl _ _) | (with_reducible refine below_drewN ?_ _) | (with_reducible refine Below.drew ?_) | (with_reducible refine Below.alloc ?_ ?_ _) | (with_reducible refine Below.setCell ?_ ?_ _) | (with_reducible refine below_step ?_ (by assumption) ?_) | go_size))⟩; (simp only [results, Try.results35]; go_simp); exact ret_rr Q.out.symm)
  · have hb : (e == 0) = false := by simpa using he
    have Q := hide (show failE e x = e by unfold failE; rw [if_neg he])
    go_enter Try.func35, Try.ntmps35
    go_wp2
    (refine bodyPost_ret (v := .agg #[.slice A n c, .int .i64 (p), .int .i64 (e)]) ?_ rfl ⟨?_, (by repeat' (first | (with_reducible exact Below.refl _ _) | (with_reducible refine below_drewN ?_ _) | (with_reducible refine Below.drew ?_) | (with_reducible refine Below.alloc ?_ ?_ _) | (with_reducible refine Below.setCell ?_ ?_ _) | (with_reducible refine below_step ?_ (by assumption) ?_) | go_size))⟩; (simp only [results, Try.results35]; go_simp); exact ret_rr Q.out.symm)
theorem rend_any : Calls Try.prog 34 #[.agg #[.slice A n c, .int .i64 (p), .int .i64 (e)]] w fun en w' => en = .returned (.agg #[.slice A n c, .int .i64 (p), .int .i64 (if p < n then failE e 251 else e)]) ∧ Below w.heap.size w w' := by
  by_cases hlt : p < n
  · rw [if_pos hlt]
    have Q := hide (Eq.refl (failE e 251))
    go_enter Try.func34, Try.ntmps34
    go_wp2_with (first | (go_at_call 35; refine (rfail_any _ _ _ _ _ _ _).mono ?_; rintro e w1 ⟨rfl, hb⟩; obtain ⟨hS, hE, hz, hc, hf⟩ := bcell hb; (try simp only [go_sem] at hE); subst hE))
    refine bodyPost_ret (v := .agg #[.slice A n c, .int .i64 (p), .int .i64 (failE e 251)]) ?_ rfl ⟨rfl, (by repeat' (first | (with_reducible exact Below.refl _ _) | (with_reducible refine below_drewN ?_ _) | (with_reducible refine Below.drew ?_) | (with_reducible refine Below.alloc ?_ ?_ _) | (with_reducible refine Below.setCell ?_ ?_ _) | (with_reducible refine below_step ?_ (by assumption) ?_) | go_size))⟩
    simp only [results, Try.results34]
    go_simp
  · rw [if_neg hlt]
    go_enter Try.func34, Try.ntmps34
    go_wp2
    refine bodyPost_ret (v := .agg #[.slice A n c, .int .i64 (p), .int .i64 (e)]) ?_ rfl ⟨rfl, (by repeat' (first | (with_reducible exact Below.refl _ _) | (with_reducible refine below_drewN ?_ _) | (with_reducible refine Below.drew ?_) | (with_reducible refine Below.alloc ?_ ?_ _) | (with_reducible refine Below.setCell ?_ ?_ _) | (with_reducible refine below_step ?_ (by assumption) ?_) | go_size))⟩
    simp only [results, Try.results34]
    go_simp
end
theorem bcellB {B : Nat} {W w1 : World} (hb : Below B W w1) :
    ∃ S, S = W.heap.size ∧ S ≤ w1.heap.size ∧ (∀ b o, ltA b B → w1.cell? ⟨b, o, none⟩ = W.cell? ⟨b, o, none⟩) ∧ (∀ b o, ltA b B → w1.frozen? ⟨b, o, none⟩ = W.frozen? ⟨b, o, none⟩) :=
  ⟨_, rfl, hb.size, fun b o h => hb.cell (p := ⟨b, o, none⟩) h, fun b o h => hb.frozen (p := ⟨b, o, none⟩) h⟩
theorem own_set {w : World} {base g j size n : Nat} {e : TypeId} {v : Value} {xs : List Value} (h : w.ownsRow base e size v n xs) (hg : g < base) (u : Value) : (w.setCell ⟨g, j, none⟩ u).ownsRow base e size v n xs :=
  ownsRow_setCell_below h hg u
theorem own_base {w : World} {base base' size n : Nat} {e : TypeId} {v : Value} {xs : List Value} (h : w.ownsRow base e size v n xs) (hb : base' ≤ base) : w.ownsRow base' e size v n xs := by
  obtain ⟨h1, h2⟩ := h
  rcases h2 with h2 | ⟨g, cap, cur, hv, hg, r⟩
  · exact ⟨h1, .inl h2⟩
  · exact ⟨h1, .inr ⟨g, cap, cur, hv, by omega, r⟩⟩
def RTakePost (A : Option Addr) (l : List Int) (c : Nat) (p e m : Int) (w : World) (en : Ending) (w' : World) : Prop :=
  ∃ A2 c2, en = .returned (.tuple #[.agg #[.slice A l.length c, .int .i64 (atT p e m l.length), .int .i64 (errT p e m l.length)], .slice A2 (takeT l p e m).length c2]) ∧ w'.ownsRow w.heap.size 5 1 (.slice A2 (takeT l p e m).length c2) (takeT l p e m).length (BV (takeT l p e m)) ∧ Below w.heap.size w w'
theorem ret_rt {A : Option Addr} {l : List Int} {c : Nat} {p e p' e' : Int} {v : Value} (h : p = p') (h2 : e = e') : Ending.returned (.tuple #[.agg #[.slice A l.length c, .int .i64 (p), .int .i64 (e)], v]) = .returned (.tuple #[.agg #[.slice A l.length c, .int .i64 (p'), .int .i64 (e')], v]) := by rw [h, h2]
section
variable (A : Option Addr) (l : List Int) (c : Nat) (p e m : Int) (w : World)
set_option maxHeartbeats 400000
theorem rtake_bad (hp : 0 ≤ p ∧ p ≤ l.length) (hn : l.length ≤ 1099511627776) (hno : ¬ okT p e m l.length = true) : Calls Try.prog 33 #[.agg #[.slice A l.length c, .int .i64 (p), .int .i64 (e)], .int .i64 m] w (RTakePost A l c p e m w) := by
  have ht : takeT l p e m = [] := by unfold takeT; rw [if_neg hno]
  have ha : atT p e m l.length = p := by unfold atT; rw [if_neg hno]
  have hne := errT_ne p e m l.length hno
  unfold RTakePost
  rw [ht, ha]
  clear ht ha
  by_cases h1 : m < 0
  · have he : errT p e m l.length = failE e 1 := by unfold errT; rw [if_pos h1]
    rw [he]
    clear he hne hno
    go_enter Try.func33, Try.ntmps33
    go_wp2_with (first | (go_at_call 35; refine (rfail_any _ _ _ _ _ _ _).mono ?_; rintro e w1 ⟨rfl, hb⟩; obtain ⟨hS, hE, hz, hc, hf⟩ := bcell hb; (try simp only [go_sem] at hE); subst hE))
    refine bodyPost_ret (v := .tuple #[.agg #[.slice A l.length c, .int .i64 (p), .int .i64 (failE e 1)], .slice none 0 0]) ?_ rfl ⟨none, 0, rfl, World.ownsRow_nil _ _ _ _, (by repeat' (first | (with_reducible exact Below.refl _ _) | (with_reducible refine below_drewN ?_ _) | (with_reducible refine Below.drew ?_) | (with_reducible refine Below.alloc ?_ ?_ _) | (with_reducible refine Below.setCell ?_ ?_ _) | (with_reducible refine below_step ?_ (by assumption) ?_) | go_size))⟩
    simp only [results, Try.results33]
    go_simp
  · by_cases h2 : l.length - p < m
    · have he : errT p e m l.length = failE e 250 := by unfold errT; rw [if_neg h1, if_pos h2]
      rw [he]
      clear he hne hno
      go_enter Try.func33, Try.ntmps33
      go_wp2_with (first | (go_at_call 35; refine (rfail_any _ _ _ _ _ _ _).mono ?_; rintro e w1 ⟨rfl, hb⟩; obtain ⟨hS, hE, hz, hc, hf⟩ := bcell hb; (try simp only [go_sem] at hE); subst hE))
      refine bodyPost_ret (v := .tuple #[.agg #[.slice A l.length c, .int .i64 (p), .int .i64 (failE e 250)], .slice none 0 0]) ?_ rfl ⟨none, 0, rfl, World.ownsRow_nil _ _ _ _, (by repeat' (first | (with_reducible exact Below.refl _ _) | (with_reducible refine below_drewN ?_ _) | (with_reducible refine Below.drew ?_) | (with_reducible refine Below.alloc ?_ ?_ _) | (with_reducible refine Below.setCell ?_ ?_ _) | (with_reducible refine below_step ?_ (by assumption) ?_) | go_size))⟩
      simp only [results, Try.results33]
      go_simp
    · have he : errT p e m l.length = e := by unfold errT; rw [if_neg h1, if_neg h2]
      rw [he] at hne ⊢
      have hb : (e != 0) = true := by simpa using hne
      clear he hne hno
      go_enter Try.func33, Try.ntmps33
      go_wp2
      refine bodyPost_ret (v := .tuple #[.agg #[.slice A l.length c, .int .i64 (p), .int .i64 (e)], .slice none 0 0]) ?_ rfl ⟨none, 0, rfl, World.ownsRow_nil _ _ _ _, (by repeat' (first | (with_reducible exact Below.refl _ _) | (with_reducible refine below_drewN ?_ _) | (with_reducible refine Below.drew ?_) | (with_reducible refine Below.alloc ?_ ?_ _) | (with_reducible refine Below.setCell ?_ ?_ _) | (with_reducible refine below_step ?_ (by assumption) ?_) | go_size))⟩
      simp only [results, Try.results33]
      go_simp
theorem rtake_ok (k q : Nat) (hb : Bytes w w.heap.size A l.length l) (hm : k + q ≤ l.length) (hn : l.length ≤ 1099511627776) (hc : l.length ≤ c) (hcm : c ≤ 9223372036854775807) :
    Calls Try.prog 33 #[.agg #[.slice A l.length c, .int .i64 (k), .int .i64 (0)], .int .i64 q] w (RTakePost A l c k 0 q w) := by
  have hok : okT k 0 q l.length = true := okT_true _ _ _ _ (by omega)
  have ht : takeT l k 0 q = (l.drop k).take q := by unfold takeT; rw [if_pos hok]; simp
  have ha : atT k 0 q l.length = (k : Int) + q := by unfold atT; rw [if_pos hok]
  have he : errT k 0 q l.length = 0 := by unfold errT; rw [if_neg (by omega), if_neg (by omega)]
  have htl : ((l.drop k).take q).length = q := by simp; omega
  unfold RTakePost
  rw [ht, ha, he, htl]
  clear ht ha he hok htl
  have HB : ∀ o1 o2 o3, Bytes (((w.alloc o1).alloc o2).alloc o3) w.heap.size (if c = k then A else A.map (·.add k)) (k + q - k) ((l.drop k).take q) := fun o1 o2 o3 => by rw [Nat.add_sub_cancel_left]; exact bytes_take (bytes_cut (bytes_alloc (bytes_alloc (bytes_alloc hb (Nat.le_refl _) o1) (by simp) o2) (by simp; omega) o3) (k := k) (c := c) (by omega) hc) (k := q) (by omega)
  have HO : ∀ o1 o2, (((w.alloc o1).alloc o2).alloc (.cells #[] 5)).ownsRow (w.heap.size + 1 + 1) 5 1 (.slice (some ⟨w.heap.size + 1 + 1, 0, none⟩) 0 0) 0 (BV []) := fun o1 o2 => by
    have := own_empty ((w.alloc o1).alloc o2) 5
    simpa using this
  have HB := hide HB
  have HO := hide HO
  go_enter Try.func33, Try.ntmps33
  go_wp2_with (at_builtin; refine app_u8_0 rfl _ _ rfl (w.heap.size + 1 + 1) _ _ rfl (HO.out _ _) w.heap.size _ _ _ _ rfl (HB.out _ _ _) (by omega) (by simp) ?_; rw [Nat.add_sub_cancel_left]; intro A1 c1 w1 hown hgrow hbel hcap hcm1; obtain ⟨hS, hE, hz, hC, hF⟩ := bcellB hbel; (try simp only [go_sem] at hE); subst hE; generalize (if c = k then A else Option.map (fun x => x.add k) A) = A9)
  have hbelW : Below w.heap.size w w1 := ((((Below.refl _ _).alloc (Nat.le_refl _) _).alloc (by simp) _).alloc (by simp; omega) _).trans (hbel.mono (by omega))
  refine bodyPost_ret (v := .tuple #[.agg #[.slice A l.length c, .int .i64 ((k : Int) + q), .int .i64 (0)], .slice A1 q c1]) ?_ rfl ⟨A1, c1, rfl, ?_, ?_⟩
  · simp only [results, Try.results33]
    go_simp
  · refine own_base (base := w.heap.size + 1 + 1) ?_ (by omega)
    repeat (refine own_set ?_ (by omega) _)
    exact hown
  · repeat (with_reducible refine Below.setCell ?_ (by simp) _)
    exact hbelW
theorem rtake_any (hb : Bytes w w.heap.size A l.length l) (hp : 0 ≤ p ∧ p ≤ l.length) (hn : l.length ≤ 1099511627776) (hc : l.length ≤ c) (hcm : c ≤ 9223372036854775807) :
    Calls Try.prog 33 #[.agg #[.slice A l.length c, .int .i64 (p), .int .i64 (e)], .int .i64 m] w (RTakePost A l c p e m w) := by
  by_cases hok : okT p e m l.length = true
  · have h2 : 0 ≤ m ∧ m ≤ l.length - p ∧ e = 0 := by unfold okT at hok; exact of_decide_eq_true hok
    obtain ⟨k, rfl⟩ := Int.eq_ofNat_of_zero_le hp.1
    obtain ⟨q, rfl⟩ := Int.eq_ofNat_of_zero_le h2.1
    obtain rfl := h2.2.2
    exact rtake_ok A l c w k q hb (by omega) hn hc hcm
  · exact rtake_bad A l c p e m w hp hn hok
end
end Go.Proofs.Ytibfjbapicjicab.Pack
