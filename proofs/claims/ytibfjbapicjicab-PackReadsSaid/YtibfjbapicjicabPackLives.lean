/- The short run of the pack layer comes out. No condition. -/
import Derived.Test.YtibfjbapicjicabRdrE
namespace Go.Proofs.Ytibfjbapicjicab.Pack
open Go.ChangeShapes Go.WideShapes Go.ChangeAt Go.RowKit Go.Proofs.Ytibfjbapicjicab.Kit Go.Proofs.Ytibfjbapicjicab.Mem
set_option linter.unusedVariables false
theorem own_up {w w' : World} {base g size n : Nat} {e : TypeId} {v : Value} {xs : List Value} (h : w.ownsRow base e size v n xs) (hu : w.grownBy w' (some g)) (hg : g < base) : w'.ownsRow base e size v n xs :=
  h.kept hu (.inr fun e => by have := (h.lt g e).1; omega)
theorem own_below {w w' : World} {base B size n : Nat} {e : TypeId} {v : Value} {xs : List Value} (h : w.ownsRow base e size v n xs) (hb : Below B w w') (hB : w.heap.size ≤ B) : w'.ownsRow base e size v n xs := by
  refine h.kept (row := none) ⟨hb.os, hb.tape, hb.output, hb.size, fun k hk _ => hb.block k (by omega)⟩ ?_
  rcases h' : v.ownBlock with _ | k
  · exact .inl rfl
  · exact .inr (by simp)
theorem put_is {A : Option Addr} {n c : Nat} {l L : List Int} {v wd : Int} {B : Nat} {w : World} (hb : Bytes w B A n l) (hB : B ≤ w.heap.size) (hn : n ≤ 1099511627776) (hv : 0 ≤ v ∧ v ≤ 18446744073709551615) (he : putL l v wd = L) :
    Calls Try.prog 8 #[.slice A n c, .int .u64 v, .int .i64 wd] w (PutPost w L) := he ▸ put_any A n c l v wd B w hb hB hn hv
theorem bytes_four (w : World) (x y z u : Int) (t : TypeId) : Bytes (w.alloc (.cells #[.int .u8 x, .int .u8 y, .int .u8 z, .int .u8 u] t)) (w.heap.size + 1) (some ⟨w.heap.size, 0, none⟩) 4 [x, y, z, u] :=
  ⟨rfl, row_of (row_new w (BV [x, y, z, u]) t) fun j hj => bv_get _ j hj⟩
theorem u_is {g : Nat} {p e m v p2 e2 : Int} {A : Option Addr} {l : List Int} {c : Nat} {w : World} (h : RB w g p e A l.length c) (hb : Bytes w g A l.length l) (hr : ∀ x ∈ l, 0 ≤ x ∧ x ≤ 255) (hp : 0 ≤ p ∧ p ≤ l.length) (hn : l.length ≤ 1099511627776) (hc : l.length ≤ c) (hcm : c ≤ 9223372036854775807) (hm : -9223372036854775808 ≤ m ∧ m ≤ 9223372036854775807)
    (hv : uVal l p e m = v) (h2 : uAt p e m l.length = p2) (h3 : uErr p e m l.length = e2) :
    Calls Try.prog 13 #[.pointer (some ⟨g, 0, none⟩), .int .i64 m] w fun en w' => en = .returned (.int .u64 v) ∧ RB w' g p2 e2 A l.length c ∧ w.grownBy w' (some g) := by
  have := u_any g p e m A l c w h hb hr hp hn hc hcm hm
  rw [hv, h2, h3] at this
  exact this
theorem i_is {g : Nat} {p e m v p2 e2 : Int} {A : Option Addr} {l : List Int} {c : Nat} {w : World} (h : RB w g p e A l.length c) (hb : Bytes w g A l.length l) (hr : ∀ x ∈ l, 0 ≤ x ∧ x ≤ 255) (hp : 0 ≤ p ∧ p ≤ l.length) (hn : l.length ≤ 1099511627776) (hc : l.length ≤ c) (hcm : c ≤ 9223372036854775807) (hm : -9223372036854775808 ≤ m ∧ m ≤ 9223372036854775807)
    (hv : iVal l p e m = v) (h2 : uAt p e m l.length = p2) (h3 : uErr p e m l.length = e2) :
    Calls Try.prog 20 #[.pointer (some ⟨g, 0, none⟩), .int .i64 m] w fun en w' => en = .returned (.int .i64 v) ∧ RB w' g p2 e2 A l.length c ∧ w.grownBy w' (some g) := by
  have := i_any g p e m A l c w h hb hr hp hn hc hcm hm
  rw [hv, h2, h3] at this
  exact this
def TakeIs (g : Nat) (p e : Int) (A : Option Addr) (l : List Int) (c : Nat) (L : List Int) (w : World) (en : Ending) (w' : World) : Prop :=
  ∃ A2 c2, en = .returned (.slice A2 L.length c2) ∧ w'.ownsRow w.heap.size 5 1 (.slice A2 L.length c2) L.length (BV L) ∧ RB w' g p e A l.length c ∧ w.grownBy w' (some g) ∧ L.length ≤ c2
theorem take_is {g : Nat} {p e m p2 e2 : Int} {A : Option Addr} {l L : List Int} {c : Nat} {w : World} (h : RB w g p e A l.length c) (hb : Bytes w g A l.length l) (hp : 0 ≤ p ∧ p ≤ l.length) (hn : l.length ≤ 1099511627776) (hc : l.length ≤ c) (hcm : c ≤ 9223372036854775807) (hm : -9223372036854775808 ≤ m ∧ m ≤ 9223372036854775807)
    (hv : takeT l p e m = L) (h2 : atT p e m l.length = p2) (h3 : errT p e m l.length = e2) :
    Calls Try.prog 12 #[.pointer (some ⟨g, 0, none⟩), .int .i64 m] w (TakeIs g p2 e2 A l c L w) := by
  refine (take_any g p e m A l c w h hb hp hn hc hcm hm).mono ?_
  rintro en w' ⟨A2, c2, h4, h5, h6, h7, h8⟩
  rw [hv] at h4 h5 h8
  rw [h2, h3] at h6
  exact ⟨A2, c2, h4, h5, h6, h7, h8⟩

set_option maxHeartbeats 1000000 in
theorem lives_any (w : World) : Calls Try.prog 7 #[] w fun e w' => e = .returned (.bool true) ∧ Below w.heap.size w w' := by
  have hr4 : ∀ x ∈ ([7, 1, 2, 255] : List Int), 0 ≤ x ∧ x ≤ 255 := by decide
  have hp1 : putL [7] 258 2 = [7, 1, 2] := by decide
  have hp2 : putL [7, 1, 2] 18446744073709551615 1 = [7, 1, 2, 255] := by decide
  have HP1 := hide hp1
  have HP2 := hide hp2
  have HR := hide hr4
  clear hp1 hp2 hr4
  go_enter Try.func7, Try.ntmps7
  go_wp2_with fail
  refine (put_is (bytes_one w 7 5) (by simp) (by omega) (by omega) HP1.out).mono ?_
  rintro en w1 ⟨A1, c1, rfl, ho1, hb1, hc1, hm1⟩
  go_wp2_with fail
  refine (put_is (bytes_of_own ho1) (Nat.le_refl _) (by simp) (by omega) HP2.out).mono ?_
  rintro en w2 ⟨A2, c2, rfl, ho2, hb2, hc2, hm2⟩
  go_wp2_with fail
  refine (from_any _ _ _ _ _ _ (bytes_of_own ho2) (Nat.le_refl _) (by simp)).mono ?_
  rintro en w3 ⟨g, A3, c3, rfl, hg3, hrb3, hby3, hb3, hc3, hm3⟩
  have hg3' : g < w3.heap.size := (rb_facts hrb3).1
  unfold maxLen at hm3
  have t1 : takeT [7, 1, 2, 255] 0 0 1 = [7] := by decide +kernel
  have t2 : uVal [7, 1, 2, 255] 1 0 2 = 258 := by decide +kernel
  have t3 : iVal [7, 1, 2, 255] 3 0 1 = -1 := by decide +kernel
  have t4 : uVal [7, 1, 2, 255] 4 0 1 = 0 := by decide +kernel
  have T1 := hide t1
  have T2 := hide t2
  have T3 := hide t3
  have T4 := hide t4
  clear t1 t2 t3 t4
  go_wp2_with fail
  refine (take_is (p2 := 1) (e2 := 0) hrb3 hby3 (by decide) (by decide) hc3 hm3 (by decide) T1.out (by decide +kernel) (by decide +kernel)).mono ?_
  rintro en w4 ⟨A4, c4, rfl, ho4, hrb4, hu4, hc4⟩
  have hby4 := bytes_up hby3 hu4 (Nat.le_refl _) (by omega)
  go_wp2_with fail
  refine (u_is (p2 := 3) (e2 := 0) hrb4 hby4 HR.out (by decide) (by decide) hc3 hm3 (by decide) T2.out (by decide +kernel) (by decide +kernel)).mono ?_
  rintro en w5 ⟨rfl, hrb5, hu5⟩
  have hby5 := bytes_up hby4 hu5 (Nat.le_refl _) (by have := (rb_facts hrb4).1; omega)
  have ho5 := own_up ho4 hu5 hg3'
  go_wp2_with fail
  refine (i_is (p2 := 4) (e2 := 0) hrb5 hby5 HR.out (by decide) (by decide) hc3 hm3 (by decide) T3.out (by decide +kernel) (by decide +kernel)).mono ?_
  rintro en w6 ⟨rfl, hrb6, hu6⟩
  have hby6 := bytes_up hby5 hu6 (Nat.le_refl _) (by have := (rb_facts hrb5).1; omega)
  have ho6 := own_up ho5 hu6 hg3'
  go_wp2_with fail
  refine (end_any g 4 0 A3 [7, 1, 2, 255] c3 _ hrb6 (by decide) (by decide)).mono ?_
  rintro en w7 ⟨rfl, hrb7, hu7⟩
  rw [if_neg (by decide)] at hrb7
  have hby7 := bytes_up hby6 hu7 (Nat.le_refl _) (by have := (rb_facts hrb6).1; omega)
  have ho7 := own_up ho6 hu7 hg3'
  go_wp2_with fail
  refine (err_any g 4 0 A3 _ c3 _ hrb7).mono ?_
  rintro en w8 ⟨rfl, hrb8, hu8⟩
  have hby8 := bytes_up hby7 hu8 (Nat.le_refl _) (by have := (rb_facts hrb7).1; omega)
  have ho8 := own_up ho7 hu8 hg3'
  go_wp2_with fail
  refine (u_is (p2 := 4) (e2 := 250) hrb8 hby8 HR.out (by decide) (by decide) hc3 hm3 (by decide) T4.out (by decide +kernel) (by decide +kernel)).mono ?_
  rintro en w9 ⟨rfl, hrb9, hu9⟩
  have ho9 := own_up ho8 hu9 hg3'
  have hul : w3.grownBy w9 (some g) := hu4.trans (hu5.trans (hu6.trans (hu7.trans (hu8.trans hu9))))
  have hs23 := hb3.size
  have hs39 := hul.size
  have hbb : Bytes w9 w2.heap.size A2 4 [7, 1, 2, 255] := bytes_up (bytes_below (bytes_of_own ho2) hb3 (Nat.le_refl _)) hul hg3 hs23
  have hx9 := bytes_of_own ho9
  clear hrb3 hby3 hrb4 hby4 hrb5 hby5 hrb6 hby6 hrb7 hby7 hrb8 hby8 hu4 hu5 hu6 hu7 hu8 hu9 ho4 ho5 ho6 ho7 ho8 ho9 ho1 ho2
  have S1 := hide (sameB_self [7, 1, 2, 255])
  have S2 := hide (sameB_self [7])
  go_wp2_with fail
  refine (same_any (bytes_alloc hbb (by omega) _) (bytes_four w9 7 1 2 255 5)).mono ?_
  rw [S1.out]
  rintro en w10 ⟨rfl, rfl⟩
  go_wp2_with fail
  refine (same_any (bytes_alloc (bytes_alloc hx9 (Nat.le_refl _) _) (by simp) _) (bytes_one_at _ 7 5 (b := w9.heap.size + 1) (by simp))).mono ?_
  rw [S2.out]
  rintro en w10 ⟨rfl, rfl⟩
  go_wp2_with fail
  refine (err_any g 4 250 A3 _ c3 _ (rb_alloc (rb_alloc hrb9 _) _)).mono ?_
  rintro en w10 ⟨rfl, hrb10, hu10⟩
  go_wp2_with fail
  refine (at_any g 4 250 A3 _ c3 _ hrb10).mono ?_
  rintro en w11 ⟨rfl, hrb11, hu11⟩
  go_wp2_with fail
  refine (left_any g 4 250 A3 _ c3 _ hrb11 (by decide) (by decide)).mono ?_
  rintro en w12 ⟨rfl, hrb12, hu12⟩
  go_wp2_with fail
  go_ret
  refine ⟨rfl, ?_⟩
  have hall : w3.grownBy w12 (some g) := (up_alloc (up_alloc hul _) _).trans (hu10.trans (hu11.trans hu12))
  have hs1 := hb1.size
  have hs2 := hb2.size
  simp only [World.size_alloc] at hs1
  have k3 : Below w.heap.size w w3 := ((((Below.refl _ _).alloc (Nat.le_refl _) _).trans (hb1.mono (by simp))).trans (hb2.mono (by omega))).trans (hb3.mono (by omega))
  exact k3.trans ⟨hall.os, hall.tape, hall.output, hall.size, fun k hk => hall.block k (by omega) (by intro e; injection e with e; omega)⟩
end Go.Proofs.Ytibfjbapicjicab.Pack
