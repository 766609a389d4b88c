/- The sum of a list of numbers by the reference. No condition. -/
import Derived.Test.YtbgakceljbigjaaDoorNumG
import Derived.Test.YtbgakceljbigjaaDoorAppT
namespace Go.Proofs.YtbgakceljbigjaaDoor.Num
open Go.ChangeShapes Go.WideShapes Go.ChangeAt Go.RowKit Go.Proofs.YtbgakceljbigjaaDoor.Kit Go.Proofs.YtbgakceljbigjaaDoor.Wide Go.Deep Go.Proofs.YtbgakceljbigjaaDoor.Mem
set_option linter.unusedVariables false
set_option linter.unusedSimpArgs false
def lenOf : Value → Nat
  | .slice _ n _ => n
  | _ => 0
def upsL (l : List Int) : List Int := l.filter fun x => decide (0 ≤ x)
def downsL (l : List Int) : List Int := l.filter fun x => decide (x < 0)
theorem split_sum (l : List Int) : (upsL l).sum + (downsL l).sum = l.sum := by
  induction l with
  | nil => rfl
  | cons x l ih =>
    unfold upsL downsL at *
    by_cases h : x < 0
    · rw [List.filter_cons_of_neg (by simp; omega), List.filter_cons_of_pos (by simp; omega), List.sum_cons, List.sum_cons]
      omega
    · rw [List.filter_cons_of_pos (by simp; omega), List.filter_cons_of_neg (by simp; omega), List.sum_cons, List.sum_cons]
      omega
theorem ups_take (l : List Int) (k : Nat) (h : k < l.length) : upsL (l.take (k + 1)) = upsL (l.take k) ++ (if l.getD k 0 < 0 then [] else [l.getD k 0]) := by
  have e : l.take (k + 1) = l.take k ++ [l.getD k 0] := by rw [List.take_add_one, List.getElem?_eq_getElem h, List.getD_eq_getElem?_getD, List.getElem?_eq_getElem h]; rfl
  unfold upsL
  rw [e, List.filter_append]
  congr 1
  generalize l.getD k 0 = x
  by_cases hx : x < 0
  · rw [if_pos hx, List.filter_cons_of_neg (by simp; omega)]; rfl
  · rw [if_neg hx, List.filter_cons_of_pos (by simp; omega)]; rfl
theorem downs_take (l : List Int) (k : Nat) (h : k < l.length) : downsL (l.take (k + 1)) = downsL (l.take k) ++ (if l.getD k 0 < 0 then [l.getD k 0] else []) := by
  have e : l.take (k + 1) = l.take k ++ [l.getD k 0] := by rw [List.take_add_one, List.getElem?_eq_getElem h, List.getD_eq_getElem?_getD, List.getElem?_eq_getElem h]; rfl
  unfold downsL
  rw [e, List.filter_append]
  congr 1
  generalize l.getD k 0 = x
  by_cases hx : x < 0
  · rw [if_pos hx, List.filter_cons_of_pos (by simp; omega)]; rfl
  · rw [if_neg hx, List.filter_cons_of_neg (by simp; omega)]; rfl
theorem sum_up (l : List Int) (h : ∀ x ∈ l, 0 ≤ x) : 0 ≤ l.sum := by
  induction l with
  | nil => simp
  | cons x l ih =>
    have := h x (by simp)
    have := ih fun y hy => h y (by simp [hy])
    rw [List.sum_cons]
    omega
theorem sum_down (l : List Int) (h : ∀ x ∈ l, x < 0) : l.sum ≤ 0 := by
  induction l with
  | nil => simp
  | cons x l ih =>
    have := h x (by simp)
    have := ih fun y hy => h y (by simp [hy])
    rw [List.sum_cons]
    omega
theorem len_ups (l : List Int) (k : Nat) : (upsL (l.take k)).length ≤ k := Nat.le_trans (List.length_filter_le _ _) (by rw [List.length_take]; omega)
theorem len_downs (l : List Int) (k : Nat) : (downsL (l.take k)).length ≤ k := Nat.le_trans (List.length_filter_le _ _) (by rw [List.length_take]; omega)
/-- A row of integers without its first. -/
theorem tail_one {w : World} {B n c b off : Nat} {x : Int} {l : List Int} (h : Ints w B (some ⟨b, off, none⟩) (n + 1) (x :: l)) (hc : n + 1 ≤ c) :
    ∃ A6, Ints w B A6 n l ∧ ∀ w2, (Instr.slice 30 (.slice (some ⟨b, off, none⟩) (n + 1) c) (some (.int .i64 1)) none none).run Tryd.prog w2 = .ok (.slice A6 n (c - 1)) w2 := by
  obtain ⟨b', off', e, hb, hcell⟩ := h.2 (by omega)
  obtain ⟨rfl, rfl⟩ : b = b' ∧ off = off' := by simpa using e
  refine ⟨if c = 1 then some ⟨b, off, none⟩ else some ⟨b, off + 1, none⟩, ⟨by simpa using h.1, fun h0 => ?_⟩, fun w2 => ?_⟩
  · rw [if_neg (by omega)]
    refine ⟨b, off + 1, rfl, hb, fun j hj => ?_⟩
    have := hcell (j + 1) (by omega)
    rw [show off + 1 + j = off + (j + 1) by omega, this]
    rfl
  · by_cases h1 : c = 1
    · subst h1
      obtain rfl : n = 0 := by omega
      go_simp
    · rw [if_neg h1]
      go_simp
      exact fun h => absurd h (by omega)
set_option maxHeartbeats 1000000 in
theorem rsum_any {w : World} {B0 n : Nat} {A : Option Addr} {l : List Int} (h : Ints w B0 A n l) (hB : B0 ≤ w.heap.size) (hin : ∀ x ∈ l, In64 x) (hn : n ≤ 1000) (c : Nat) :
    Calls Tryd.prog 16 #[.slice A n c] w fun e w' => e = .returned (.tuple #[.int .i64 (oneW l.sum).1, .int .i64 (oneW l.sum).2]) ∧ Below w.heap.size w w' := by
  have e1 := h.1
  subst e1
  have HR := hide h
  have HIN := hide hin
  clear h hin
  go_enter Tryd.func16, Tryd.ntmps16
  go_wp2
  go_loopw [4, 5, 6] (fun u d i wr => ∃ (k : Nat) (A1 : Option Addr) (n1 c1 : Nat) (A2 : Option Addr) (n2 c2 : Nat), k ≤ l.length ∧ i = .int .i64 k ∧ u = .slice A1 n1 c1 ∧ d = .slice A2 n2 c2 ∧ Two wr w.heap.size A1 n1 c1 (upsL (l.take k)) A2 n2 c2 (downsL (l.take k)) ∧ n1 ≤ k ∧ n2 ≤ k ∧ n1 ≤ c1 ∧ c1 ≤ maxLen ∧ n2 ≤ c2 ∧ c2 ≤ maxLen ∧ Below w.heap.size w wr) (fun _ _ i _ => l.length - (intOf i).toNat)
  case atStart => exact ⟨0, none, 0, 0, none, 0, 0, Nat.zero_le _, rfl, rfl, rfl, Two.empty _ _, Nat.le_refl _, Nat.le_refl _, Nat.le_refl _, Nat.zero_le _, Nat.le_refl _, Nat.zero_le _, Below.refl _ _⟩
  case round =>
    obtain ⟨k, A1, n1, c1, A2, n2, c2, hk, rfl, rfl, rfl, htwo, hn1, hn2, hc1, hm1, hc2, hm2, hbw⟩ := hrel
    have hwz := hbw.size
    have HBW := hide hbw
    have HT := hide htwo
    clear htwo
    by_cases hlt : k < l.length
    · obtain ⟨b, off, rfl, hb0, hcell⟩ := HR.out.2 (by omega)
      have d0 : wr.cell? ⟨b, off + k, none⟩ = some (.int .i64 (l.getD k 0)) := (hbw.cell (p := ⟨b, off + k, none⟩) (by dsimp only; omega)).trans (hcell k hlt)
      have HU := hide (ups_take l k hlt)
      have HD := hide (downs_take l k hlt)
      clear hcell hbw
      generalize l.getD k 0 = x at *
      by_cases hx : x < 0
      · have HU2 : Hid (upsL (l.take (k + 1)) = upsL (l.take k)) := hide (by rw [HU.out, if_pos hx, List.append_nil])
        have HD2 : Hid (downsL (l.take (k + 1)) = downsL (l.take k) ++ [x]) := hide (by rw [HD.out, if_pos hx])
        clear HU HD
        go_wp2_with (at_builtin; go_loud (refine app_two rfl (.tmp 22) (.tmp 27) rfl w.heap.size A2 n2 c2 _ A1 n1 c1 _ rfl HT.out.swap x rfl (by omega) hwz ?_); intro A5 c5 w5 hown5 hbel5 hcap5 hcm5)
        refine ⟨⟨k + 1, A1, n1, c1, A5, n2 + 1, c5, by omega, by go_num, rfl, rfl, by rw [HU2.out, HD2.out]; exact hown5.swap, by omega, by omega, hc1, hm1, hcap5, hcm5, HBW.out.trans hbel5⟩, by simp [intOf]; omega⟩
      · have HU2 : Hid (upsL (l.take (k + 1)) = upsL (l.take k) ++ [x]) := hide (by rw [HU.out, if_neg hx])
        have HD2 : Hid (downsL (l.take (k + 1)) = downsL (l.take k)) := hide (by rw [HD.out, if_neg hx, List.append_nil])
        clear HU HD
        go_wp2_with (at_builtin; go_loud (refine app_two rfl (.tmp 29) (.tmp 34) rfl w.heap.size A1 n1 c1 _ A2 n2 c2 _ rfl HT.out x rfl (by omega) hwz ?_); intro A5 c5 w5 hown5 hbel5 hcap5 hcm5)
        refine ⟨⟨k + 1, A5, n1 + 1, c5, A2, n2, c2, by omega, by go_num, rfl, rfl, by rw [HU2.out, HD2.out]; exact hown5, by omega, by omega, hcap5, hcm5, hc2, hm2, HBW.out.trans hbel5⟩, by simp [intOf]; omega⟩
    · obtain rfl : k = l.length := by omega
      have HU : Hid (Ints wr wr.heap.size A1 n1 (upsL l)) := hide (by have := ints_of_own HT.out.own1; rwa [List.take_length] at this)
      have HD : Hid (Ints wr wr.heap.size A2 n2 (downsL l)) := hide (by have := ints_of_own HT.out.own2; rwa [List.take_length] at this)
      obtain ⟨wo, rfl⟩ : ∃ wo : World, wo = wr := ⟨_, rfl⟩
      clear hbw HT
      go_wp2
      go_loopw [4, 5, 7] (fun u d t wr => ∃ (s : Int) (U D : List Int) (A1 : Option Addr) (n1 c1 : Nat) (A2 : Option Addr) (n2 c2 : Nat), t = .int .i64 s ∧ u = .slice A1 n1 c1 ∧ d = .slice A2 n2 c2 ∧ Ints wo wo.heap.size A1 n1 U ∧ Ints wo wo.heap.size A2 n2 D ∧ (∀ x ∈ U, In64 x ∧ 0 ≤ x) ∧ (∀ x ∈ D, In64 x ∧ x < 0) ∧ In64 s ∧ s + U.sum + D.sum = l.sum ∧ n1 ≤ c1 ∧ c1 ≤ maxLen ∧ n2 ≤ c2 ∧ c2 ≤ maxLen ∧ Below wo.heap.size wo wr) (fun u d _ _ => lenOf u + lenOf d)
      case atStart => exact ⟨0, _, _, A1, n1, c1, A2, n2, c2, rfl, rfl, rfl, HU.out, HD.out, fun x hx => ⟨HIN.out x (List.mem_filter.1 hx).1, by simpa using (List.mem_filter.1 hx).2⟩, fun x hx => ⟨HIN.out x (List.mem_filter.1 hx).1, by simpa using (List.mem_filter.1 hx).2⟩, ⟨by omega, by omega⟩, by have := split_sum l; omega, hc1, hm1, hc2, hm2, Below.refl _ _⟩
      case round =>
        clear HU HD hn1 hn2 hc1 hc2 hm1 hm2
        obtain ⟨s, U, D, E1, m1, k1, E2, m2, k2, rfl, rfl, rfl, hU, hD, hu, hd, hs, hsum, hc1, hm1, hc2, hm2, hbr⟩ := hrel
        obtain ⟨s1, s2⟩ := hs
        have HBR := hide hbr
        have HW : Hid (Below w.heap.size w wr) := hide (HBW.out.trans (hbr.mono hwz))
        have eU := hU.1
        have eD := hD.1
        cases U with
        | nil =>
          cases D with
          | nil =>
            obtain rfl : 0 = m1 := by simpa using eU
            obtain rfl : 0 = m2 := by simpa using eD
            have HS : Hid (oneW l.sum = (s, 0)) := hide (by rw [← hsum]; simp only [List.sum_nil, Int.add_zero]; exact if_pos ⟨s1, s2⟩)
            clear hsum
            go_wp2
            go_ret2
            exact ⟨by rw [HS.out]; rfl, HW.out⟩
          | cons y D =>
            obtain ⟨j, rfl⟩ : ∃ j, m2 = j + 1 := ⟨D.length, by simpa using eD.symm⟩
            obtain ⟨b2, off2, rfl, hb2, hcell2⟩ := hD.2 (by omega)
            have d2 : wr.cell? ⟨b2, off2, none⟩ = some (.int .i64 y) := (hbr.cell (p := ⟨b2, off2, none⟩) (by dsimp only; omega)).trans (hcell2 0 (by omega))
            obtain ⟨⟨y1, y2⟩, y3⟩ := hd y (by simp)
            have hd2 : ∀ z ∈ D, In64 z ∧ z < 0 := fun z hz => hd z (by simp [hz])
            have sd := sum_down D fun z hz => (hd2 z hz).2
            obtain ⟨A6, hT, hsl⟩ := tail_one hD hc2
            have RA := fun w => radd_any s y w ⟨s1, s2⟩ ⟨y1, y2⟩
            obtain rfl : 0 = m1 := by simpa using eU
            by_cases hov : -9223372036854775808 ≤ s + y ∧ s + y ≤ 9223372036854775807
            · obtain ⟨o1, o2⟩ := hov
              have HSUM := hide (show s + y + ([] : List Int).sum + D.sum = l.sum by rw [← hsum]; simp only [List.sum_cons, List.sum_nil]; omega)
              have HUU := hide hu
              have HDD := hide hd2
              have HU4 := hide hU
              have HT := hide hT
              rw [show oneW (s + y) = (s + y, 0) from if_pos ⟨by omega, by omega⟩] at RA
              have ws : IntKind.i64.wrap (s + y) = s + y := IntWalk.i64_in _ (by omega)
              clear hsum hu hd hT hU hD hcell2 hd2
              go_wp2
              all_goals
                go_region
                all_goals
                  have hbr := HBR.out
                  go_wp2_with (first | (go_at_call 24; refine (RA _).mono ?_; rintro e w1 ⟨rfl, rfl⟩) | (refine wp_region_quiet_below (by kernel_rfl) (by kernel_rfl) ?_; (repeat (first | go_big_quiet_step ((first | (go_at_call 24; exact Calls.regrown_of (below_of_same (RA _))))) | quiet_step ((first | (go_at_call 24; exact Calls.regrown_of (below_of_same (RA _))))))); refine wpQuiet_nil ?_; intro w1 hw1; have hb := below_of_regrown hw1; clear hw1; obtain ⟨hS, hE, hz, hc, hf⟩ := bcell hb; (try simp only [go_sem] at hE); subst hE))
                  refine ⟨⟨s + y, _, D, E1, _, k1, A6, j, k2 - 1, rfl, rfl, rfl, HU4.out, HT.out, HUU.out, HDD.out, ⟨by omega, by omega⟩, HSUM.out, by omega, by omega, by omega, by omega, (by repeat' (first | (with_reducible exact Below.refl _ _) | (with_reducible refine below_drewN ?_ _) | (with_reducible refine Below.drew ?_) | (with_reducible refine Below.alloc ?_ ?_ _) | (with_reducible refine Below.setCell ?_ ?_ _) | (with_reducible refine below_step ?_ (by assumption) ?_) | go_size))⟩, by simp [lenOf] <;> omega⟩
            · have hov : s + y < -9223372036854775808 := by omega
              have HS : Hid (oneW l.sum = (0, 4)) := hide (by rw [← hsum]; simp only [List.sum_cons, List.sum_nil]; exact if_neg (by omega))
              rw [show oneW (s + y) = (0, 4) from if_neg (by omega)] at RA
              clear hsum hu hd hT hU hD hcell2 hd2
              go_wp2
              all_goals
                go_region
                all_goals
                  have hbr := HBR.out
                  have hww := HW.out
                  go_wp2_with (first | (go_at_call 24; refine (RA _).mono ?_; rintro e w1 ⟨rfl, rfl⟩) | (refine wp_region_quiet_below (by kernel_rfl) (by kernel_rfl) ?_; (repeat (first | go_big_quiet_step ((first | (go_at_call 24; exact Calls.regrown_of (below_of_same (RA _))))) | quiet_step ((first | (go_at_call 24; exact Calls.regrown_of (below_of_same (RA _))))))); refine wpQuiet_nil ?_; intro w1 hw1; have hb := below_of_regrown hw1; clear hw1; obtain ⟨hS, hE, hz, hc, hf⟩ := bcell hb; (try simp only [go_sem] at hE); subst hE))
                  go_ret2
                  exact ⟨by rw [HS.out]; rfl, (by repeat' (first | (with_reducible exact Below.refl _ _) | (with_reducible refine below_drewN ?_ _) | (with_reducible refine Below.drew ?_) | (with_reducible refine Below.alloc ?_ ?_ _) | (with_reducible refine Below.setCell ?_ ?_ _) | (with_reducible refine below_step ?_ (by assumption) ?_) | go_size))⟩
        | cons x U =>
          cases D with
          | nil =>
            obtain ⟨j, rfl⟩ : ∃ j, m1 = j + 1 := ⟨U.length, by simpa using eU.symm⟩
            obtain ⟨b2, off2, rfl, hb2, hcell2⟩ := hU.2 (by omega)
            have d2 : wr.cell? ⟨b2, off2, none⟩ = some (.int .i64 x) := (hbr.cell (p := ⟨b2, off2, none⟩) (by dsimp only; omega)).trans (hcell2 0 (by omega))
            obtain ⟨⟨y1, y2⟩, y3⟩ := hu x (by simp)
            have hu2 : ∀ z ∈ U, In64 z ∧ 0 ≤ z := fun z hz => hu z (by simp [hz])
            have su := sum_up U fun z hz => (hu2 z hz).2
            obtain ⟨A6, hT, hsl⟩ := tail_one hU hc1
            have RA := fun w => radd_any s x w ⟨s1, s2⟩ ⟨y1, y2⟩
            obtain rfl : 0 = m2 := by simpa using eD
            by_cases hov : -9223372036854775808 ≤ s + x ∧ s + x ≤ 9223372036854775807
            · obtain ⟨o1, o2⟩ := hov
              have HSUM := hide (show s + x + U.sum + ([] : List Int).sum = l.sum by rw [← hsum]; simp only [List.sum_cons, List.sum_nil]; omega)
              have HUU := hide hu2
              have HDD := hide hd
              have HD4 := hide hD
              have HT := hide hT
              rw [show oneW (s + x) = (s + x, 0) from if_pos ⟨by omega, by omega⟩] at RA
              have ws : IntKind.i64.wrap (s + x) = s + x := IntWalk.i64_in _ (by omega)
              clear hsum hu hd hT hU hD hcell2 hu2
              go_wp2
              all_goals
                go_region
                all_goals
                  have hbr := HBR.out
                  go_wp2_with (first | (go_at_call 24; refine (RA _).mono ?_; rintro e w1 ⟨rfl, rfl⟩) | (refine wp_region_quiet_below (by kernel_rfl) (by kernel_rfl) ?_; (repeat (first | go_big_quiet_step ((first | (go_at_call 24; exact Calls.regrown_of (below_of_same (RA _))))) | quiet_step ((first | (go_at_call 24; exact Calls.regrown_of (below_of_same (RA _))))))); refine wpQuiet_nil ?_; intro w1 hw1; have hb := below_of_regrown hw1; clear hw1; obtain ⟨hS, hE, hz, hc, hf⟩ := bcell hb; (try simp only [go_sem] at hE); subst hE))
                  refine ⟨⟨s + x, U, _, A6, j, k1 - 1, E2, _, k2, rfl, rfl, rfl, HT.out, HD4.out, HUU.out, HDD.out, ⟨by omega, by omega⟩, HSUM.out, by omega, by omega, by omega, by omega, (by repeat' (first | (with_reducible exact Below.refl _ _) | (with_reducible refine below_drewN ?_ _) | (with_reducible refine Below.drew ?_) | (with_reducible refine Below.alloc ?_ ?_ _) | (with_reducible refine Below.setCell ?_ ?_ _) | (with_reducible refine below_step ?_ (by assumption) ?_) | go_size))⟩, by simp [lenOf] <;> omega⟩
            · have hov : 9223372036854775807 < s + x := by omega
              have HS : Hid (oneW l.sum = (0, 4)) := hide (by rw [← hsum]; simp only [List.sum_cons, List.sum_nil]; exact if_neg (by omega))
              rw [show oneW (s + x) = (0, 4) from if_neg (by omega)] at RA
              clear hsum hu hd hT hU hD hcell2 hu2
              go_wp2
              all_goals
                go_region
                all_goals
                  have hbr := HBR.out
                  have hww := HW.out
                  go_wp2_with (first | (go_at_call 24; refine (RA _).mono ?_; rintro e w1 ⟨rfl, rfl⟩) | (refine wp_region_quiet_below (by kernel_rfl) (by kernel_rfl) ?_; (repeat (first | go_big_quiet_step ((first | (go_at_call 24; exact Calls.regrown_of (below_of_same (RA _))))) | quiet_step ((first | (go_at_call 24; exact Calls.regrown_of (below_of_same (RA _))))))); refine wpQuiet_nil ?_; intro w1 hw1; have hb := below_of_regrown hw1; clear hw1; obtain ⟨hS, hE, hz, hc, hf⟩ := bcell hb; (try simp only [go_sem] at hE); subst hE))
                  go_ret2
                  exact ⟨by rw [HS.out]; rfl, (by repeat' (first | (with_reducible exact Below.refl _ _) | (with_reducible refine below_drewN ?_ _) | (with_reducible refine Below.drew ?_) | (with_reducible refine Below.alloc ?_ ?_ _) | (with_reducible refine Below.setCell ?_ ?_ _) | (with_reducible refine below_step ?_ (by assumption) ?_) | go_size))⟩
          | cons y D =>
            obtain ⟨i1, hi1⟩ : ∃ i, m1 = i + 1 := ⟨U.length, by simpa using eU.symm⟩
            obtain ⟨i2, hi2⟩ : ∃ i, m2 = i + 1 := ⟨D.length, by simpa using eD.symm⟩
            by_cases hs0 : 0 ≤ s
            · subst hi1
              clear hi2
              obtain ⟨j, rfl⟩ : ∃ j, m2 = j + 1 := ⟨D.length, by simpa using eD.symm⟩
              obtain ⟨b2, off2, rfl, hb2, hcell2⟩ := hD.2 (by omega)
              have d2 : wr.cell? ⟨b2, off2, none⟩ = some (.int .i64 y) := (hbr.cell (p := ⟨b2, off2, none⟩) (by dsimp only; omega)).trans (hcell2 0 (by omega))
              obtain ⟨⟨y1, y2⟩, y3⟩ := hd y (by simp)
              have hd2 : ∀ z ∈ D, In64 z ∧ z < 0 := fun z hz => hd z (by simp [hz])
              have sd := sum_down D fun z hz => (hd2 z hz).2
              obtain ⟨A6, hT, hsl⟩ := tail_one hD hc2
              have RA := fun w => radd_any s y w ⟨s1, s2⟩ ⟨y1, y2⟩
              have HSUM := hide (show s + y + (x :: U : List Int).sum + D.sum = l.sum by rw [← hsum]; simp only [List.sum_cons, List.sum_nil]; omega)
              have HUU := hide hu
              have HDD := hide hd2
              have HU4 := hide hU
              have HT := hide hT
              rw [show oneW (s + y) = (s + y, 0) from if_pos ⟨by omega, by omega⟩] at RA
              have ws : IntKind.i64.wrap (s + y) = s + y := IntWalk.i64_in _ (by omega)
              clear hsum hu hd hT hU hD hcell2 hd2
              go_wp2
              all_goals
                go_region
                all_goals
                  have hbr := HBR.out
                  go_wp2_with (first | (go_at_call 24; refine (RA _).mono ?_; rintro e w1 ⟨rfl, rfl⟩) | (refine wp_region_quiet_below (by kernel_rfl) (by kernel_rfl) ?_; (repeat (first | go_big_quiet_step ((first | (go_at_call 24; exact Calls.regrown_of (below_of_same (RA _))))) | quiet_step ((first | (go_at_call 24; exact Calls.regrown_of (below_of_same (RA _))))))); refine wpQuiet_nil ?_; intro w1 hw1; have hb := below_of_regrown hw1; clear hw1; obtain ⟨hS, hE, hz, hc, hf⟩ := bcell hb; (try simp only [go_sem] at hE); subst hE))
                  refine ⟨⟨s + y, _, D, E1, _, k1, A6, j, k2 - 1, rfl, rfl, rfl, HU4.out, HT.out, HUU.out, HDD.out, ⟨by omega, by omega⟩, HSUM.out, by omega, by omega, by omega, by omega, (by repeat' (first | (with_reducible exact Below.refl _ _) | (with_reducible refine below_drewN ?_ _) | (with_reducible refine Below.drew ?_) | (with_reducible refine Below.alloc ?_ ?_ _) | (with_reducible refine Below.setCell ?_ ?_ _) | (with_reducible refine below_step ?_ (by assumption) ?_) | go_size))⟩, by simp [lenOf] <;> omega⟩
            · subst hi2
              clear hi1
              obtain ⟨j, rfl⟩ : ∃ j, m1 = j + 1 := ⟨U.length, by simpa using eU.symm⟩
              obtain ⟨b2, off2, rfl, hb2, hcell2⟩ := hU.2 (by omega)
              have d2 : wr.cell? ⟨b2, off2, none⟩ = some (.int .i64 x) := (hbr.cell (p := ⟨b2, off2, none⟩) (by dsimp only; omega)).trans (hcell2 0 (by omega))
              obtain ⟨⟨y1, y2⟩, y3⟩ := hu x (by simp)
              have hu2 : ∀ z ∈ U, In64 z ∧ 0 ≤ z := fun z hz => hu z (by simp [hz])
              have su := sum_up U fun z hz => (hu2 z hz).2
              obtain ⟨A6, hT, hsl⟩ := tail_one hU hc1
              have RA := fun w => radd_any s x w ⟨s1, s2⟩ ⟨y1, y2⟩
              have HSUM := hide (show s + x + U.sum + (y :: D : List Int).sum = l.sum by rw [← hsum]; simp only [List.sum_cons, List.sum_nil]; omega)
              have HUU := hide hu2
              have HDD := hide hd
              have HD4 := hide hD
              have HT := hide hT
              rw [show oneW (s + x) = (s + x, 0) from if_pos ⟨by omega, by omega⟩] at RA
              have ws : IntKind.i64.wrap (s + x) = s + x := IntWalk.i64_in _ (by omega)
              clear hsum hu hd hT hU hD hcell2 hu2
              go_wp2
              all_goals
                go_region
                all_goals
                  have hbr := HBR.out
                  go_wp2_with (first | (go_at_call 24; refine (RA _).mono ?_; rintro e w1 ⟨rfl, rfl⟩) | (refine wp_region_quiet_below (by kernel_rfl) (by kernel_rfl) ?_; (repeat (first | go_big_quiet_step ((first | (go_at_call 24; exact Calls.regrown_of (below_of_same (RA _))))) | quiet_step ((first | (go_at_call 24; exact Calls.regrown_of (below_of_same (RA _))))))); refine wpQuiet_nil ?_; intro w1 hw1; have hb := below_of_regrown hw1; clear hw1; obtain ⟨hS, hE, hz, hc, hf⟩ := bcell hb; (try simp only [go_sem] at hE); subst hE))
                  refine ⟨⟨s + x, U, _, A6, j, k1 - 1, E2, _, k2, rfl, rfl, rfl, HT.out, HD4.out, HUU.out, HDD.out, ⟨by omega, by omega⟩, HSUM.out, by omega, by omega, by omega, by omega, (by repeat' (first | (with_reducible exact Below.refl _ _) | (with_reducible refine below_drewN ?_ _) | (with_reducible refine Below.drew ?_) | (with_reducible refine Below.alloc ?_ ?_ _) | (with_reducible refine Below.setCell ?_ ?_ _) | (with_reducible refine below_step ?_ (by assumption) ?_) | go_size))⟩, by simp [lenOf] <;> omega⟩
end Go.Proofs.YtbgakceljbigjaaDoor.Num
