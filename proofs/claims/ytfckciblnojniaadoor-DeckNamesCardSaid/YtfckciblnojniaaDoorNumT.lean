/- The text of a number, of this layer and of the reference. Condition: the library's table of powers of ten is as the row lists it. -/
import Derived.Test.YtfckciblnojniaaDoorNumP
import Derived.Test.YtfckciblnojniaaDoorDoor
import Derived.Test.YtfckciblnojniaaDoorShelf
namespace Go.Proofs.YtfckciblnojniaaDoor.Num
open Go.ChangeShapes Go.WideShapes Go.ChangeAt Go.RowKit Go.Proofs.YtfckciblnojniaaDoor.Kit Go.Deep Go.PlainAid
set_option linter.unusedVariables false
/-- The library's table of powers of ten is in place. -/
def Pow (w : World) : Prop := Lib.TabIs Tryd.prog w "internal/strconv.uint64pow10" .u64 Lib.pow10Tab ∧ 2 < w.heap.size
theorem gPow : Tryd.prog.globalNamed "internal/strconv.uint64pow10" = some 2 := by kernel_rfl
theorem Pow.below {B : Nat} {w w' : World} (h : Pow w) (hb : Below B w w') (hB : w.heap.size ≤ B) : Pow w' := by
  obtain ⟨h1, h2⟩ := h
  refine ⟨?_, Nat.lt_of_lt_of_le h2 (hb.size)⟩
  unfold Lib.TabIs at h1 ⊢
  rw [← h1]
  unfold World.var?
  simp only [gPow, Option.bind_some]
  rw [hb.block _ (Nat.lt_of_lt_of_le h2 hB)]
theorem below_grown_q (w : World) (q : Nat) (os : Array Obj) : Below w.heap.size w (Go.Sort.grow (w.drewN q) os) :=
  ⟨rfl, rfl, rfl, by first | (simp [Go.Sort.grow]; done) | (simp [Go.Sort.grow]; omega), fun i hi => by
    show ((w.drewN q).heap ++ os)[i]? = _
    rw [Array.getElem?_append_left (by show i < w.heap.size; omega)]
    rfl⟩
theorem itoa_any (n : Int) (hn : In64 n) (w : World) (h : Pow w) : Calls Tryd.prog 49 #[.int .i64 n] w fun e w' => e = .returned (.string ⟨(Lib.itoa n).toArray⟩) ∧ Below w.heap.size w w' :=
  (Tryd.strconv_Itoa n hn.1 hn.2 w h.1).mono fun _ _ ⟨he, k, os, hw⟩ => ⟨he, by subst hw; exact below_grown_q _ _ _⟩
theorem text_any (n : Int) (hn : In64 n) (w : World) (h : Pow w) : Calls Tryd.prog 37 #[.int .i64 n] w fun e w' => e = .returned (.string ⟨(Lib.itoa n).toArray⟩) ∧ Below w.heap.size w w' := by
  have hi := fun w h => itoa_any n hn w h
  generalize Lib.itoa n = t at *
  have HP := hide h
  clear h
  go_enter Tryd.func37, Tryd.ntmps37
  go_wp2_with (first | (go_at_call 49; refine (hi _ HP.out).mono ?_; rintro e w1 ⟨rfl, hb⟩; obtain ⟨hS, hE, hz, hc, hf⟩ := bcell hb; (try simp only [go_sem] at hE); subst hE) | ((with_reducible change Code.wp _ (Code.region _ _ _) _ _ _); refine wp_region_quiet_below (by kernel_rfl) (by kernel_rfl) ?_; (repeat (first | go_big_quiet_step ((first | (go_at_call 49; exact Calls.regrown_of (hi _ HP.out)))) | quiet_step ((first | (go_at_call 49; exact Calls.regrown_of (hi _ HP.out)))))); refine wpQuiet_nil ?_; intro w1 hw1; have hb := below_of_regrown hw1; clear hw1; obtain ⟨hS, hE, hz, hc, hf⟩ := bcell hb; (try simp only [go_sem] at hE); subst hE))
  go_ret
  exact ⟨rfl, (by repeat' (first | (with_reducible exact Below.refl _ _) | (with_reducible refine below_drewN ?_ _) | (with_reducible refine Below.drew ?_) | (with_reducible refine Below.alloc ?_ ?_ _) | (with_reducible refine Below.setCell ?_ ?_ _) | (with_reducible refine below_step ?_ (by assumption) ?_) | (with_reducible refine below_step ?_ (below_regrown _ _ _) ?_) | go_size))⟩
theorem mk_append (a b : List UInt8) : (⟨a.toArray⟩ : ByteArray) ++ (⟨b.toArray⟩ : ByteArray) = ⟨(a ++ b).toArray⟩ := by
  apply ByteArray.ext
  simp
theorem dig_one : ∀ d : Nat, d < 10 → ({ data := #[48, 49, 50, 51, 52, 53, 54, 55, 56, 57] } : ByteArray).extract d (d + 1) = ⟨[UInt8.ofNat (48 + d)].toArray⟩ := by
  intro d hd
  have h : d = 0 ∨ d = 1 ∨ d = 2 ∨ d = 3 ∨ d = 4 ∨ d = 5 ∨ d = 6 ∨ d = 7 ∨ d = 8 ∨ d = 9 := by omega
  rcases h with rfl | rfl | rfl | rfl | rfl | rfl | rfl | rfl | rfl | rfl <;> rfl
theorem dec_len : ∀ (m n : Nat), n < 10 ^ (m + 1) → (Lib.decDigits n).length ≤ m + 1
  | 0, n, h => by rw [Lib.decDigits.eq_1, dif_pos (by simpa using h)]; simp
  | m + 1, n, h => by
    rw [Lib.decDigits.eq_1]
    split
    · simp
    · have := dec_len m (n / 10) (by rw [Nat.pow_succ] at h; omega)
      simp
      omega
theorem dec_size (n : Nat) (h : n < 18446744073709551616) : (⟨(Lib.decDigits n).toArray⟩ : ByteArray).size ≤ 20 := by
  have := dec_len 19 n (by have : (10 : Nat) ^ (19 + 1) = 100000000000000000000 := by decide
                           omega)
  show (Lib.decDigits n).toArray.size ≤ 20
  simpa using this
set_option maxHeartbeats 1000000 in
theorem digits_any (n : Nat) (hn : n < 18446744073709551616) (w : World) : Calls Tryd.prog 59 #[.int .u64 n] w fun e w' => e = .returned (.string ⟨(Lib.decDigits n).toArray⟩) ∧ Below w.heap.size w w' := by
  induction n using Nat.strongRecOn generalizing w with
  | _ n ih =>
    have hd : Int.tmod (n : Int) 10 = ((n % 10 : Nat) : Int) := by rw [Int.tmod_eq_emod_of_nonneg (by omega)]; omega
    have hq : Int.tdiv (n : Int) 10 = ((n / 10 : Nat) : Int) := by rw [Int.tdiv_eq_ediv_of_nonneg (by omega)]; omega
    have hd9 : n % 10 < 10 := Nat.mod_lt _ (by omega)
    have ih2 := fun (h : ¬ n < 10) w => ih (n / 10) (by omega) (by omega) w
    have hdd := Lib.decDigits.eq_1 n
    have hone := dig_one (n % 10) hd9
    have wq : IntKind.u64.wrap ((n / 10 : Nat) : Int) = ((n / 10 : Nat) : Int) := by rw [IntKind.wrap_u64]; omega
    have wd : IntKind.u64.wrap (((n % 10 : Nat) : Int) + 1) = ((n % 10 : Nat) : Int) + 1 := by rw [IntKind.wrap_u64]; omega
    clear ih
    by_cases hl : n < 10
    · rw [dif_pos hl] at hdd
      rw [Nat.mod_eq_of_lt hl] at hd hone hd9 wd
      generalize UInt8.ofNat (48 + n) = t at *
      have hdd := hide hdd
      go_enter Tryd.func59, Tryd.ntmps59
      go_wp2
      go_ret
      exact ⟨by rw [hdd.out]; rfl, (by repeat' (first | (with_reducible exact Below.refl _ _) | (with_reducible refine below_drewN ?_ _) | (with_reducible refine Below.drew ?_) | (with_reducible refine Below.alloc ?_ ?_ _) | (with_reducible refine Below.setCell ?_ ?_ _) | (with_reducible refine below_step ?_ (by assumption) ?_) | (with_reducible refine below_step ?_ (below_regrown _ _ _) ?_) | go_size))⟩
    · rw [dif_neg hl] at hdd
      have ih3 := ih2 hl
      have hsD := dec_size (n / 10) (by omega)
      generalize UInt8.ofNat (48 + n % 10) = t at *
      generalize Lib.decDigits (n / 10) = ds at *
      generalize n % 10 = r at *
      generalize n / 10 = q at *
      have hdd := hide hdd
      have happ : (⟨ds.toArray⟩ : ByteArray) ++ (⟨[t].toArray⟩ : ByteArray) = ⟨(ds ++ [t]).toArray⟩ := mk_append ds [t]
      have hsT : (⟨[t].toArray⟩ : ByteArray).size = 1 := rfl
      generalize (⟨[t].toArray⟩ : ByteArray) = T at *
      generalize (⟨ds.toArray⟩ : ByteArray) = D at *
      have happ := hide happ
      go_enter Tryd.func59, Tryd.ntmps59
      go_wp2_with (first | (go_at_call 59; refine (ih3 _).mono ?_; rintro e w1 ⟨rfl, hb⟩; obtain ⟨hS, hE, hz, hc, hf⟩ := bcell hb; (try simp only [go_sem] at hE); subst hE) | ((with_reducible change Code.wp _ (Code.region _ _ _) _ _ _); refine wp_region_quiet_below (by kernel_rfl) (by kernel_rfl) ?_; (repeat (first | go_big_quiet_step ((first | (go_at_call 59; exact Calls.regrown_of (ih3 _)))) | quiet_step ((first | (go_at_call 59; exact Calls.regrown_of (ih3 _)))))); refine wpQuiet_nil ?_; intro w1 hw1; have hb := below_of_regrown hw1; clear hw1; obtain ⟨hS, hE, hz, hc, hf⟩ := bcell hb; (try simp only [go_sem] at hE); subst hE))
      go_ret
      exact ⟨by rw [hdd.out]; rfl, (by repeat' (first | (with_reducible exact Below.refl _ _) | (with_reducible refine below_drewN ?_ _) | (with_reducible refine Below.drew ?_) | (with_reducible refine Below.alloc ?_ ?_ _) | (with_reducible refine Below.setCell ?_ ?_ _) | (with_reducible refine below_step ?_ (by assumption) ?_) | (with_reducible refine below_step ?_ (below_regrown _ _ _) ?_) | go_size))⟩
theorem size_any (n : Int) (hn : In64 n) (w : World) : Calls Tryd.prog 60 #[.int .i64 n] w fun e w' => e = .returned (.int .u64 (n.natAbs : Nat)) ∧ w = w' := by
  obtain ⟨h1, h2⟩ := hn
  by_cases h : n < 0
  · have w1' : IntKind.i64.wrap (n + 1) = n + 1 := IntWalk.i64_in _ (by omega)
    have w2' : IntKind.i64.wrap (-(n + 1)) = -(n + 1) := IntWalk.i64_in _ (by omega)
    have w3' : IntKind.u64.wrap (-(n + 1)) = -(n + 1) := by rw [IntKind.wrap_u64]; omega
    have w4' : IntKind.u64.wrap (-(n + 1) + 1) = (n.natAbs : Nat) := by rw [IntKind.wrap_u64]; omega
    generalize n.natAbs = a at *
    go_enter Tryd.func60, Tryd.ntmps60
    go_wp2
    go_ret
    exact ⟨rfl, rfl⟩
  · have w3' : IntKind.u64.wrap n = (n.natAbs : Nat) := by rw [IntKind.wrap_u64]; omega
    generalize n.natAbs = a at *
    go_enter Tryd.func60, Tryd.ntmps60
    go_wp2
    go_ret
    exact ⟨rfl, rfl⟩
theorem rtext_any (n : Int) (hn : In64 n) (w : World) : Calls Tryd.prog 51 #[.int .i64 n] w fun e w' => e = .returned (.string ⟨(Lib.itoa n).toArray⟩) ∧ Below w.heap.size w w' := by
  have hs := fun w => size_any n hn w
  obtain ⟨h1, h2⟩ := hn
  by_cases h : n < 0
  · have hi : Lib.itoa n = 45 :: Lib.decDigits n.natAbs := if_pos h
    have hd := fun w => digits_any n.natAbs (by omega) w
    have happ := mk_append [45] (Lib.decDigits n.natAbs)
    have hsD := dec_size n.natAbs (by omega)
    generalize n.natAbs = a at *
    generalize Lib.decDigits a = ds at *
    generalize (⟨ds.toArray⟩ : ByteArray) = D at *
    have hi := hide hi
    have happ : ({ data := #[45] } : ByteArray) ++ D = { data := ([45] ++ ds).toArray } := happ
    generalize hX : ({ data := ([45] ++ ds).toArray } : ByteArray) = X at *
    have hX := hide hX
    go_enter Tryd.func51, Tryd.ntmps51
    go_wp2_with (first | (go_at_call 60; refine (hs _).mono ?_; rintro e w1 ⟨rfl, rfl⟩) | (go_at_call 59; refine (hd _).mono ?_; rintro e w1 ⟨rfl, hb⟩; obtain ⟨hS, hE, hz, hc, hf⟩ := bcell hb; (try simp only [go_sem] at hE); subst hE) | ((with_reducible change Code.wp _ (Code.region _ _ _) _ _ _); refine wp_region_quiet_below (by kernel_rfl) (by kernel_rfl) ?_; (repeat (first | go_big_quiet_step ((first | (go_at_call 60; exact Calls.regrown_of (below_of_same (hs _))) | (go_at_call 59; exact Calls.regrown_of (hd _)))) | quiet_step ((first | (go_at_call 60; exact Calls.regrown_of (below_of_same (hs _))) | (go_at_call 59; exact Calls.regrown_of (hd _)))))); refine wpQuiet_nil ?_; intro w1 hw1; have hb := below_of_regrown hw1; clear hw1; obtain ⟨hS, hE, hz, hc, hf⟩ := bcell hb; (try simp only [go_sem] at hE); subst hE))
    go_ret
    exact ⟨by rw [hi.out, ← hX.out]; rfl, (by repeat' (first | (with_reducible exact Below.refl _ _) | (with_reducible refine below_drewN ?_ _) | (with_reducible refine Below.drew ?_) | (with_reducible refine Below.alloc ?_ ?_ _) | (with_reducible refine Below.setCell ?_ ?_ _) | (with_reducible refine below_step ?_ (by assumption) ?_) | (with_reducible refine below_step ?_ (below_regrown _ _ _) ?_) | go_size))⟩
  · have hi : Lib.itoa n = Lib.decDigits n.toNat := if_neg h
    have hd := fun w => digits_any n.toNat (by omega) w
    have w3' : IntKind.u64.wrap n = (n.toNat : Nat) := by rw [IntKind.wrap_u64]; omega
    generalize n.toNat = a at *
    generalize Lib.decDigits a = ds at *
    have hi := hide hi
    go_enter Tryd.func51, Tryd.ntmps51
    go_wp2_with (first | (go_at_call 59; refine (hd _).mono ?_; rintro e w1 ⟨rfl, hb⟩; obtain ⟨hS, hE, hz, hc, hf⟩ := bcell hb; (try simp only [go_sem] at hE); subst hE) | ((with_reducible change Code.wp _ (Code.region _ _ _) _ _ _); refine wp_region_quiet_below (by kernel_rfl) (by kernel_rfl) ?_; (repeat (first | go_big_quiet_step ((first | (go_at_call 59; exact Calls.regrown_of (hd _)))) | quiet_step ((first | (go_at_call 59; exact Calls.regrown_of (hd _)))))); refine wpQuiet_nil ?_; intro w1 hw1; have hb := below_of_regrown hw1; clear hw1; obtain ⟨hS, hE, hz, hc, hf⟩ := bcell hb; (try simp only [go_sem] at hE); subst hE))
    go_ret
    exact ⟨by rw [hi.out]; rfl, (by repeat' (first | (with_reducible exact Below.refl _ _) | (with_reducible refine below_drewN ?_ _) | (with_reducible refine Below.drew ?_) | (with_reducible refine Below.alloc ?_ ?_ _) | (with_reducible refine Below.setCell ?_ ?_ _) | (with_reducible refine below_step ?_ (by assumption) ?_) | (with_reducible refine below_step ?_ (below_regrown _ _ _) ?_) | go_size))⟩
end Go.Proofs.YtfckciblnojniaaDoor.Num
