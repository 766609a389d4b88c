/- The sum of a list of numbers by this layer. No condition. -/
import Derived.Test.YtbgakceljbigjaaDoorNumA
import Derived.Test.YtbgakceljbigjaaDoorAppI
import Derived.Deep.RegionWith
namespace Go.Proofs.YtbgakceljbigjaaDoor.Num
open Go.ChangeShapes Go.WideShapes Go.ChangeAt Go.RowKit Go.Proofs.YtbgakceljbigjaaDoor.Kit Go.Proofs.YtbgakceljbigjaaDoor.Wide Go.Deep Go.Proofs.YtbgakceljbigjaaDoor.Mem
set_option linter.unusedVariables false
theorem sum_take : ∀ (l : List Int) (k : Nat), k < l.length → (l.take (k + 1)).sum = (l.take k).sum + l.getD k 0
  | [], k, h => by simp at h
  | x :: l, 0, _ => by simp [List.getD]
  | x :: l, k + 1, h => by
    have := sum_take l k (by simpa using h)
    rw [List.take_succ_cons, List.take_succ_cons, List.sum_cons, List.sum_cons, this]
    have e : (x :: l).getD (k + 1) 0 = l.getD k 0 := rfl
    rw [e]
    omega
theorem sum_bd (l : List Int) (h : ∀ x ∈ l, In64 x) : -(9223372036854775808 * (l.length : Int)) ≤ l.sum ∧ l.sum ≤ 9223372036854775807 * (l.length : Int) := by
  induction l with
  | nil => simp
  | cons x l ih =>
    obtain ⟨h1, h2⟩ := h x (by simp)
    obtain ⟨i1, i2⟩ := ih fun y hy => h y (by simp [hy])
    simp only [List.sum_cons, List.length_cons, Int.natCast_add]
    omega
set_option maxHeartbeats 400000 in
theorem sum_any {w : World} {B0 n : Nat} {A : Option Addr} {l : List Int} (h : Ints w B0 A n l) (hB : B0 ≤ w.heap.size) (hin : ∀ x ∈ l, In64 x) (hn : n ≤ 1000) (c : Nat) :
    Calls Tryd.prog 15 #[.slice A n c] w fun e w' => e = .returned (.tuple #[.int .i64 (oneW l.sum).1, .int .i64 (oneW l.sum).2]) ∧ Below w.heap.size w w' := by
  have e1 := h.1
  subst e1
  have HR := hide h
  have HIN := hide hin
  have HBD := hide (sum_bd l hin)
  clear h hin
  go_enter Tryd.func15, Tryd.ntmps15
  go_wp2
  go_loopw [9] (fun i wr => ∃ k : Nat, k ≤ l.length ∧ i = .int .i64 k ∧ Below w.heap.size w wr ∧ w.heap.size < wr.heap.size ∧ wr.cell? ⟨w.heap.size, 0, none⟩ = some (.int .u64 (hiW (l.take k).sum)) ∧ wr.cell? ⟨w.heap.size, 1, none⟩ = some (.int .u64 (loW (l.take k).sum)) ∧ wr.frozen? ⟨w.heap.size, 0, none⟩ = false ∧ wr.frozen? ⟨w.heap.size, 1, none⟩ = false) (fun i _ => l.length - (intOf i).toNat)
  case atStart => exact ⟨0, Nat.zero_le _, rfl, (by repeat' (first | (with_reducible exact Below.refl _ _) | (with_reducible refine below_drewN ?_ _) | (with_reducible refine Below.drew ?_) | (with_reducible refine Below.alloc ?_ ?_ _) | (with_reducible refine Below.setCell ?_ ?_ _) | (with_reducible refine below_step ?_ (by assumption) ?_) | go_size)), by simp, by rw [World.cell?_alloc_new]; rfl, by rw [World.cell?_alloc_new]; rfl, by go_simp, by go_simp⟩
  case round =>
    obtain ⟨k, hk, rfl, hbw, hgz, c0, c1, f0, f1⟩ := hrel
    have hwz := hbw.size
    have HBW := hide hbw
    by_cases hlt : k < l.length
    · obtain ⟨b, off, rfl, hb0, hcell⟩ := HR.out.2 (by omega)
      have d0 : wr.cell? ⟨b, off + k, none⟩ = some (.int .i64 (l.getD k 0)) := (hbw.cell (p := ⟨b, off + k, none⟩) (by dsimp only; omega)).trans (hcell k hlt)
      have HS := hide (sum_take l k hlt)
      obtain ⟨x1, x2⟩ := HIN.out (l.getD k 0) (by rw [List.getD_eq_getElem?_getD, List.getElem?_eq_getElem hlt]; exact List.getElem_mem hlt)
      have O := fun w => of_any (l.getD k 0) w x1 x2
      have PL := fun w => plus_any (l.take k).sum (l.getD k 0) w
      clear hcell hbw
      rw [← HS.out] at PL
      clear HS
      obtain ⟨s2, hs2⟩ : ∃ s2, (l.take (k + 1)).sum = s2 := ⟨_, rfl⟩
      rw [hs2] at PL
      have HE2 := hide hs2
      clear hs2
      generalize (l.take k).sum = s1 at *
      generalize l.getD k 0 = x at *
      go_wp2
      go_region_with (first | (go_at_call 32; (with_reducible refine (O _).mono ?_); rintro e w1 ⟨rfl, hb⟩; obtain ⟨hS, hE, hz, hc, hf⟩ := bcell hb; (try simp only [go_sem] at hE); subst hE) | (go_at_call 31; (with_reducible refine (PL _).mono ?_); rintro e w1 ⟨rfl, hb⟩; obtain ⟨hS, hE, hz, hc, hf⟩ := bcell hb; (try simp only [go_sem] at hE); subst hE))
      all_goals
        have hbw := HBW.out
        go_wp2
        go_roundw
        case rel => exact ⟨k + 1, by omega, by go_num, (by repeat' (first | (with_reducible exact Below.refl _ _) | (with_reducible refine below_drewN ?_ _) | (with_reducible refine Below.drew ?_) | (with_reducible refine Below.alloc ?_ ?_ _) | (with_reducible refine Below.setCell ?_ ?_ _) | (with_reducible refine below_step ?_ (by assumption) ?_) | go_size)), by go_size, by rw [HE2.out]; go_simp, by rw [HE2.out]; go_simp, by go_simp, by go_simp⟩
        case measure => simp [intOf]; omega
    · obtain rfl : k = l.length := by omega
      rw [List.take_length] at c0 c1
      obtain ⟨s1, s2⟩ := HBD.out
      have N := fun w => number_any l.sum w (by omega) (by omega)
      clear hbw HBD s1 s2
      obtain ⟨s, hs⟩ : ∃ s, l.sum = s := ⟨_, rfl⟩
      rw [hs] at N c0 c1
      have HSS := hide hs
      clear hs
      go_wp2_with (first | (go_at_call 33; refine (N _).mono ?_; rintro e w1 ⟨rfl, hb⟩; obtain ⟨hS, hE, hz, hc, hf⟩ := bcell hb; (try simp only [go_sem] at hE); subst hE) | (refine wp_region_quiet_below (by kernel_rfl) (by kernel_rfl) ?_; (repeat (first | go_big_quiet_step ((first | (go_at_call 33; exact Calls.regrown_of (N _)))) | quiet_step ((first | (go_at_call 33; exact Calls.regrown_of (N _)))))); refine wpQuiet_nil ?_; intro w1 hw1; have hb := below_of_regrown hw1; clear hw1; obtain ⟨hS, hE, hz, hc, hf⟩ := bcell hb; (try simp only [go_sem] at hE); subst hE))
      go_ret2
      exact ⟨by rw [HSS.out]; rfl, below_step HBW.out hb hwz⟩
end Go.Proofs.YtbgakceljbigjaaDoor.Num
