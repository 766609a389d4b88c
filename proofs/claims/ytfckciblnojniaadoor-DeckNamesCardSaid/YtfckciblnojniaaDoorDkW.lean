/- The page's example and what must come of every program. Condition: the library's environment. -/
import Derived.Test.YtfckciblnojniaaDoorDkV
import Derived.Test.YtfckciblnojniaaDoorDkG
namespace Go.Proofs.YtfckciblnojniaaDoor.Dk
open Go.ChangeShapes Go.WideShapes Go.ChangeAt Go.RowKit Go.Proofs.YtfckciblnojniaaDoor.Kit Go.Proofs.YtfckciblnojniaaDoor.Flt Go.Proofs.YtfckciblnojniaaDoor.Mem Go.Proofs.YtfckciblnojniaaDoor.Rail Go.Proofs.YtfckciblnojniaaDoor.Mix Go.Proofs.YtfckciblnojniaaDoor.Num Go.Proofs.YtfckciblnojniaaDoor.Well Go.Deep Go.PlainAid
set_option linter.unusedVariables false
set_option linter.unusedSimpArgs false
def littleD (g : Nat) : Dck := ⟨some ⟨g + 1, 0, none⟩, 3, [0, 4621256167635550208, 4625759767262920704], some ⟨g + 3, 0, none⟩, 1, [⟨2, 3, 0, 0, 0, 100, some ⟨g + 2, 0, none⟩, 1, [5]⟩], some ⟨g + 4, 0, none⟩, 1, [⟨1, 2, 0, 0, 0⟩], 2⟩
theorem bs_ok : chkS [0, 4621256167635550208, 4625759767262920704] = 0 := by decide +kernel
theorem lit_ok (g : Nat) : chkD (littleD g) = 0 := by
  have h1 : (littleD g).ps.all goodP = true := by rfl
  have h2 : (littleD g).rs.all goodR = true := by rfl
  have h3 : overB (littleD g) = false := by rfl
  unfold chkD
  rw [if_neg (by rw [show chkS (littleD g).bs = 0 from bs_ok]; decide), if_neg (by show ¬ ((2 : Int) < 1 ∨ 8 < (2 : Int)); decide), if_neg (by show ¬ (4 < 1 ∨ 4 < 1); decide)]
  unfold chkT
  rw [if_neg (by rw [h1]; decide)]
  unfold chkU
  rw [if_neg (by rw [h2]; decide)]
  unfold chkV
  rw [if_neg (by rw [h3]; decide)]
theorem lit_W (g : Nat) : nW (littleD g) = 6 := (if_pos (lit_ok g)).trans rfl
theorem lit_T (g : Nat) : nT (littleD g) = 2 := (if_pos (lit_ok g)).trans rfl
theorem lit_L (g : Nat) : nL (littleD g) = 2 := (if_pos (lit_ok g)).trans rfl
theorem lit_at (g : Nat) (i : Nat) : partAt (littleD g) i = if i < 6 then placeL 1 0 [(2, 3)] i else if i < 8 then placeL 2 0 [(1, 2)] (i - 6) else ⟨3, (i - 6 - 2 : Nat), 0, 0⟩ := by
  unfold partAt
  rw [lit_W, lit_T]
  rfl
theorem lit_part (g i : Nat) (h : i < 10) : partF (littleD g) (i : Int) = (partAt (littleD g) i, 0) := by
  unfold partF
  rw [if_neg (by simpa using lit_ok g), if_neg (by rw [lit_W, lit_T, lit_L]; omega)]
  rfl
theorem lit_4 (g : Nat) : partF (littleD g) 4 = (⟨1, 0, 1, 1⟩, 0) := by
  rw [show (4 : Int) = ((4 : Nat) : Int) from rfl, lit_part g 4 (by decide), lit_at]; rfl
theorem lit_id (g : Nat) : idF (littleD g) ⟨3, 1, 0, 0⟩ = (9, 0) := by
  have h := id_part (lit_ok g) (i := 9) (by rw [lit_W, lit_T, lit_L]; decide)
  rw [lit_at] at h
  exact h
theorem dec_of {l : List UInt8} {n : Nat} (h : parseL l = ((n : Int), 0)) : Lib.decDigits n = l := by
  rcases text_of_read l with h1 | ⟨_, _, h3⟩
  · rw [h] at h1
    cases h1
  · rw [h] at h3
    unfold Lib.itoa at h3
    rw [if_neg (by dsimp only; omega)] at h3
    exact h3
theorem d0' : Lib.decDigits 0 = [48] := dec_of (by decide)
theorem d1' : Lib.decDigits 1 = [49] := dec_of (by decide)
theorem d2' : Lib.decDigits 2 = [50] := dec_of (by decide)
theorem i0' : Lib.itoa 0 = [48] := by unfold Lib.itoa; rw [if_neg (by decide)]; exact d0'
theorem i1' : Lib.itoa 1 = [49] := by unfold Lib.itoa; rw [if_neg (by decide)]; exact d1'
theorem n_a2 : (nameS 0 1).data.toList = [65, 50] := by
  rw [show nameS 0 1 = nameS ((0 : Nat) : Int) ((1 : Nat) : Int) from rfl, nameS_nat (by decide) (by decide), mk_list]
  unfold nameB
  rw [d2']
  rfl
theorem lit_find (g : Nat) : findF (littleD g) [84, 48, 46, 65, 50] = (7, 0) := by
  have h := find_name (lit_ok g) (i := 7) (by rw [lit_W, lit_T, lit_L]; decide)
  rw [lit_at] at h
  have e : (if 7 < 6 then placeL 1 0 [(2, 3)] 7 else if 7 < 8 then placeL 2 0 [(1, 2)] (7 - 6) else ⟨3, (7 - 6 - 2 : Nat), 0, 0⟩ : Pt) = ⟨2, 0, 0, 1⟩ := rfl
  rw [e, nm_box _ _ _ _ (by decide), i0', n_a2] at h
  exact h
theorem lit_name (g : Nat) : nameF (littleD g) 9 = [76, 49] := by
  unfold nameF
  rw [show (9 : Int) = ((9 : Nat) : Int) from rfl, lit_part g 9 (by decide), if_neg (by simp), lit_at]
  have e : (if 9 < 6 then placeL 1 0 [(2, 3)] 9 else if 9 < 8 then placeL 2 0 [(1, 2)] (9 - 6) else ⟨3, (9 - 6 - 2 : Nat), 0, 0⟩ : Pt) = ⟨3, 1, 0, 0⟩ := rfl
  rw [e, nm_lane, i1']
  rfl
theorem lit_cap (g : Nat) : capF (littleD g) 3 = 100 := by
  unfold capF
  rw [if_pos ⟨lit_ok g, by decide, by rw [lit_W]; decide⟩, show (3 : Int) = ((3 : Nat) : Int) from rfl, lit_part g 3 (by decide), lit_at]
  rfl
theorem lit_start (g : Nat) : startF (littleD g) 0 = 5 := by
  unfold startF
  rw [if_pos ⟨lit_ok g, by decide, by rw [lit_W]; decide⟩, show (0 : Int) = ((0 : Nat) : Int) from rfl, lit_part g 0 (by decide), lit_at]
  rfl
theorem lit_small (g : Nat) : SmallD (littleD g) := by
  intro p hp
  obtain rfl : p = ⟨2, 3, 0, 0, 0, 100, some ⟨g + 2, 0, none⟩, 1, [5]⟩ := List.mem_singleton.1 hp
  show 1 ≤ 500
  decide
theorem heap5 (w : World) (a b c d e : Obj) : (((((w.alloc a).alloc b).alloc c).alloc d).alloc e).heap.size = w.heap.size + 5 ∧
    (((((w.alloc a).alloc b).alloc c).alloc d).alloc e).heap[w.heap.size + 1]? = some b ∧ (((((w.alloc a).alloc b).alloc c).alloc d).alloc e).heap[w.heap.size + 2]? = some c ∧
    (((((w.alloc a).alloc b).alloc c).alloc d).alloc e).heap[w.heap.size + 3]? = some d ∧ (((((w.alloc a).alloc b).alloc c).alloc d).alloc e).heap[w.heap.size + 4]? = some e := by
  refine ⟨by simp only [World.size_alloc], ?_, ?_, ?_, ?_⟩
  · rw [heap_old _ _ (by simp only [World.size_alloc]; omega), heap_old _ _ (by simp only [World.size_alloc]; omega), heap_old _ _ (by simp only [World.size_alloc]; omega)]
    have h := heap_new (w.alloc a) b
    rwa [World.size_alloc] at h
  · rw [heap_old _ _ (by simp only [World.size_alloc]; omega), heap_old _ _ (by simp only [World.size_alloc]; omega)]
    have h := heap_new ((w.alloc a).alloc b) c
    rwa [World.size_alloc, World.size_alloc] at h
  · rw [heap_old _ _ (by simp only [World.size_alloc]; omega)]
    have h := heap_new (((w.alloc a).alloc b).alloc c) d
    rwa [World.size_alloc, World.size_alloc, World.size_alloc] at h
  · have h := heap_new ((((w.alloc a).alloc b).alloc c).alloc d) e
    rwa [World.size_alloc, World.size_alloc, World.size_alloc, World.size_alloc] at h
theorem lit_in (w : World) (a : Obj) (t1 t2 t3 t4 : TypeId) : DeckI (((((w.alloc a).alloc (.cells #[.float .f64 0, .float .f64 4621256167635550208, .float .f64 4625759767262920704] t1)).alloc (.cells #[.int .i64 5] t2)).alloc
    (.cells #[.int .i64 2, .int .i64 3, .float .f64 0, .float .f64 0, .float .f64 0, .int .i64 100, .slice (some ⟨w.heap.size + 1 + 1, 0, none⟩) 1 1] t3)).alloc (.cells #[.int .i64 1, .int .i64 2, .float .f64 0, .float .f64 0, .float .f64 0] t4)) (w.heap.size + 5) (littleD w.heap.size) := by
  obtain ⟨hs, h1, h2, h3, h4⟩ := heap5 w a (.cells #[.float .f64 0, .float .f64 4621256167635550208, .float .f64 4625759767262920704] t1) (.cells #[.int .i64 5] t2)
    (.cells #[.int .i64 2, .int .i64 3, .float .f64 0, .float .f64 0, .float .f64 0, .int .i64 100, .slice (some ⟨w.heap.size + 1 + 1, 0, none⟩) 1 1] t3) (.cells #[.int .i64 1, .int .i64 2, .float .f64 0, .float .f64 0, .float .f64 0] t4)
  generalize (((((w.alloc a).alloc (.cells #[.float .f64 0, .float .f64 4621256167635550208, .float .f64 4625759767262920704] t1)).alloc (.cells #[.int .i64 5] t2)).alloc
    (.cells #[.int .i64 2, .int .i64 3, .float .f64 0, .float .f64 0, .float .f64 0, .int .i64 100, .slice (some ⟨w.heap.size + 1 + 1, 0, none⟩) 1 1] t3)).alloc (.cells #[.int .i64 1, .int .i64 2, .float .f64 0, .float .f64 0, .float .f64 0] t4)) = W at *
  refine ⟨⟨fun _ => ⟨w.heap.size + 1, 0, rfl, by omega, fun j hj => ?_⟩, ?_, fun j => ?_⟩, ⟨rfl, fun _ => ⟨w.heap.size + 3, 0, rfl, by omega, fun j hj => ?_⟩⟩, fun p hp => ?_, ⟨rfl, fun _ => ⟨w.heap.size + 4, 0, rfl, by omega, fun j hj => ?_⟩⟩⟩
  · have hj : j < 3 := hj
    have e : j = 0 ∨ j = 1 ∨ j = 2 := by omega
    rcases e with rfl | rfl | rfl <;> (rw [Nat.zero_add, cell_row W _ h1]; rfl)
  · show 3 ≤ _; decide
  · have e : j = 0 ∨ j = 1 ∨ j = 2 ∨ 3 ≤ j := by omega
    rcases e with rfl | rfl | rfl | h
    · show (0 : Nat) < _; decide
    · show (4621256167635550208 : Nat) < _; decide
    · show (4625759767262920704 : Nat) < _; decide
    · unfold B
      rw [List.getD_eq_getElem?_getD, List.getElem?_eq_none (show (littleD w.heap.size).bs.length ≤ j from h)]
      decide
  · have hj : j < 7 := hj
    have e : j = 0 ∨ j = 1 ∨ j = 2 ∨ j = 3 ∨ j = 4 ∨ j = 5 ∨ j = 6 := by omega
    rcases e with rfl | rfl | rfl | rfl | rfl | rfl | rfl <;> (rw [Nat.zero_add, cell_row W _ h3]; rfl)
  · obtain rfl : p = ⟨2, 3, 0, 0, 0, 100, some ⟨w.heap.size + 2, 0, none⟩, 1, [5]⟩ := List.mem_singleton.1 hp
    refine ⟨rfl, fun _ => ⟨w.heap.size + 2, 0, rfl, by omega, fun j hj => ?_⟩⟩
    have hj : j < 1 := hj
    obtain rfl : j = 0 := by omega
    rw [Nat.zero_add, cell_row W _ h2]; rfl
  · have hj : j < 5 := hj
    have e : j = 0 ∨ j = 1 ∨ j = 2 ∨ j = 3 ∨ j = 4 := by omega
    rcases e with rfl | rfl | rfl | rfl | rfl <;> (rw [Nat.zero_add, cell_row W _ h4]; rfl)
set_option maxHeartbeats 4000000 in
set_option maxRecDepth 20000 in
theorem little_any (w : World) : Calls Tryd.prog 24 #[] w fun e w' => e = .returned (.agg #[.slice (some ⟨w.heap.size + 1, 0, none⟩) 3 3, .slice (some ⟨w.heap.size + 3, 0, none⟩) 1 1, .slice (some ⟨w.heap.size + 4, 0, none⟩) 1 1, .int .i64 2]) ∧ DeckI w' w'.heap.size (littleD w.heap.size) ∧ Below w.heap.size w w' := by
  have HI := hide (fun a t1 t2 t3 t4 => lit_in w a t1 t2 t3 t4)
  go_enter Tryd.func24, Tryd.ntmps24
  go_wp2
  refine bodyPost_ret (v := (.agg #[.slice (some ⟨w.heap.size + 1, 0, none⟩) 3 3, .slice (some ⟨w.heap.size + 3, 0, none⟩) 1 1, .slice (some ⟨w.heap.size + 4, 0, none⟩) 1 1, .int .i64 2])) ?_ rfl ⟨rfl, by simp only [World.size_alloc]; exact HI.out _ _ _ _ _, (by repeat' (first | (with_reducible exact Below.refl _ _) | (with_reducible refine below_drewN ?_ _) | (with_reducible refine Below.drew ?_) | (with_reducible refine Below.alloc ?_ ?_ _) | (with_reducible refine Below.setCell ?_ ?_ _) | (with_reducible refine below_step ?_ (by assumption) ?_) | (with_reducible refine below_step ?_ (below_regrown _ _ _) ?_) | go_size))⟩
  simp only [results, Tryd.results24]
  go_simp
def OnL (wl : World) (f : FuncId) (args : Array Value) (v : Value) : Prop := ∀ W, Below wl.heap.size wl W → Calls Tryd.prog f args W fun e w' => e = .returned v ∧ Below W.heap.size W w'
theorem lit_calls {wl : World} {g : Nat} (hD : DeckI wl wl.heap.size (littleD g)) (hE : Env wl) :
    OnL wl 8 #[(.agg #[.slice (some ⟨g + 1, 0, none⟩) 3 3, .slice (some ⟨g + 3, 0, none⟩) 1 1, .slice (some ⟨g + 4, 0, none⟩) 1 1, .int .i64 2])] (.tuple #[.int .i64 6, .int .i64 2, .int .i64 2]) ∧ OnL wl 12 #[(.agg #[.slice (some ⟨g + 1, 0, none⟩) 3 3, .slice (some ⟨g + 3, 0, none⟩) 1 1, .slice (some ⟨g + 4, 0, none⟩) 1 1, .int .i64 2]), .int .i64 4] (.tuple #[.agg #[.int .i64 1, .int .i64 0, .int .i64 1, .int .i64 1], .int .i64 0]) ∧
    OnL wl 14 #[(.agg #[.slice (some ⟨g + 1, 0, none⟩) 3 3, .slice (some ⟨g + 3, 0, none⟩) 1 1, .slice (some ⟨g + 4, 0, none⟩) 1 1, .int .i64 2]), .agg #[.int .i64 3, .int .i64 1, .int .i64 0, .int .i64 0]] (.tuple #[.int .i64 9, .int .i64 0]) ∧ OnL wl 22 #[(.agg #[.slice (some ⟨g + 1, 0, none⟩) 3 3, .slice (some ⟨g + 3, 0, none⟩) 1 1, .slice (some ⟨g + 4, 0, none⟩) 1 1, .int .i64 2]), .string ⟨#[84, 48, 46, 65, 50]⟩] (.tuple #[.int .i64 7, .int .i64 0]) ∧
    OnL wl 10 #[(.agg #[.slice (some ⟨g + 1, 0, none⟩) 3 3, .slice (some ⟨g + 3, 0, none⟩) 1 1, .slice (some ⟨g + 4, 0, none⟩) 1 1, .int .i64 2])] (.int .i64 0) ∧ OnL wl 16 #[(.agg #[.slice (some ⟨g + 1, 0, none⟩) 3 3, .slice (some ⟨g + 3, 0, none⟩) 1 1, .slice (some ⟨g + 4, 0, none⟩) 1 1, .int .i64 2]), .int .i64 9] (.string ⟨#[76, 49]⟩) ∧ OnL wl 18 #[(.agg #[.slice (some ⟨g + 1, 0, none⟩) 3 3, .slice (some ⟨g + 3, 0, none⟩) 1 1, .slice (some ⟨g + 4, 0, none⟩) 1 1, .int .i64 2]), .int .i64 3] (.int .i64 100) ∧ OnL wl 20 #[(.agg #[.slice (some ⟨g + 1, 0, none⟩) 3 3, .slice (some ⟨g + 3, 0, none⟩) 1 1, .slice (some ⟨g + 4, 0, none⟩) 1 1, .int .i64 2]), .int .i64 0] (.int .i64 5) := by
  have hs := lit_small g
  refine ⟨fun W hb => ?_, fun W hb => ?_, fun W hb => ?_, fun W hb => ?_, fun W hb => ?_, fun W hb => ?_, fun W hb => ?_, fun W hb => ?_⟩
  all_goals have hDW := hD.below hb (Nat.le_refl _); have hz := hb.size
  · have h := counts_any hDW hz hs
    rw [lit_W, lit_T, lit_L] at h
    exact h
  · have h := part_any hDW hz hs 4
    rw [lit_4] at h
    exact h
  · have h := id_any hDW hz hs ⟨3, 1, 0, 0⟩
    rw [lit_id] at h
    exact h
  · have h := find_some hDW hz hs (hE.below hb (Nat.le_refl _)) (lit_ok g) 84 [48, 46, 65, 50] (by decide)
    rw [lit_find] at h
    exact h
  · have h := check_deck hDW hz hs
    rw [lit_ok] at h
    exact h
  · have h := name_dk hDW hz hs (hE.below hb (Nat.le_refl _)).1 9
    rw [lit_name] at h
    exact h
  · have h := cap_any hDW hz hs 3
    rw [lit_cap] at h
    exact h
  · have h := start_any hDW hz hs 0
    rw [lit_start] at h
    exact h
set_option maxHeartbeats 16000000 in
set_option maxRecDepth 20000 in
theorem lives_any (w : World) (hE : Env w) : Calls Tryd.prog 7 #[] w fun e w' => e = .returned (.bool true) ∧ Below w.heap.size w w' := by
  have HE := hide hE
  clear hE
  have L0 := little_any w
  go_enter Tryd.func7, Tryd.ntmps7
  go_wp2_with (first
    | (go_at_call 24; (refine L0.mono ?_); clear L0; rintro e wl ⟨rfl, hD, hbl⟩; (obtain ⟨c1, c2, c3, c4, c5, c6, c7, c8⟩ := lit_calls hD (HE.out.below hbl (Nat.le_refl _))); unfold OnL at c1 c2 c3 c4 c5 c6 c7 c8; clear hD; obtain ⟨hSl, hEl, hzl, hcl, hfl⟩ := bcell hbl; (try simp only [go_sem] at hEl); subst hEl)
    | (go_at_call 8; (with_reducible refine (c1 _ (by repeat' (first | (with_reducible exact Below.refl _ _) | (with_reducible refine below_drewN ?_ _) | (with_reducible refine Below.drew ?_) | (with_reducible refine Below.alloc ?_ ?_ _) | (with_reducible refine Below.setCell ?_ ?_ _) | (with_reducible refine below_step ?_ (by assumption) ?_) | (with_reducible refine below_step ?_ (below_regrown _ _ _) ?_) | go_size))).mono ?_); rintro e w1 ⟨rfl, hb⟩; obtain ⟨hS, hE, hz, hc, hf⟩ := bcell hb; (try simp only [go_sem] at hE); subst hE) | (go_at_call 12; (with_reducible refine (c2 _ (by repeat' (first | (with_reducible exact Below.refl _ _) | (with_reducible refine below_drewN ?_ _) | (with_reducible refine Below.drew ?_) | (with_reducible refine Below.alloc ?_ ?_ _) | (with_reducible refine Below.setCell ?_ ?_ _) | (with_reducible refine below_step ?_ (by assumption) ?_) | (with_reducible refine below_step ?_ (below_regrown _ _ _) ?_) | go_size))).mono ?_); rintro e w1 ⟨rfl, hb⟩; obtain ⟨hS, hE, hz, hc, hf⟩ := bcell hb; (try simp only [go_sem] at hE); subst hE) | (go_at_call 14; (with_reducible refine (c3 _ (by repeat' (first | (with_reducible exact Below.refl _ _) | (with_reducible refine below_drewN ?_ _) | (with_reducible refine Below.drew ?_) | (with_reducible refine Below.alloc ?_ ?_ _) | (with_reducible refine Below.setCell ?_ ?_ _) | (with_reducible refine below_step ?_ (by assumption) ?_) | (with_reducible refine below_step ?_ (below_regrown _ _ _) ?_) | go_size))).mono ?_); rintro e w1 ⟨rfl, hb⟩; obtain ⟨hS, hE, hz, hc, hf⟩ := bcell hb; (try simp only [go_sem] at hE); subst hE) | (go_at_call 22; (with_reducible refine (c4 _ (by repeat' (first | (with_reducible exact Below.refl _ _) | (with_reducible refine below_drewN ?_ _) | (with_reducible refine Below.drew ?_) | (with_reducible refine Below.alloc ?_ ?_ _) | (with_reducible refine Below.setCell ?_ ?_ _) | (with_reducible refine below_step ?_ (by assumption) ?_) | (with_reducible refine below_step ?_ (below_regrown _ _ _) ?_) | go_size))).mono ?_); rintro e w1 ⟨rfl, hb⟩; obtain ⟨hS, hE, hz, hc, hf⟩ := bcell hb; (try simp only [go_sem] at hE); subst hE) | (go_at_call 10; (with_reducible refine (c5 _ (by repeat' (first | (with_reducible exact Below.refl _ _) | (with_reducible refine below_drewN ?_ _) | (with_reducible refine Below.drew ?_) | (with_reducible refine Below.alloc ?_ ?_ _) | (with_reducible refine Below.setCell ?_ ?_ _) | (with_reducible refine below_step ?_ (by assumption) ?_) | (with_reducible refine below_step ?_ (below_regrown _ _ _) ?_) | go_size))).mono ?_); rintro e w1 ⟨rfl, hb⟩; obtain ⟨hS, hE, hz, hc, hf⟩ := bcell hb; (try simp only [go_sem] at hE); subst hE) | (go_at_call 16; (with_reducible refine (c6 _ (by repeat' (first | (with_reducible exact Below.refl _ _) | (with_reducible refine below_drewN ?_ _) | (with_reducible refine Below.drew ?_) | (with_reducible refine Below.alloc ?_ ?_ _) | (with_reducible refine Below.setCell ?_ ?_ _) | (with_reducible refine below_step ?_ (by assumption) ?_) | (with_reducible refine below_step ?_ (below_regrown _ _ _) ?_) | go_size))).mono ?_); rintro e w1 ⟨rfl, hb⟩; obtain ⟨hS, hE, hz, hc, hf⟩ := bcell hb; (try simp only [go_sem] at hE); subst hE) | (go_at_call 18; (with_reducible refine (c7 _ (by repeat' (first | (with_reducible exact Below.refl _ _) | (with_reducible refine below_drewN ?_ _) | (with_reducible refine Below.drew ?_) | (with_reducible refine Below.alloc ?_ ?_ _) | (with_reducible refine Below.setCell ?_ ?_ _) | (with_reducible refine below_step ?_ (by assumption) ?_) | (with_reducible refine below_step ?_ (below_regrown _ _ _) ?_) | go_size))).mono ?_); rintro e w1 ⟨rfl, hb⟩; obtain ⟨hS, hE, hz, hc, hf⟩ := bcell hb; (try simp only [go_sem] at hE); subst hE) | (go_at_call 20; (with_reducible refine (c8 _ (by repeat' (first | (with_reducible exact Below.refl _ _) | (with_reducible refine below_drewN ?_ _) | (with_reducible refine Below.drew ?_) | (with_reducible refine Below.alloc ?_ ?_ _) | (with_reducible refine Below.setCell ?_ ?_ _) | (with_reducible refine below_step ?_ (by assumption) ?_) | (with_reducible refine below_step ?_ (below_regrown _ _ _) ?_) | go_size))).mono ?_); rintro e w1 ⟨rfl, hb⟩; obtain ⟨hS, hE, hz, hc, hf⟩ := bcell hb; (try simp only [go_sem] at hE); subst hE))
  go_ret
  exact ⟨rfl, (by repeat' (first | (with_reducible exact Below.refl _ _) | (with_reducible refine below_drewN ?_ _) | (with_reducible refine Below.drew ?_) | (with_reducible refine Below.alloc ?_ ?_ _) | (with_reducible refine Below.setCell ?_ ?_ _) | (with_reducible refine below_step ?_ (by assumption) ?_) | (with_reducible refine below_step ?_ (below_regrown _ _ _) ?_) | go_size))⟩
end Go.Proofs.YtfckciblnojniaaDoor.Dk
