/- Rows of elements of several cells, told by a list of whatever. No condition. -/
import Derived.Test.YtfckciblnojniaaDoorSized
namespace Go.Proofs.YtfckciblnojniaaDoor.Mem
open Go.ChangeShapes Go.WideShapes Go.ChangeAt Go.RowKit Go.Proofs.YtfckciblnojniaaDoor.Kit Go.Deep
set_option linter.unusedVariables false
section
variable {α : Type} {enc : α → List Value} {k : Nat}
/-- The cells of a list of elements. -/
def SV (enc : α → List Value) (xs : List α) : List Value := (xs.map enc).flatten
theorem sv_len (hk : ∀ x, (enc x).length = k) (xs : List α) : (SV enc xs).length = xs.length * k := by
  unfold SV
  induction xs with
  | nil => simp
  | cons x xs ih => simp only [List.map_cons, List.flatten_cons, List.length_append, List.length_cons, hk, ih]; rw [Nat.succ_mul, Nat.add_comm]
theorem sv_append (xs ys : List α) : SV enc xs ++ SV enc ys = SV enc (xs ++ ys) := by simp [SV]
theorem sv_get (hk : ∀ x, (enc x).length = k) (d : α) (xs : List α) (j i : Nat) (hj : j < xs.length) (hi : i < k) : (SV enc xs).getD (j * k + i) undef = (enc (xs.getD j d)).getD i undef := by
  induction xs generalizing j with
  | nil => exact absurd hj (by simp)
  | cons x xs ih =>
    unfold SV
    simp only [List.map_cons, List.flatten_cons]
    cases j with
    | zero =>
      rw [Nat.zero_mul, Nat.zero_add, List.getD_eq_getElem?_getD, List.getElem?_append_left (by rw [hk]; exact hi), ← List.getD_eq_getElem?_getD]
      rfl
    | succ j =>
      have e : (j + 1) * k + i = k + (j * k + i) := by rw [Nat.succ_mul]; omega
      rw [List.getD_eq_getElem?_getD, List.getElem?_append_right (by rw [hk, e]; omega), ← List.getD_eq_getElem?_getD, hk, show (j + 1) * k + i - k = j * k + i by omega]
      exact ih j (by simpa using hj)
/-- The slice (A, n) reads as the elements xs, below block B. -/
def SRow (enc : α → List Value) (k : Nat) (w : World) (B : Nat) (A : Option Addr) (n : Nat) (xs : List α) : Prop := xs.length = n ∧ Row w B A (n * k) (fun j => (SV enc xs).getD j undef)
variable {w w' : World} {B n : Nat} {A : Option Addr} {xs : List α}
theorem SRow.cells (h : SRow enc k w B A n xs) (hk : ∀ x, (enc x).length = k) (hp : 0 < k) (d : α) (h0 : 0 < n) :
    ∃ b off, A = some ⟨b, off, none⟩ ∧ b < B ∧ ∀ j, j < n → ∀ i, i < k → w.cell? ⟨b, off + (j * k + i), none⟩ = some ((enc (xs.getD j d)).getD i undef) := by
  obtain ⟨e, hr⟩ := h
  subst e
  obtain ⟨b, off, rfl, hB, hc⟩ := hr (Nat.mul_pos h0 hp)
  refine ⟨b, off, rfl, hB, fun j hj i hi => ?_⟩
  have hlt : j * k + i < xs.length * k := by
    have : j * k + k ≤ xs.length * k := by rw [← Nat.succ_mul]; exact Nat.mul_le_mul_right k hj
    omega
  rw [hc _ hlt]
  exact congrArg some (sv_get hk d xs j i hj hi)
theorem srow_below {B1 : Nat} (h : SRow enc k w B A n xs) (hb : Below B1 w w') (hB : B ≤ B1) : SRow enc k w' B A n xs := ⟨h.1, row_below h.2 hb hB⟩
theorem srow_alloc (h : SRow enc k w B A n xs) (hB : B ≤ w.heap.size) (o : Obj) : SRow enc k (w.alloc o) B A n xs := ⟨h.1, row_alloc h.2 hB o⟩
theorem srow_more {B1 : Nat} (h : SRow enc k w B A n xs) (hB : B ≤ B1) : SRow enc k w B1 A n xs := ⟨h.1, row_more h.2 hB⟩
theorem srow_setCell {p : Addr} (h : SRow enc k w B A n xs) (hB : B ≤ p.block) (u : Value) : SRow enc k (w.setCell p u) B A n xs := ⟨h.1, row_setCell h.2 hB u⟩
theorem srow_nil (w : World) (B : Nat) (A : Option Addr) : SRow enc k w B A 0 ([] : List α) := ⟨rfl, by rw [Nat.zero_mul]; exact row_zero⟩
theorem srow_of_own {base c : Nat} {e : TypeId} (hk : ∀ x, (enc x).length = k) (hp : 0 < k) (h : w.ownsRow base e k (.slice A n c) n (SV enc xs)) : SRow enc k w w.heap.size A n xs := by
  refine ⟨?_, row_of_own h⟩
  have h1 := h.1
  rw [sv_len hk] at h1
  exact Nat.eq_of_mul_eq_mul_right hp h1
/-- A new block of one element. -/
theorem srow_one (hk : ∀ x, (enc x).length = k) (w : World) (x : α) (t : TypeId) : SRow enc k (w.alloc (.cells (enc x).toArray t)) (w.heap.size + 1) (some ⟨w.heap.size, 0, none⟩) 1 [x] := by
  refine ⟨rfl, ?_⟩
  have := row_new w (enc x) t
  rw [hk] at this
  rw [Nat.one_mul]
  refine row_of this fun j hj => ?_
  simp [SV]
/-- Elements from number m on. -/
theorem srow_cut (h : SRow enc k w B A n xs) (hk : ∀ x, (enc x).length = k) {m c : Nat} (hm : m ≤ n) (hc : n ≤ c) (hp : 0 < k) : SRow enc k w B (if c = m then A else A.map (·.add (m * k))) (n - m) (xs.drop m) := by
  refine ⟨by rw [List.length_drop, h.1], ?_⟩
  have h2 := row_cut (c := c * k) (l := m * k) (k := m * k) h.2 (fun e => by have := Nat.eq_of_mul_eq_mul_right hp e; have := Nat.mul_le_mul_right k (show n ≤ m by omega); omega)
  rw [Nat.sub_mul]
  have e : (c * k = m * k) = (c = m) := propext ⟨fun e => Nat.eq_of_mul_eq_mul_right hp e, fun e => by rw [e]⟩
  simp only [e] at h2
  have hsplit : SV enc xs = SV enc (xs.take m) ++ SV enc (xs.drop m) := by rw [sv_append, List.take_append_drop]
  have hl : (SV enc (xs.take m)).length = m * k := by rw [sv_len hk, List.length_take, h.1, Nat.min_eq_left hm]
  refine row_of h2 fun j hj => ?_
  rw [hsplit, List.getD_eq_getElem?_getD, List.getElem?_append_right (by omega), hl, Nat.add_sub_cancel_left, ← List.getD_eq_getElem?_getD]
end
theorem own_set {w : World} {base n size : Nat} {e : TypeId} {v : Value} {xs : List Value} {p : Addr} (h : w.ownsRow base e size v n xs) (hp : p.block < base) (u : Value) : (w.setCell p u).ownsRow base e size v n xs := by
  refine ⟨h.1, ?_⟩
  rcases h.2 with h0 | ⟨b, cap, cur, hv, hbg, hg, hr⟩
  · exact .inl h0
  · exact .inr ⟨b, cap, cur, hv, hbg, (Below.heap_setCell _ _ _ b (by omega)).trans hg, hr⟩
theorem bcellB {W w1 : World} {B : Nat} (hb : Below B W w1) :
    ∃ S, S = B ∧ W.heap.size ≤ w1.heap.size ∧ (∀ b o, ltA b S → w1.cell? ⟨b, o, none⟩ = W.cell? ⟨b, o, none⟩) ∧ (∀ b o, ltA b S → w1.frozen? ⟨b, o, none⟩ = W.frozen? ⟨b, o, none⟩) :=
  ⟨_, rfl, hb.size, fun b o h => hb.cell (p := ⟨b, o, none⟩) h, fun b o h => hb.frozen (p := ⟨b, o, none⟩) h⟩
theorem own_down {w : World} {base base' n size : Nat} {e : TypeId} {v : Value} {xs : List Value} (h : w.ownsRow base e size v n xs) (hb : base' ≤ base) : w.ownsRow base' e size v n xs := by
  refine ⟨h.1, ?_⟩
  rcases h.2 with h0 | ⟨b, cap, cur, hv, hbg, hg, hr⟩
  · exact .inl h0
  · exact .inr ⟨b, cap, cur, hv, Nat.le_trans hb hbg, hg, hr⟩
theorem own_under {w w' : World} {base n size B1 : Nat} {e : TypeId} {v : Value} {xs : List Value} (h : w.ownsRow base e size v n xs) (hb : Below B1 w w') (hB : w.heap.size ≤ B1) : w'.ownsRow base e size v n xs := by
  refine ⟨h.1, ?_⟩
  rcases h.2 with h0 | ⟨b, cap, cur, hv, hbg, hg, hr⟩
  · exact .inl h0
  · have hlt : b < w.heap.size := by
      rcases Nat.lt_or_ge b w.heap.size with h | h
      · exact h
      · rw [Array.getElem?_eq_none h] at hg; cases hg
    exact .inr ⟨b, cap, cur, hv, hbg, (hb.block b (by omega)).trans hg, hr⟩
section
variable {α : Type} {enc : α → List Value} {k : Nat} {P : Program} (w : World)
/-- The append of elements onto elements. -/
theorem run_append_srow (hk : ∀ x, (enc x).length = k) (h1c : ∀ x, ∀ u ∈ enc x, u.oneCell' = true) (hp : 0 < k) (base : Nat) (t ty e : TypeId) (i : TypeInfo) (z : Value) (bytes : Nat) (ht : P.underlying t = some (.slice e)) (hi : P.info? e = some i) (hz : i.zero = some z)
    (hsize : i.size = k) (hby : i.bytes = bytes) (hzs : z.cells.size = k) (A : Option Addr) (n c : Nat) (xs : List α) (hown : w.ownsRow base e k (.slice A n c) n (SV enc xs))
    (B : Nat) (A2 : Option Addr) (m c2 : Nat) (ys : List α) (hr : SRow enc k w B A2 m ys) (h63 : n + m ≤ maxLen) (hbytes : (n + m) * bytes ≤ 140737488355328) (hbase : base ≤ w.heap.size) :
    ∃ A' c' w', (Builtin.append_ #[t, t] ty #[.slice A n c, .slice A2 m c2]).run P w = .ok (.slice A' (n + m) c') w' ∧ w'.ownsRow base e k (.slice A' (n + m) c') (n + m) (SV enc (xs ++ ys)) ∧ w.grownBy w' (Value.ownBlock (.slice A n c)) ∧ Below base w w' ∧ n + m ≤ c' ∧ c' ≤ maxLen := by
  obtain ⟨A', c', w', k1, k2, k3, k4, k5⟩ := run_append_row (P := P) w base t ty e i z k bytes ht hi hz hsize hby hzs hp _ n (SV enc xs) hown B A2 m c2 (SV enc ys) (by rw [sv_len hk, hr.1]) hr.2
    (fun u hu => by
      obtain ⟨l, hl, hu⟩ := List.mem_flatten.1 hu
      obtain ⟨x, _, rfl⟩ := List.mem_map.1 hl
      exact h1c x u hu) h63 hbytes hbase
  rw [sv_append] at k2
  exact ⟨A', c', w', k1, k2, k3, below_of_own hown k3 hbase, k4, k5⟩
/-- .. onto a slice without spare room: a new block. -/
theorem run_append_full (hk : ∀ x, (enc x).length = k) (hp : 0 < k) (t ty e : TypeId) (i : TypeInfo) (z : Value) (bytes : Nat) (ht : P.underlying t = some (.slice e)) (hi : P.info? e = some i) (hz : i.zero = some z)
    (hsize : i.size = k) (hby : i.bytes = bytes) (hzs : z.cells.size = k) (B1 : Nat) (A : Option Addr) (n : Nat) (xs : List α) (hr1 : SRow enc k w B1 A n xs)
    (B : Nat) (A2 : Option Addr) (m c2 : Nat) (ys : List α) (hr : SRow enc k w B A2 m ys) (hm : 0 < m) (h63 : n + m ≤ maxLen) (hbytes : (n + m) * bytes ≤ 140737488355328) :
    ∃ c' w', (Builtin.append_ #[t, t] ty #[.slice A n n, .slice A2 m c2]).run P w = .ok (.slice (some ⟨w.heap.size, 0, none⟩) (n + m) c') w' ∧ w'.ownsRow w.heap.size e k (.slice (some ⟨w.heap.size, 0, none⟩) (n + m) c') (n + m) (SV enc (xs ++ ys)) ∧ Below w.heap.size w w' ∧ n + m ≤ c' ∧ c' ≤ maxLen := by
  have hmul : 0 < m * k := Nat.mul_pos hm hp
  obtain ⟨b2, off2, rfl, _, hc2⟩ := hr.2 hmul
  have hl2 : (SV enc ys).length = m * k := by rw [sv_len hk, hr.1]
  have hnews : ∀ j v, (SV enc ys)[j]? = some v → w.cell? ((⟨b2, off2, none⟩ : Addr).add j) = some v := fun j v hv => by
    have hj : j < (SV enc ys).length := by
      rcases Nat.lt_or_ge j (SV enc ys).length with h | h
      · exact h
      · rw [List.getElem?_eq_none h] at hv; cases hv
    rw [add_mk, hc2 j (by omega)]
    simp only [List.getD_eq_getElem?_getD, hv, Option.getD_some]
  have h63' : ((n + m : Nat) : Int) ≤ 9223372036854775807 := by unfold maxLen at h63; omega
  have hcap := grownCap_ge w (n + m) n e
  have hcm := grownCap_le_maxLen w (n + m) n e h63
  have hlx : (SV enc xs).length = n * k := by rw [sv_len hk, hr1.1]
  have mk : ∀ cur : Array Value, cur = (SV enc xs).toArray ++ (SV enc ys).toArray ++ Builtin.zeroCells z.cells (grownCap w (n + m) n e - (n + m)) →
      (w.drew.alloc (.cells cur e)).ownsRow w.heap.size e k (.slice (some ⟨w.heap.size, 0, none⟩) (n + m) (grownCap w (n + m) n e)) (n + m) (SV enc (xs ++ ys)) := fun cur hcur => by
    have hsz : cur.size = grownCap w (n + m) n e * k := by
      subst hcur
      rw [Array.size_append, Array.size_append, size_zeroCells, hzs]
      simp only [List.size_toArray, hlx, hl2]
      rw [← Nat.add_mul, ← Nat.add_mul]
      congr 1
      omega
    refine ⟨by rw [← sv_append, List.length_append, hlx, hl2, Nat.add_mul], .inr ⟨w.heap.size, grownCap w (n + m) n e, cur, rfl, Nat.le_refl _, heap_alloc_new w.drew _, hcap, hcm, hsz, ?_⟩⟩
    rw [hcur, ← sv_append]
    simp only [Array.toList_append]
    rw [List.take_append_of_le_length (by rw [List.length_append, hlx, hl2, ← Nat.add_mul]; exact Nat.le_refl _), List.take_of_length_le (by rw [List.length_append, hlx, hl2, ← Nat.add_mul]; exact Nat.le_refl _)]
  have bel : ∀ o, Below w.heap.size w (w.drew.alloc o) := fun o => ((Below.refl _ _).drew).alloc (Nat.le_refl _) _
  rcases A with _ | ad
  · have hn : n = 0 := by
      rcases Nat.eq_zero_or_pos n with h0 | h0
      · exact h0
      · obtain ⟨b, off, h, _⟩ := hr1.2 (Nat.mul_pos h0 hp)
        cases h
    subst hn
    obtain rfl : xs = [] := List.eq_nil_of_length_eq_zero hr1.1
    have hrun := run_append_nil (P := P) w t ty e i z ht hi hz ⟨b2, off2, none⟩ m c2 (SV enc ys) (by rw [hl2, hsize]) hnews hm (by omega) (by rw [hby]; rw [Nat.zero_add] at hbytes; omega)
    rw [Nat.zero_add] at mk hcap hcm ⊢
    refine ⟨_, _, hrun, mk _ (by simp [SV]), bel _, hcap, hcm⟩
  · have holds : ∀ j v, (SV enc xs)[j]? = some v → w.cell? (ad.add j) = some v := fun j v hv => by
      have hj : j < (SV enc xs).length := by
        rcases Nat.lt_or_ge j (SV enc xs).length with h | h
        · exact h
        · rw [List.getElem?_eq_none h] at hv; cases hv
      obtain ⟨b, off, he, _, hc⟩ := hr1.2 (by omega)
      injection he with he
      subst he
      rw [add_mk, hc j (by omega)]
      simp only [List.getD_eq_getElem?_getD, hv, Option.getD_some]
    have hrun := run_append_grow (P := P) w t ty e i z ht hi hz ad n n (SV enc xs) (by rw [hlx, hsize]) holds ⟨b2, off2, none⟩ m c2 (SV enc ys) (by rw [hl2, hsize]) hnews (by omega) h63' (by rw [hby]; exact growslice_fits (by omega) hbytes)
    exact ⟨_, _, hrun, mk _ rfl, bel _, hcap, hcm⟩
theorem run_append_zero (t ty e : TypeId) (i : TypeInfo) (ht : P.underlying t = some (.slice e)) (hi : P.info? e = some i) (b : Addr) (A2 : Option Addr) (c : Nat) :
    (Builtin.append_ #[t, t] ty #[.slice (some b) 0 0, .slice A2 0 c]).run P w = .ok (.slice (some b) 0 0) w := by
  rcases A2 with _ | a
  · simp [Builtin.append_, run_underlying ht, sizeOf, typeInfo, hi, Builtin.lenOf, Builtin.firstCells, storeCells]
  · simp [Builtin.append_, run_underlying ht, sizeOf, typeInfo, hi, Builtin.lenOf, Builtin.firstCells, storeCells, loadCells, loadCellsFrom]
/-- .. onto '[]T{}': a copy. -/
theorem run_append_copy (hk : ∀ x, (enc x).length = k) (hp : 0 < k) (base : Nat) (t ty e : TypeId) (i : TypeInfo) (z : Value) (bytes : Nat) (ht : P.underlying t = some (.slice e)) (hi : P.info? e = some i) (hz : i.zero = some z)
    (hsize : i.size = k) (hby : i.bytes = bytes) (hzs : z.cells.size = k) (b : Nat) (hown : w.ownsRow base e k (.slice (some ⟨b, 0, none⟩) 0 0) 0 (SV enc ([] : List α))) (hbase : base ≤ w.heap.size)
    (B : Nat) (A2 : Option Addr) (m c2 : Nat) (ys : List α) (hr : SRow enc k w B A2 m ys) (h63 : m ≤ maxLen) (hbytes : m * bytes ≤ 140737488355328) :
    ∃ A' c' w', (Builtin.append_ #[t, t] ty #[.slice (some ⟨b, 0, none⟩) 0 0, .slice A2 m c2]).run P w = .ok (.slice A' m c') w' ∧ w'.ownsRow base e k (.slice A' m c') m (SV enc ys) ∧ Below w.heap.size w w' ∧ m ≤ c' ∧ c' ≤ maxLen := by
  rcases Nat.eq_zero_or_pos m with h0 | h0
  · subst h0
    obtain rfl : ys = [] := List.eq_nil_of_length_eq_zero hr.1
    exact ⟨_, 0, w, run_append_zero w t ty e i ht hi _ A2 c2, hown, Below.refl _ _, Nat.le_refl _, Nat.zero_le _⟩
  · obtain ⟨c', w', h1, h2, h3, h4, h5⟩ := run_append_full w hk hp t ty e i z bytes ht hi hz hsize hby hzs 0 (some ⟨b, 0, none⟩) 0 [] (srow_nil _ _ _) B A2 m c2 ys hr h0 (by omega) (by rw [Nat.zero_add]; exact hbytes)
    rw [Nat.zero_add] at h1 h2 h4
    exact ⟨_, c', w', h1, own_down h2 hbase, h3, h4, h5⟩
theorem wp_append_full {ops : Array Oper} {rest : List Oper} {o : Oper} {a : Act} {Q : Exit → Act → World → Prop} (hgd : o.guard = none) (s x : Operand) (t : TypeId)
    (ho : o.op = .call { callee := .builtin .append, args := #[s, x], argTypes := #[t, t] })
    (hk : ∀ x, (enc x).length = k) (hp : 0 < k) (e : TypeId) (i : TypeInfo) (z : Value) (bytes : Nat) (ht : P.underlying t = some (.slice e)) (hi : P.info? e = some i) (hz : i.zero = some z)
    (hsize : i.size = k) (hby : i.bytes = bytes) (hzs : z.cells.size = k) (B1 : Nat) (A : Option Addr) (n : Nat) (xs : List α) (hs : a.eval s = .slice A n n) (hr1 : SRow enc k w B1 A n xs)
    (B : Nat) (A2 : Option Addr) (m c2 : Nat) (ys : List α) (hx : a.eval x = .slice A2 m c2) (hr : SRow enc k w B A2 m ys) (hm : 0 < m) (h63 : n + m ≤ maxLen) (hbytes : (n + m) * bytes ≤ 140737488355328)
    (h : ∀ c' w', w'.ownsRow w.heap.size e k (.slice (some ⟨w.heap.size, 0, none⟩) (n + m) c') (n + m) (SV enc (xs ++ ys)) → Below w.heap.size w w' → n + m ≤ c' → c' ≤ maxLen → wpList P ops Q rest (a.put o.dst (.slice (some ⟨w.heap.size, 0, none⟩) (n + m) c')) w') :
    wpList P ops Q (o :: rest) a w := by
  refine wpList_plain hgd fun K hK => ?_
  obtain ⟨c', w', hrun, h2, h3, h4, h5⟩ := run_append_full w hk hp t o.type e i z bytes ht hi hz hsize hby hzs B1 A n xs hr1 B A2 m c2 ys hr hm h63 hbytes
  unfold Oper.wp execOp
  simp only [ho, resolve, invoke, builtin, Sem.run_bind, Sem.run_pure, Result.andThen_ok, List.map_toArray, List.map_cons, List.map_nil, hs, hx, hrun]
  exact hK _ _ (h c' w' h2 h3 h4 h5)
/-- .. as a step of the walk. -/
theorem wp_append_srow {ops : Array Oper} {rest : List Oper} {o : Oper} {a : Act} {Q : Exit → Act → World → Prop} (hgd : o.guard = none) (s x : Operand) (t : TypeId)
    (ho : o.op = .call { callee := .builtin .append, args := #[s, x], argTypes := #[t, t] })
    (hk : ∀ x, (enc x).length = k) (h1c : ∀ x, ∀ u ∈ enc x, u.oneCell' = true) (hp : 0 < k) (base : Nat) (e : TypeId) (i : TypeInfo) (z : Value) (bytes : Nat) (ht : P.underlying t = some (.slice e)) (hi : P.info? e = some i) (hz : i.zero = some z)
    (hsize : i.size = k) (hby : i.bytes = bytes) (hzs : z.cells.size = k) (A : Option Addr) (n c : Nat) (xs : List α) (hs : a.eval s = .slice A n c) (hown : w.ownsRow base e k (.slice A n c) n (SV enc xs))
    (B : Nat) (A2 : Option Addr) (m c2 : Nat) (ys : List α) (hx : a.eval x = .slice A2 m c2) (hr : SRow enc k w B A2 m ys) (h63 : n + m ≤ maxLen) (hbytes : (n + m) * bytes ≤ 140737488355328) (hbase : base ≤ w.heap.size)
    (h : ∀ A' c' w', w'.ownsRow base e k (.slice A' (n + m) c') (n + m) (SV enc (xs ++ ys)) → w.grownBy w' (Value.ownBlock (.slice A n c)) → Below base w w' → n + m ≤ c' → c' ≤ maxLen → wpList P ops Q rest (a.put o.dst (.slice A' (n + m) c')) w') :
    wpList P ops Q (o :: rest) a w := by
  refine wpList_plain hgd fun K hK => ?_
  obtain ⟨A', c', w', hrun, h2, h3, h4, h5, h6⟩ := run_append_srow w hk h1c hp base t o.type e i z bytes ht hi hz hsize hby hzs A n c xs hown B A2 m c2 ys hr h63 hbytes hbase
  unfold Oper.wp execOp
  simp only [ho, resolve, invoke, builtin, Sem.run_bind, Sem.run_pure, Result.andThen_ok, List.map_toArray, List.map_cons, List.map_nil, hs, hx, hrun]
  exact hK _ _ (h A' c' w' h2 h3 h4 h5 h6)
end
section
variable {H : Type} {encH : TypeId × Value → H} {P : Program} {w : World}
/-- A slice of elements of several cells that came in. -/
theorem rdS_srow {α : Type} {enc : α → List Value} {k bytes : Nat} {t e : TypeId} {cs : List Value} {good : α → Prop} (ht : P.underlying t = some (.slice e)) (hC : P.cellsOf e = k) (hby : P.bytesOf e = bytes) (hp : 0 < k) (hk : ∀ x, (enc x).length = k)
    (hQ : ∀ cs, RdS encH P w e cs → ∃ x, cs = enc x ∧ good x) (h : RdS encH P w t cs) :
    ∃ (A : Option Addr) (len cap : Nat) (xs : List α), cs = [.slice A len cap] ∧ len ≤ cap ∧ cap ≤ maxLen ∧ len * bytes ≤ 140737488351232 ∧ SRow enc k w w.heap.size A len xs ∧ ∀ x ∈ xs, good x := by
  obtain ⟨A, len, cap, rfl, hl, hm, hs, hr⟩ := rdS_slice ht hC hby hp h
  rcases Nat.eq_zero_or_pos len with h0 | h0
  · subst h0
    exact ⟨A, 0, cap, [], rfl, hl, hm, hs, srow_nil _ _ _, fun x hx => by cases hx⟩
  · obtain ⟨b, off, rfl, hb, hc⟩ := hr h0
    have key : ∀ j, j < len → ∃ x, (∀ i, i < k → w.cell? ⟨b, off + (j * k + i), none⟩ = (enc x)[i]?) ∧ good x := fun j hj => by
      obtain ⟨cs', hl', h1, h2⟩ := hc j hj
      obtain ⟨x, rfl, hx⟩ := hQ cs' h2
      exact ⟨x, h1, hx⟩
    have hlen : ((List.range len).pmap (fun j hj => (key j hj).choose) (fun j hj => List.mem_range.1 hj)).length = len := by simp
    refine ⟨some ⟨b, off, none⟩, len, cap, (List.range len).pmap (fun j hj => (key j hj).choose) (fun j hj => List.mem_range.1 hj), rfl, hl, hm, hs, ⟨hlen, fun _ => ⟨b, off, rfl, hb, fun q hq => ?_⟩⟩, fun x hx => ?_⟩
    · have hj : q / k < len := by rw [Nat.div_lt_iff_lt_mul hp]; exact hq
      have hi : q % k < k := Nat.mod_lt _ hp
      have e : q = q / k * k + q % k := by rw [Nat.mul_comm]; exact (Nat.div_add_mod q k).symm
      have h1 := (key _ hj).choose_spec.1 _ hi
      rw [← e] at h1
      show w.cell? _ = some ((SV enc _).getD q undef)
      rw [h1]
      have h2 := sv_get hk (key _ hj).choose ((List.range len).pmap (fun j hj => (key j hj).choose) (fun j hj => List.mem_range.1 hj)) (q / k) (q % k) (by omega) hi
      rw [← e] at h2
      rw [h2]
      simp only [List.getD_eq_getElem?_getD, List.getElem?_pmap, List.getElem?_range hj, Option.pmap_some, Option.getD_some]
      rw [List.getElem?_eq_getElem (by rw [hk]; exact hi)]
      rfl
    · obtain ⟨j, hj, rfl⟩ := List.mem_pmap.1 hx
      exact (key j (List.mem_range.1 hj)).choose_spec.2
end
end Go.Proofs.YtfckciblnojniaaDoor.Mem
