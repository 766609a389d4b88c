/- Blocks that a call made, told apart by what they hold; bytes in such blocks; lists of payloads. No condition. -/
import Derived.Test.YtmnkgmadogkjbaaBytes
import Derived.Laws.Rows
namespace Go.Proofs.Ytmnkgmadogkjbaa.Mem
open Go.ChangeShapes Go.WideShapes Go.ChangeAt Go.RowKit Go.Proofs.Ytmnkgmadogkjbaa.Kit
set_option linter.unusedVariables false
/-- The blocks of cells of the type t are as they were. -/
def KeepT (w w' : World) (t : TypeId) : Prop := ∀ (b : Nat) (cur : Array Value) (m : Nat × Nat), w.heap[b]? = some (.cells cur t m) → w'.heap[b]? = some (.cells cur t m)
theorem keepT_refl (w : World) (t : TypeId) : KeepT w w t := fun _ _ _ h => h
theorem KeepT.trans {w w' w'' : World} {t : TypeId} (h : KeepT w w' t) (k : KeepT w' w'' t) : KeepT w w'' t := fun b cur m hb => k b cur m (h b cur m hb)
theorem lt_of_blk {w : World} {b : Nat} {o : Obj} (h : w.heap[b]? = some o) : b < w.heap.size := by
  rcases Nat.lt_or_ge b w.heap.size with hlt | hge
  · exact hlt
  · rw [Array.getElem?_eq_none hge] at h; cases h
theorem keepT_below {w w' : World} {B : Nat} (h : Below B w w') (hB : w.heap.size ≤ B) (t : TypeId) : KeepT w w' t := fun b cur m hb => by
  rw [h.block b (by have := lt_of_blk hb; omega)]; exact hb
theorem keepT_alloc (w : World) (o : Obj) (t : TypeId) : KeepT w (w.alloc o) t := fun b cur m hb => by
  rw [Below.heap_alloc w o b (lt_of_blk hb)]; exact hb
theorem keepT_drew (w : World) (t : TypeId) : KeepT w w.drew t := fun _ _ _ h => h
theorem keepT_drewN (w : World) (n : Nat) (t : TypeId) : KeepT w (w.drewN n) t := fun _ _ _ h => h
theorem keepT_set {w : World} {g : Nat} {cs : Array Value} {t t' : TypeId} {fr : Nat × Nat} (hg : w.heap[g]? = some (.cells cs t' fr)) (hne : t' ≠ t) (j : Nat) (u : Value) : KeepT w (w.setCell ⟨g, j, none⟩ u) t := fun b cur m hb => by
  rw [Below.heap_setCell w ⟨g, j, none⟩ u b (fun e => by
    have e : b = g := e
    subst e
    rw [hg] at hb
    injection hb with hb
    injection hb with _ hb
    exact hne hb)]
  exact hb
theorem blk_set {w : World} {g : Nat} {cs : Array Value} {t : TypeId} {fr : Nat × Nat} (hg : w.heap[g]? = some (.cells cs t fr)) (j : Nat) (u : Value) : ∃ cs', (w.setCell ⟨g, j, none⟩ u).heap[g]? = some (.cells cs' t fr) := by
  simp [World.setCell, Array.getElem?_modify, hg]
theorem keepT_set2 {w : World} {g : Nat} {cs : Array Value} {t t' : TypeId} {fr : Nat × Nat} (hg : w.heap[g]? = some (.cells cs t' fr)) (hne : t' ≠ t) (j k : Nat) (u v : Value) : KeepT w ((w.setCell ⟨g, j, none⟩ u).setCell ⟨g, k, none⟩ v) t := by
  obtain ⟨cs', h⟩ := blk_set hg j u
  exact (keepT_set hg hne j u).trans (keepT_set h hne k v)
theorem keepT_own {w w' : World} {base size n : Nat} {e t : TypeId} {v : Value} {xs : List Value} (h : w.ownsRow base e size v n xs) (hg : w.grownBy w' v.ownBlock) (hne : e ≠ t) : KeepT w w' t := fun b cur m hb => by
  rw [hg.block b (lt_of_blk hb) (fun e' => by
    rcases h.2 with ⟨rfl, _⟩ | ⟨g, cap, cur', rfl, _, hg', _⟩
    · cases e'
    · injection e' with e'
      have e' : b = g := e'
      subst e'
      rw [hg'] at hb
      injection hb with hb
      injection hb with _ hb
      exact hne hb)]
  exact hb
theorem own_keepT {w w' : World} {base size n : Nat} {e : TypeId} {v : Value} {xs : List Value} (h : w.ownsRow base e size v n xs) (hk : KeepT w w' e) : w'.ownsRow base e size v n xs := by
  refine ⟨h.1, ?_⟩
  rcases h.2 with h0 | ⟨g, cap, cur, e1, e2, e3, e4⟩
  · exact .inl h0
  · exact .inr ⟨g, cap, cur, e1, e2, hk _ _ _ e3, e4⟩
theorem own_base {w : World} {base base' size n : Nat} {e : TypeId} {v : Value} {xs : List Value} (h : w.ownsRow base e size v n xs) (hb : base' ≤ base) : w.ownsRow base' e size v n xs := by
  refine ⟨h.1, ?_⟩
  rcases h.2 with h0 | ⟨g, cap, cur, e1, e2, e3⟩
  · exact .inl h0
  · exact .inr ⟨g, cap, cur, e1, Nat.le_trans hb e2, e3⟩

/-! ### Bytes in a block that a call made -/
def OB (w : World) (base : Nat) (A : Option Addr) (n : Nat) (l : List Int) : Prop :=
  l.length = n ∧ (0 < n → ∃ b off cur m, A = some ⟨b, off, none⟩ ∧ base ≤ b ∧ w.heap[b]? = some (.cells cur 5 m) ∧ ∀ j, j < n → cur[off + j]? = some (.int .u8 (l.getD j 0)))
section
variable {w w' : World} {base n c k : Nat} {A : Option Addr} {l : List Int}
theorem ob_nil (w : World) (base : Nat) (A : Option Addr) : OB w base A 0 [] := ⟨rfl, fun h => absurd h (by omega)⟩
theorem ob_of_own (h : w.ownsRow base 5 1 (.slice A n c) n (BV l)) : OB w base A n l := by
  have hl : l.length = n := by have := h.1; simpa [BV] using this
  refine ⟨hl, fun h0 => ?_⟩
  rcases h.2 with ⟨_, hn⟩ | ⟨g, cap, cur, e1, e2, e3, e4, e5, e6, e7⟩
  · omega
  · simp only [Value.slice.injEq, true_and] at e1
    obtain ⟨rfl, rfl⟩ := e1
    refine ⟨g, 0, cur, (0, 0), rfl, e2, e3, fun j hj => ?_⟩
    have h1 : (cur.toList.take (n * 1))[j]? = (BV l)[j]? := by rw [e7]
    rw [Nat.mul_one, List.getElem?_take_of_lt hj] at h1
    rw [Nat.zero_add, ← Array.getElem?_toList, h1]
    simp [BV, List.getElem?_eq_getElem (show j < l.length by omega)]
theorem ob_bytes (h : OB w base A n l) : Bytes w w.heap.size A n l := by
  refine ⟨h.1, fun h0 => ?_⟩
  obtain ⟨b, off, cur, m, e1, e2, e3, e4⟩ := h.2 h0
  exact ⟨b, off, e1, lt_of_blk e3, fun j hj => by rw [cell_of_row w b (off + j) cur _ m e3]; exact e4 j hj⟩
theorem ob_keep (h : OB w base A n l) (hk : KeepT w w' 5) : OB w' base A n l := by
  refine ⟨h.1, fun h0 => ?_⟩
  obtain ⟨b, off, cur, m, e1, e2, e3, e4⟩ := h.2 h0
  exact ⟨b, off, cur, m, e1, e2, hk _ _ _ e3, e4⟩
theorem ob_base {base' : Nat} (h : OB w base A n l) (hb : base' ≤ base) : OB w base' A n l := by
  refine ⟨h.1, fun h0 => ?_⟩
  obtain ⟨b, off, cur, m, e1, e2, e3⟩ := h.2 h0
  exact ⟨b, off, cur, m, e1, Nat.le_trans hb e2, e3⟩
theorem ob_cut (h : OB w base A n l) (hk : k ≤ n) (hc : n ≤ c) : OB w base (if c = k then A else A.map (·.add k)) (n - k) (l.drop k) := by
  refine ⟨by rw [List.length_drop, h.1], fun h0 => ?_⟩
  obtain ⟨b, off, cur, m, rfl, e2, e3, e4⟩ := h.2 (by omega)
  rw [if_neg (by omega)]
  refine ⟨b, off + k, cur, m, by simp [add_mk], e2, e3, fun j hj => ?_⟩
  rw [Nat.add_assoc, e4 (k + j) (by omega)]
  simp
theorem ob_take (h : OB w base A n l) (hk : k ≤ n) : OB w base A k (l.take k) := by
  refine ⟨by rw [List.length_take, h.1]; omega, fun h0 => ?_⟩
  obtain ⟨b, off, cur, m, rfl, e2, e3, e4⟩ := h.2 (by omega)
  refine ⟨b, off, cur, m, rfl, e2, e3, fun j hj => ?_⟩
  rw [e4 j (by omega)]
  simp [List.getD_eq_getElem?_getD, hj]
end

/-! ### Lists of payloads -/
def sl3 : Value → Option Addr × Nat × Nat
  | .slice a n c => (a, n, c)
  | _ => (none, 0, 0)
/-- The slice (A, n) reads as these lists of bytes, below block B. -/
def BRows (w : World) (B : Nat) (A : Option Addr) (n : Nat) (ls : List (List Int)) : Prop :=
  ls.length = n ∧ ∃ f : Nat → Option Addr × Nat × Nat, Row w B A n (fun j => .slice (f j).1 (f j).2.1 (f j).2.2) ∧ ∀ j, j < n → (f j).2.1 ≤ (f j).2.2 ∧ (f j).2.2 ≤ maxLen ∧ Bytes w B (f j).1 (f j).2.1 (ls.getD j [])
theorem brows_below {w w' : World} {B B1 n : Nat} {A : Option Addr} {ls : List (List Int)} (h : BRows w B A n ls) (hb : Below B1 w w') (hB : B ≤ B1) : BRows w' B A n ls := by
  obtain ⟨h1, f, h2, h3⟩ := h
  exact ⟨h1, f, row_below h2 hb hB, fun j hj => ⟨(h3 j hj).1, (h3 j hj).2.1, bytes_below (h3 j hj).2.2 hb hB⟩⟩
theorem brows_alloc {w : World} {B n : Nat} {A : Option Addr} {ls : List (List Int)} (h : BRows w B A n ls) (hB : B ≤ w.heap.size) (o : Obj) : BRows (w.alloc o) B A n ls := by
  obtain ⟨h1, f, h2, h3⟩ := h
  exact ⟨h1, f, row_alloc h2 hB o, fun j hj => ⟨(h3 j hj).1, (h3 j hj).2.1, bytes_alloc (h3 j hj).2.2 hB o⟩⟩
/-- A list of payloads that a call made: the row and each payload lie in blocks of its own. -/
def Pieces (w : World) (base : Nat) (A : Option Addr) (n c : Nat) (ls : List (List Int)) : Prop :=
  ls.length = n ∧ ∃ vs : List Value, w.ownsRow base 25 1 (.slice A n c) n vs ∧ ∀ j, j < n → ∃ A' n' c', vs.getD j undef = .slice A' n' c' ∧ n' ≤ c' ∧ c' ≤ maxLen ∧ OB w base A' n' (ls.getD j [])
section
variable {w w' : World} {base n c : Nat} {A : Option Addr} {ls : List (List Int)}
theorem pieces_nil (w : World) (base : Nat) : Pieces w base none 0 0 [] := ⟨rfl, [], World.ownsRow_nil _ _ _ _, fun j hj => absurd hj (by omega)⟩
theorem pieces_keep (h : Pieces w base A n c ls) (h1 : KeepT w w' 5) (h2 : KeepT w w' 25) : Pieces w' base A n c ls := by
  obtain ⟨e1, vs, e2, e3⟩ := h
  refine ⟨e1, vs, own_keepT e2 h2, fun j hj => ?_⟩
  obtain ⟨A', n', c', k1, k2, k3, k4⟩ := e3 j hj
  exact ⟨A', n', c', k1, k2, k3, ob_keep k4 h1⟩
theorem pieces_base {base' : Nat} (h : Pieces w base A n c ls) (hb : base' ≤ base) : Pieces w base' A n c ls := by
  obtain ⟨e1, vs, e2, e3⟩ := h
  refine ⟨e1, vs, own_base e2 hb, fun j hj => ?_⟩
  obtain ⟨A', n', c', k1, k2, k3, k4⟩ := e3 j hj
  exact ⟨A', n', c', k1, k2, k3, ob_base k4 hb⟩
theorem pieces_rows (h : Pieces w base A n c ls) : BRows w w.heap.size A n ls := by
  obtain ⟨e1, vs, e2, e3⟩ := h
  refine ⟨e1, fun j => sl3 (vs.getD j undef), ?_, fun j hj => ?_⟩
  · have := row_of_own e2
    rw [Nat.mul_one] at this
    refine row_of this fun j hj => ?_
    obtain ⟨A', n', c', k1, _⟩ := e3 j hj
    dsimp only
    rw [k1]
    rfl
  · obtain ⟨A', n', c', k1, k2, k3, k4⟩ := e3 j hj
    dsimp only
    rw [k1]
    exact ⟨k2, k3, ob_bytes k4⟩
end

/-! ### The append of payloads -/
theorem info_su8 : (Try.prog.info? 25).map (fun i => (i.zero, i.size, i.bytes)) = some (some (.slice none 0 0), 1, 24) := by kernel_rfl
theorem bv_sl_one {vs : List Value} (h : ∀ j, j < vs.length → ∃ A n c, vs.getD j undef = .slice A n c) : ∀ u ∈ vs, u.oneCell' = true := by
  intro u hu
  obtain ⟨j, hj, rfl⟩ := List.getElem_of_mem hu
  obtain ⟨A, n, c, e⟩ := h j hj
  rw [List.getD_eq_getElem?_getD, List.getElem?_eq_getElem hj] at e
  have e : vs[j] = .slice A n c := e
  rw [e]
  rfl
/-- What the append of payloads onto payloads leaves. -/
theorem run_app_pieces {w : World} {ty : TypeId} (base : Nat) (A : Option Addr) (n c : Nat) (ls : List (List Int)) (hown : Pieces w base A n c ls)
    (B : Nat) (A2 : Option Addr) (m c2 : Nat) (ls2 : List (List Int)) (f : Nat → Option Addr × Nat × Nat) (hl2 : ls2.length = m) (hr : Row w B A2 m (fun j => .slice (f j).1 (f j).2.1 (f j).2.2))
    (hf : ∀ j, j < m → (f j).2.1 ≤ (f j).2.2 ∧ (f j).2.2 ≤ maxLen ∧ OB w base (f j).1 (f j).2.1 (ls2.getD j [])) (hsz : n + m ≤ 1099511627776) (hbase : base ≤ w.heap.size) :
    ∃ A' c' w', (Builtin.append_ #[22, 22] ty #[.slice A n c, .slice A2 m c2]).run Try.prog w = .ok (.slice A' (n + m) c') w' ∧ Pieces w' base A' (n + m) c' (ls ++ ls2) ∧ Below base w w' ∧ (∀ t, t ≠ 25 → KeepT w w' t) ∧ n + m ≤ c' ∧ c' ≤ maxLen := by
  obtain ⟨i, hi, h1, h2, h3⟩ := info_parts info_su8
  obtain ⟨e1, vs, e2, e3⟩ := hown
  have hvl : vs.length = n := by have := e2.1; omega
  have hnew : ((List.range m).map fun j => Value.slice (f j).1 (f j).2.1 (f j).2.2).length = m * 1 := by simp
  have hget : ∀ j, j < m → ((List.range m).map fun j => Value.slice (f j).1 (f j).2.1 (f j).2.2).getD j undef = .slice (f j).1 (f j).2.1 (f j).2.2 := fun j hj => by
    simp [List.getD_eq_getElem?_getD, hj]
  obtain ⟨A', c', w', k1, k2, k3, k4, k5⟩ := run_append_row (P := Try.prog) w base 22 ty 25 i (.slice none 0 0) 1 24 Try.underlying22 hi h1 h2 h3 rfl (by decide) _ n vs e2 B A2 m c2 _ hnew
    (by rw [Nat.mul_one]; exact row_of hr fun j hj => (hget j hj).symm) (bv_sl_one fun j hj => ⟨_, _, _, hget j (by simpa using hj)⟩) (by unfold maxLen; omega) (by omega) hbase
  have hkt : ∀ t, t ≠ 25 → KeepT w w' t := fun t ht => keepT_own e2 k3 (fun e => ht e.symm)
  refine ⟨A', c', w', k1, ⟨by simp [e1, hl2], _, k2, fun j hj => ?_⟩, below_of_own e2 k3 hbase, hkt, k4, k5⟩
  have hku := hkt 5 (by decide)
  by_cases hjn : j < n
  · obtain ⟨A1, n1, c1, q1, q2, q3, q4⟩ := e3 j hjn
    refine ⟨A1, n1, c1, ?_, q2, q3, ?_⟩
    · rw [← q1, List.getD_eq_getElem?_getD, List.getD_eq_getElem?_getD, List.getElem?_append_left (by omega)]
    · have : (ls ++ ls2).getD j [] = ls.getD j [] := by rw [List.getD_eq_getElem?_getD, List.getD_eq_getElem?_getD, List.getElem?_append_left (by omega)]
      rw [this]
      exact ob_keep q4 hku
  · obtain ⟨q2, q3, q4⟩ := hf (j - n) (by omega)
    refine ⟨(f (j - n)).1, (f (j - n)).2.1, (f (j - n)).2.2, ?_, q2, q3, ?_⟩
    · rw [← hget (j - n) (by omega), List.getD_eq_getElem?_getD, List.getD_eq_getElem?_getD, List.getElem?_append_right (by omega), hvl]
    · have : (ls ++ ls2).getD j [] = ls2.getD (j - n) [] := by rw [List.getD_eq_getElem?_getD, List.getD_eq_getElem?_getD, List.getElem?_append_right (by omega), e1]
      rw [this]
      exact ob_keep q4 hku
end Go.Proofs.Ytmnkgmadogkjbaa.Mem
