/- Words for memory: rows of cells that a slice leads to, and the append onto a row of a call's own. No condition. -/
import Derived.Test.YtfckciblnojniaaDoorKit
import Derived.OwnWalk
import Derived.Maps.AppendAt
import Derived.Deep.AppendLies
import Derived.Laws.BytesArg
namespace Go.Proofs.YtfckciblnojniaaDoor.Mem
open Go.ChangeShapes Go.WideShapes Go.ChangeAt Go.RowKit Go.Proofs.YtfckciblnojniaaDoor.Kit

theorem add_mk (b off n : Nat) : (⟨b, off, none⟩ : Addr).add n = ⟨b, off + n, none⟩ := by unfold Addr.add; split <;> simp_all

section
variable {w w' : World} {B B' m k : Nat} {A : Option Addr} {f g : Nat → Value}
theorem row_zero : Row w B A 0 f := fun h => absurd h (by omega)
theorem row_more (h : Row w B A m f) (hB : B ≤ B') : Row w B' A m f := fun h0 => by
  obtain ⟨b, off, e, hb, hc⟩ := h h0
  exact ⟨b, off, e, by omega, hc⟩
theorem row_take (h : Row w B A m f) (hk : k ≤ m) : Row w B A k f := fun h0 => by
  obtain ⟨b, off, e, hb, hc⟩ := h (by omega)
  exact ⟨b, off, e, hb, fun j hj => hc j (by omega)⟩
theorem row_of (h : Row w B A m f) (hf : ∀ j, j < m → f j = g j) : Row w B A m g := fun h0 => by
  obtain ⟨b, off, e, hb, hc⟩ := h h0
  exact ⟨b, off, e, hb, fun j hj => by rw [hc j hj, hf j hj]⟩
theorem row_cut (h : Row w B A m f) {c l : Nat} (hz : c = l → m ≤ k) : Row w B (if c = l then A else A.map (·.add k)) (m - k) (fun j => f (k + j)) := fun h0 => by
  obtain ⟨b, off, rfl, hb, hc⟩ := h (by omega)
  rw [if_neg (by intro e; have := hz e; omega)]
  refine ⟨b, off + k, by simp [add_mk], hb, fun j hj => ?_⟩
  rw [Nat.add_assoc]
  exact hc (k + j) (by omega)
theorem row_keep (h : Row w B A m f) (hk : ∀ p : Addr, p.block < B → w'.cell? p = w.cell? p) : Row w' B A m f := fun h0 => by
  obtain ⟨b, off, e, hb, hc⟩ := h h0
  exact ⟨b, off, e, hb, fun j hj => (hk ⟨b, off + j, none⟩ hb).trans (hc j hj)⟩
theorem row_alloc (h : Row w B A m f) (hB : B ≤ w.heap.size) (o : Obj) : Row (w.alloc o) B A m f := row_keep h fun p hp => World.cell?_alloc_lt w o p (by omega)
theorem row_setCell (h : Row w B A m f) {p : Addr} (hB : B ≤ p.block) (u : Value) : Row (w.setCell p u) B A m f :=
  row_keep h fun q hq => World.cell?_setCell_other w p q u (fun e => by subst e; omega)
theorem row_drew (h : Row w B A m f) : Row w.drew B A m f := h
theorem row_drewN (h : Row w B A m f) (n : Nat) : Row (w.drewN n) B A m f := h
theorem row_below (h : Row w B A m f) {B1 : Nat} (hb : Below B1 w w') (hB : B ≤ B1) : Row w' B A m f := row_keep h fun _ hp => hb.cell (by omega)
theorem row_of_own {base n size c : Nat} {e : TypeId} {xs : List Value} (h : w.ownsRow base e size (.slice A n c) n xs) : Row w w.heap.size A (n * size) (fun j => xs.getD j undef) := fun h0 => by
  rcases h.2 with ⟨hv, hn⟩ | ⟨b, cap, cur, hv, hbg, hg, hnc, hcm, hcs, ht⟩
  · subst hn; omega
  · simp only [Value.slice.injEq, true_and] at hv
    obtain ⟨rfl, rfl⟩ := hv
    have hb : b < w.heap.size := by
      rcases Nat.lt_or_ge b w.heap.size with hlt | hge
      · exact hlt
      · rw [Array.getElem?_eq_none hge] at hg; cases hg
    refine ⟨b, 0, rfl, hb, fun j hj => ?_⟩
    have hj2 : j < xs.length := by rw [h.1]; exact hj
    have hx := h.cellAt j hj
    rw [List.getElem?_eq_getElem hj2] at hx
    show w.cell? _ = some (xs.getD j undef)
    rw [Nat.zero_add, hx, List.getD_eq_getElem?_getD, List.getElem?_eq_getElem hj2]
    rfl
/-- A new block, as a row. -/
theorem row_new (w : World) (cs : List Value) (t : TypeId) : Row (w.alloc (.cells cs.toArray t)) (w.heap.size + 1) (some ⟨w.heap.size, 0, none⟩) cs.length (fun j => cs.getD j undef) := fun _ =>
  ⟨w.heap.size, 0, rfl, by omega, fun j hj => by
    rw [Nat.zero_add, World.cell?_alloc_new]
    simp [List.getD_eq_getElem?_getD, List.getElem?_eq_getElem hj]⟩
end

section
variable {P : Program} (w : World)
theorem run_append_nilc (base : Nat) (t ty e : TypeId) (i : TypeInfo) (size : Nat) (ht : P.underlying t = some (.slice e)) (hi : P.info? e = some i)
    (v : Value) (n : Nat) (xs : List Value) (hown : w.ownsRow base e size v n xs) (c : Nat) : (Builtin.append_ #[t, t] ty #[v, .slice none 0 c]).run P w = .ok v w := by
  rcases hown.2 with ⟨rfl, rfl⟩ | ⟨g, cap, cur, rfl, _, _, hnc, _⟩
  · simp [Builtin.append_, run_underlying ht, sizeOf, typeInfo, hi, Builtin.lenOf, Builtin.firstCells]
  · simp [Builtin.append_, run_underlying ht, sizeOf, typeInfo, hi, Builtin.lenOf, Builtin.firstCells, hnc, storeCells]
theorem own_form {w : World} {base : Nat} {e : TypeId} {size : Nat} {v : Value} {n : Nat} {xs : List Value} (h : w.ownsRow base e size v n xs) : ∃ A c, v = .slice A n c ∧ n ≤ c ∧ c ≤ maxLen := by
  rcases h.2 with ⟨rfl, rfl⟩ | ⟨g, cap, cur, rfl, _, _, hnc, hm, _⟩
  · exact ⟨none, 0, rfl, Nat.le_refl _, Nat.zero_le _⟩
  · exact ⟨_, cap, rfl, hnc, hm⟩
theorem run_append_row (base : Nat) (t ty e : TypeId) (i : TypeInfo) (z : Value) (size bytes : Nat) (ht : P.underlying t = some (.slice e)) (hi : P.info? e = some i) (hz : i.zero = some z)
    (hsize : i.size = size) (hby : i.bytes = bytes) (hzs : z.cells.size = size) (hsz : 0 < size)
    (v : Value) (n : Nat) (xs : List Value) (hown : w.ownsRow base e size v n xs)
    (B : Nat) (A : Option Addr) (m c : Nat) (news : List Value) (hl : news.length = m * size) (hr : Row w B A (m * size) (fun j => news.getD j undef)) (h1 : ∀ u ∈ news, u.oneCell' = true)
    (h63 : n + m ≤ maxLen) (hbytes : (n + m) * bytes ≤ 140737488355328) (hbase : base ≤ w.heap.size) :
    ∃ A' c' w', (Builtin.append_ #[t, t] ty #[v, .slice A m c]).run P w = .ok (.slice A' (n + m) c') w' ∧ w'.ownsRow base e size (.slice A' (n + m) c') (n + m) (xs ++ news) ∧ w.grownBy w' v.ownBlock ∧ n + m ≤ c' ∧ c' ≤ maxLen := by
  rcases A with _ | ad
  · have hm : m = 0 := by
      rcases Nat.eq_zero_or_pos m with h0 | h0
      · exact h0
      · obtain ⟨b, off, h, _⟩ := hr (Nat.mul_pos h0 hsz)
        cases h
    subst hm
    have hn : news = [] := List.eq_nil_of_length_eq_zero (by simpa using hl)
    subst hn
    obtain ⟨A', c', rfl, h2, h3⟩ := own_form hown
    exact ⟨A', c', w, run_append_nilc w base t ty e i size ht hi _ n xs hown c, by simpa using hown, ⟨rfl, rfl, rfl, Nat.le_refl _, fun _ _ _ => rfl⟩, h2, h3⟩
  · have hcells : ∀ j u, news[j]? = some u → w.cell? (ad.add j) = some u := by
      intro j u hu
      have hj : j < news.length := by
        rcases Nat.lt_or_ge j news.length with h | h
        · exact h
        · rw [List.getElem?_eq_none h] at hu; cases hu
      obtain ⟨b, off, he, _, hc⟩ := hr (by omega)
      injection he with he
      subst he
      have h2 := hc j (by omega)
      simp only [List.getD_eq_getElem?_getD, hu, Option.getD_some] at h2
      rw [add_mk, h2]
    obtain ⟨v', w', hrun, h2, h3, _⟩ := run_append_own (P := P) w base t ty e i z size bytes ht hi hz hsize hby hzs hsz v n xs hown ad m c news hl hcells h1 h63 hbytes hbase
    obtain ⟨A', c', rfl, h4, h5⟩ := own_form h2
    exact ⟨A', c', w', hrun, h2, h3, h4, h5⟩
theorem below_of_own {w w' : World} {base : Nat} {e : TypeId} {size : Nat} {v : Value} {n : Nat} {xs : List Value} (h : w.ownsRow base e size v n xs) (hg : w.grownBy w' v.ownBlock) (hbase : base ≤ w.heap.size) : Below base w w' :=
  (Below.refl base w).grown hg hbase (fun k hk => (h.lt k hk).1)
theorem wp_append_row {o : Oper} {a : Act} {K : Act → World → Prop} {Q : Exit → Act → World → Prop} (s x : Operand) (t : TypeId)
    (ho : o.op = .call { callee := .builtin .append, args := #[s, x], argTypes := #[t, t] })
    (base : Nat) (e : TypeId) (i : TypeInfo) (z : Value) (size bytes : Nat) (ht : P.underlying t = some (.slice e)) (hi : P.info? e = some i) (hz : i.zero = some z)
    (hsize : i.size = size) (hby : i.bytes = bytes) (hzs : z.cells.size = size) (hsz : 0 < size)
    (v : Value) (n : Nat) (xs : List Value) (hs : a.eval s = v) (hown : w.ownsRow base e size v n xs)
    (B : Nat) (A : Option Addr) (m c : Nat) (news : List Value) (hx : a.eval x = .slice A m c) (hl : news.length = m * size) (hr : Row w B A (m * size) (fun j => news.getD j undef)) (h1 : ∀ u ∈ news, u.oneCell' = true)
    (h63 : n + m ≤ maxLen) (hbytes : (n + m) * bytes ≤ 140737488355328) (hbase : base ≤ w.heap.size)
    (h : ∀ A' c' w', w'.ownsRow base e size (.slice A' (n + m) c') (n + m) (xs ++ news) → w.grownBy w' v.ownBlock → Below base w w' → n + m ≤ c' → c' ≤ maxLen → K (a.put o.dst (.slice A' (n + m) c')) w') : o.wp P a w K Q := by
  obtain ⟨A', c', w', hrun, h2, h3, h4, h5⟩ := run_append_row (P := P) w base t o.type e i z size bytes ht hi hz hsize hby hzs hsz v n xs hown B A m c news hl hr h1 h63 hbytes hbase
  unfold Oper.wp execOp
  simp only [ho, resolve, invoke, builtin, Sem.run_bind, Sem.run_pure, Result.andThen_ok, List.map_toArray, List.map_cons, List.map_nil, hs, hx, hrun]
  exact h A' c' w' h2 h3 (below_of_own hown h3 hbase) h4 h5

/-! ### Bytes -/
def BV (l : List Int) : List Value := l.map (Value.int .u8)
theorem bv_get (l : List Int) (j : Nat) (h : j < l.length) : (BV l).getD j undef = .int .u8 (l.getD j 0) := by
  simp [BV, List.getD_eq_getElem?_getD, List.getElem?_eq_getElem h]
/-- The slice (A, n) reads as the bytes l, below block B. -/
def Bytes (w : World) (B : Nat) (A : Option Addr) (n : Nat) (l : List Int) : Prop := l.length = n ∧ Row w B A n (fun j => .int .u8 (l.getD j 0))
section
variable {w : World} {B n c base : Nat} {A : Option Addr} {l : List Int} {e : TypeId}
theorem bytes_row (h : Bytes w B A n l) : Row w B A (n * 1) (fun j => (BV l).getD j undef) := by
  rw [Nat.mul_one]
  exact row_of h.2 fun j hj => (bv_get l j (by rw [h.1]; exact hj)).symm
theorem bytes_of_own (h : w.ownsRow base e 1 (.slice A n c) n (BV l)) : Bytes w w.heap.size A n l := by
  have hl : l.length = n := by have := h.1; simpa [BV] using this
  refine ⟨hl, ?_⟩
  have := row_of_own h
  rw [Nat.mul_one] at this
  exact row_of this fun j hj => bv_get l j (by rw [hl]; exact hj)
theorem bytes_one (w : World) (x : Int) (t : TypeId) : Bytes (w.alloc (.cells #[.int .u8 x] t)) (w.heap.size + 1) (some ⟨w.heap.size, 0, none⟩) 1 [x] :=
  ⟨rfl, row_of (row_new w [.int .u8 x] t) fun j hj => by obtain rfl : j = 0 := by { simp at hj; omega }; rfl⟩
theorem bytes_one_at (w : World) (x : Int) (t : TypeId) {b : Nat} (hb : b = w.heap.size) : Bytes (w.alloc (.cells #[.int .u8 x] t)) (b + 1) (some ⟨b, 0, none⟩) 1 [x] := hb ▸ bytes_one w x t
theorem bytes_alloc (h : Bytes w B A n l) (hB : B ≤ w.heap.size) (o : Obj) : Bytes (w.alloc o) B A n l := ⟨h.1, row_alloc h.2 hB o⟩
theorem bytes_below {w' : World} {B1 : Nat} (h : Bytes w B A n l) (hb : Below B1 w w') (hB : B ≤ B1) : Bytes w' B A n l := ⟨h.1, row_below h.2 hb hB⟩
theorem bytes_more {B1 : Nat} (h : Bytes w B A n l) (hB : B ≤ B1) : Bytes w B1 A n l := ⟨h.1, row_more h.2 hB⟩
theorem bytes_nil (w : World) (B : Nat) (A : Option Addr) : Bytes w B A 0 [] := ⟨rfl, row_zero⟩
theorem bytes_cut (h : Bytes w B A n l) {k c : Nat} (hk : k ≤ n) (hc : n ≤ c) : Bytes w B (if c = k then A else A.map (·.add k)) (n - k) (l.drop k) := by
  refine ⟨by rw [List.length_drop, h.1], ?_⟩
  exact row_of (row_cut h.2 (fun e => by omega)) fun j hj => by simp
theorem bytes_take (h : Bytes w B A n l) {k : Nat} (hk : k ≤ n) : Bytes w B A k (l.take k) :=
  ⟨by rw [List.length_take, h.1]; omega, row_of (row_take h.2 hk) fun j hj => by simp [hj]⟩
theorem own_empty (w : World) (t : TypeId) : (w.alloc (.cells #[] t)).ownsRow w.heap.size t 1 (.slice (some ⟨w.heap.size, 0, none⟩) 0 0) 0 (BV []) := World.ownsRow_lit w #[] 0 (Nat.le_refl _) (Nat.zero_le _) rfl
theorem bv_one (l : List Int) : ∀ u ∈ BV l, u.oneCell' = true := by
  intro u hu
  obtain ⟨n, _, rfl⟩ := List.mem_map.1 hu
  rfl
theorem bv_append (l m : List Int) : BV l ++ BV m = BV (l ++ m) := by simp [BV]
/-- string(b). -/
theorem run_string_of {P : Program} (h : Bytes w B A n l) (src dst e : TypeId) (hs : P.underlying src = some (.slice e)) (he : P.underlying e = some (.int .u8)) (hd : P.underlying dst = some .string) (c : Nat) :
    (convert src dst (.slice A n c)).run P w = .ok (.string (strOfNums l)) w := by
  obtain ⟨hl, hr⟩ := h
  rcases Nat.eq_zero_or_pos n with h0 | h0
  · subst h0
    have hl0 : l = [] := List.eq_nil_of_length_eq_zero hl
    subst hl0
    rcases A with _ | ad
    · rw [run_convert_bytes_nil w src e hs he 0 c dst hd]; rfl
    · rw [run_convert_bytes_string w src dst e _ 0 c hs he hd, run_bytesToString w ad 0 c [] (by rfl)]; rfl
  · obtain ⟨b, off, rfl, _, hc⟩ := hr h0
    exact run_convert_bytes_arg w src e hs he b off n c l hl hc dst hd
end
end
end Go.Proofs.YtfckciblnojniaaDoor.Mem
