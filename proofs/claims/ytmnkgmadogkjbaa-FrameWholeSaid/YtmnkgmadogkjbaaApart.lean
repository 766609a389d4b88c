/- Bytes and payloads that lie apart from one block: they stay as they are while that block is appended to. No condition. -/
import Derived.Test.YtmnkgmadogkjbaaTag
import Derived.Maps.AppendAt
namespace Go.Proofs.Ytmnkgmadogkjbaa.Mem
open Go.ChangeShapes Go.WideShapes Go.ChangeAt Go.RowKit Go.Proofs.Ytmnkgmadogkjbaa.Kit
set_option linter.unusedVariables false
/-- What the slice (A, n) points to is not the block g. -/
def Apart (g : Option Nat) (n : Nat) (A : Option Addr) : Prop := 0 < n → ∀ b off, A = some ⟨b, off, none⟩ → g ≠ some b
section
variable {w w' : World} {base base0 n c k : Nat} {A : Option Addr} {l : List Int} {g g' : Option Nat} {ls : List (List Int)}
theorem ob_grown (h : OB w base A n l) (ha : Apart g n A) (hg : w.grownBy w' g) : OB w' base A n l := by
  refine ⟨h.1, fun h0 => ?_⟩
  obtain ⟨b, off, cur, m, rfl, e2, e3, e4⟩ := h.2 h0
  exact ⟨b, off, cur, m, rfl, e2, by rw [hg.block b (lt_of_blk e3) (fun e => ha h0 b off rfl e.symm)]; exact e3, e4⟩
theorem apart_grown (h : OB w base A n l) (ha : Apart g n A) (hg : g' = g ∨ g' = some w.heap.size) : Apart g' n A := by
  rcases hg with rfl | rfl
  · exact ha
  · intro h0 b off e e2
    obtain ⟨b1, off1, cur, m, rfl, _, e3, _⟩ := h.2 h0
    injection e with e
    injection e with e
    injection e2 with e2
    have := lt_of_blk e3
    omega
theorem apart_base (h : OB w base A n l) (hg : ∀ k, g = some k → k < base) : Apart g n A := by
  intro h0 b off e e2
  obtain ⟨b1, off1, cur, m, rfl, e3, _⟩ := h.2 h0
  injection e with e
  injection e with e
  have := hg b e2
  omega
theorem own_block_lt {xs : List Value} {e : TypeId} {v : Value} {size : Nat} (h : w.ownsRow base e size v n xs) : ∀ k, v.ownBlock = some k → k < w.heap.size := fun k hk => by
  rcases h.2 with ⟨rfl, _⟩ | ⟨g, cap, cur, rfl, e2, e3, _⟩
  · cases hk
  · injection hk with hk
    have hk : g = k := hk
    subst hk
    exact lt_of_blk e3
/-- Payloads that a call made, each apart from the block g. -/
def PX (w : World) (base : Nat) (g : Option Nat) (A : Option Addr) (n c : Nat) (ls : List (List Int)) : Prop :=
  ls.length = n ∧ ∃ vs : List Value, w.ownsRow base 25 1 (.slice A n c) n vs ∧ ∀ j, j < n → ∃ A' n' c', vs.getD j undef = .slice A' n' c' ∧ n' ≤ c' ∧ c' ≤ maxLen ∧ OB w base A' n' (ls.getD j []) ∧ Apart g n' A'
theorem px_pieces (h : PX w base g A n c ls) : Pieces w base A n c ls := by
  obtain ⟨e1, vs, e2, e3⟩ := h
  refine ⟨e1, vs, e2, fun j hj => ?_⟩
  obtain ⟨A', n', c', k1, k2, k3, k4, _⟩ := e3 j hj
  exact ⟨A', n', c', k1, k2, k3, k4⟩
theorem px_of (h : Pieces w base A n c ls) (hg : ∀ k, g = some k → k < base) : PX w base g A n c ls := by
  obtain ⟨e1, vs, e2, e3⟩ := h
  refine ⟨e1, vs, e2, fun j hj => ?_⟩
  obtain ⟨A', n', c', k1, k2, k3, k4⟩ := e3 j hj
  exact ⟨A', n', c', k1, k2, k3, k4, apart_base k4 hg⟩
theorem px_nil (w : World) (base : Nat) (g : Option Nat) : PX w base g none 0 0 [] := ⟨rfl, [], World.ownsRow_nil _ _ _ _, fun j hj => absurd hj (by omega)⟩
theorem px_keep (h : PX w base g A n c ls) (h1 : KeepT w w' 5) (h2 : KeepT w w' 25) : PX w' base g A n c ls := by
  obtain ⟨e1, vs, e2, e3⟩ := h
  refine ⟨e1, vs, own_keepT e2 h2, fun j hj => ?_⟩
  obtain ⟨A', n', c', k1, k2, k3, k4, k5⟩ := e3 j hj
  exact ⟨A', n', c', k1, k2, k3, ob_keep k4 h1, k5⟩
theorem px_base {base' : Nat} (h : PX w base g A n c ls) (hb : base' ≤ base) : PX w base' g A n c ls := by
  obtain ⟨e1, vs, e2, e3⟩ := h
  refine ⟨e1, vs, own_base e2 hb, fun j hj => ?_⟩
  obtain ⟨A', n', c', k1, k2, k3, k4, k5⟩ := e3 j hj
  exact ⟨A', n', c', k1, k2, k3, ob_base k4 hb, k5⟩
theorem px_grown {xs : List Value} {v : Value} {n0 : Nat} (h : PX w base g A n c ls) (ho : w.ownsRow base0 5 1 v n0 xs) (hg : w.grownBy w' g) (hv : v.ownBlock = g) (hg' : g' = g ∨ g' = some w.heap.size) : PX w' base g' A n c ls := by
  obtain ⟨e1, vs, e2, e3⟩ := h
  subst hv
  refine ⟨e1, vs, own_keepT e2 (keepT_own ho hg (by decide)), fun j hj => ?_⟩
  obtain ⟨A', n', c', k1, k2, k3, k4, k5⟩ := e3 j hj
  exact ⟨A', n', c', k1, k2, k3, ob_grown k4 k5 hg, apart_grown k4 k5 hg'⟩
end
/-- The append of payloads onto payloads, all apart from the block g. -/
theorem run_app_px {w : World} {ty : TypeId} (base : Nat) (g : Option Nat) (A : Option Addr) (n c : Nat) (ls : List (List Int)) (hown : PX w base g A n c ls)
    (A2 : Option Addr) (m c2 : Nat) (ls2 : List (List Int)) (h2 : PX w base g A2 m c2 ls2) (hsz : n + m ≤ 1099511627776) (hbase : base ≤ w.heap.size) :
    ∃ A' c' w', (Builtin.append_ #[22, 22] ty #[.slice A n c, .slice A2 m c2]).run Try.prog w = .ok (.slice A' (n + m) c') w' ∧ PX w' base g A' (n + m) c' (ls ++ ls2) ∧ Below base w w' ∧ (∀ t, t ≠ 25 → KeepT w w' t) ∧ n + m ≤ c' ∧ c' ≤ maxLen := by
  obtain ⟨i, hi, g1, g2, g3⟩ := info_parts info_su8
  obtain ⟨e1, vs, e2, e3⟩ := hown
  obtain ⟨d1, us, d2, d3⟩ := h2
  have hvl : vs.length = n := by have := e2.1; omega
  have hul : us.length = m := by have := d2.1; omega
  obtain ⟨A', c', w', k1, k2, k3, k4, k5⟩ := run_append_row (P := Try.prog) w base 22 ty 25 i (.slice none 0 0) 1 24 Try.underlying22 hi g1 g2 g3 rfl (by decide) _ n vs e2 w.heap.size A2 m c2 us (by omega)
    (row_of_own d2) (bv_sl_one fun j hj => by obtain ⟨A', n', c', k, _⟩ := d3 j (by omega); exact ⟨_, _, _, k⟩) (by unfold maxLen; omega) (by omega) hbase
  have hkt : ∀ t, t ≠ 25 → KeepT w w' t := fun t ht => keepT_own e2 k3 (fun e => ht e.symm)
  refine ⟨A', c', w', k1, ⟨by simp [e1, d1], _, k2, fun j hj => ?_⟩, below_of_own e2 k3 hbase, hkt, k4, k5⟩
  have hku := hkt 5 (by decide)
  by_cases hjn : j < n
  · obtain ⟨A1, n1, c1, q1, q2, q3, q4, q5⟩ := e3 j hjn
    refine ⟨A1, n1, c1, ?_, q2, q3, ?_, q5⟩
    · rw [← q1, List.getD_eq_getElem?_getD, List.getD_eq_getElem?_getD, List.getElem?_append_left (by omega)]
    · have : (ls ++ ls2).getD j [] = ls.getD j [] := by rw [List.getD_eq_getElem?_getD, List.getD_eq_getElem?_getD, List.getElem?_append_left (by omega)]
      rw [this]
      exact ob_keep q4 hku
  · obtain ⟨A1, n1, c1, q1, q2, q3, q4, q5⟩ := d3 (j - n) (by omega)
    refine ⟨A1, n1, c1, ?_, q2, q3, ?_, q5⟩
    · rw [← q1, List.getD_eq_getElem?_getD, List.getD_eq_getElem?_getD, List.getElem?_append_right (by omega), hvl]
    · have : (ls ++ ls2).getD j [] = ls2.getD (j - n) [] := by rw [List.getD_eq_getElem?_getD, List.getD_eq_getElem?_getD, List.getElem?_append_right (by omega), e1]
      rw [this]
      exact ob_keep q4 hku
/-- The append of bytes onto own bytes: the block is the same one, or a new one. -/
theorem run_app_at {w : World} {ty : TypeId} (base : Nat) (A : Option Addr) (n c : Nat) (l : List Int) (hown : w.ownsRow base 5 1 (.slice A n c) n (BV l))
    (B : Nat) (A2 : Option Addr) (m c2 : Nat) (l2 : List Int) (hb : Bytes w B A2 m l2) (hsz : n + m ≤ 140737488355328) (hbase : base ≤ w.heap.size) :
    ∃ A' c' w', (Builtin.append_ #[25, 25] ty #[.slice A n c, .slice A2 m c2]).run Try.prog w = .ok (.slice A' (n + m) c') w' ∧ w'.ownsRow base 5 1 (.slice A' (n + m) c') (n + m) (BV (l ++ l2)) ∧ w.grownBy w' (Value.ownBlock (.slice A n c)) ∧
      (Value.ownBlock (.slice A' (n + m) c') = Value.ownBlock (.slice A n c) ∨ Value.ownBlock (.slice A' (n + m) c') = some w.heap.size) ∧ Below base w w' ∧ n + m ≤ c' ∧ c' ≤ maxLen := by
  obtain ⟨i, hi, h1, h2, h3⟩ := info_parts info_u8
  have hr := bytes_row hb
  have hl : (BV l2).length = m * 1 := by simp [BV, hb.1]
  rcases A2 with _ | ad
  · have hm : m = 0 := by
      rcases Nat.eq_zero_or_pos m with h0 | h0
      · exact h0
      · obtain ⟨b, off, h, _⟩ := hb.2 h0
        cases h
    subst hm
    have hn : l2 = [] := List.eq_nil_of_length_eq_zero hb.1
    subst hn
    obtain ⟨A', c', e, h5, h6⟩ := own_form hown
    cases e
    exact ⟨A, c, w, run_append_nilc w base 25 ty 5 i 1 Try.underlying25 hi _ n _ hown c2, by simpa using hown, ⟨rfl, rfl, rfl, Nat.le_refl _, fun _ _ _ => rfl⟩, .inl rfl, Below.refl _ _, h5, h6⟩
  · have hcells : ∀ j u, (BV l2)[j]? = some u → w.cell? (ad.add j) = some u := by
      intro j u hu
      have hj : j < (BV l2).length := by
        rcases Nat.lt_or_ge j (BV l2).length with h | h
        · exact h
        · rw [List.getElem?_eq_none h] at hu; cases hu
      obtain ⟨b, off, he, _, hc⟩ := hr (by omega)
      injection he with he
      subst he
      have h2 := hc j (by omega)
      simp only [List.getD_eq_getElem?_getD, hu, Option.getD_some] at h2
      rw [add_mk, h2]
    obtain ⟨v', w', hrun, k2, k3, _, k4⟩ := Go.run_append_own_at (P := Try.prog) w base 25 ty 5 i (.int .u8 0) 1 1 Try.underlying25 hi h1 h2 h3 rfl (by decide) _ n (BV l) hown ad m c2 (BV l2) hl hcells (bv_one l2) (by unfold maxLen; omega) (by omega) hbase
    obtain ⟨A', c', rfl, k5, k6⟩ := own_form k2
    have hbv : BV l ++ BV l2 = BV (l ++ l2) := bv_append l l2
    rw [hbv] at k2
    exact ⟨A', c', w', hrun, k2, k3, k4, below_of_own hown k3 hbase, k5, k6⟩
theorem app_at {w : World} {ops : Array Oper} {rest : List Oper} {o : Oper} {a : Act} {Q : Exit → Act → World → Prop} (hgd : o.guard = none) (s x : Operand)
    (ho : o.op = .call { callee := .builtin .append, args := #[s, x], argTypes := #[25, 25] })
    (base : Nat) (A : Option Addr) (n c : Nat) (l : List Int) (hs : a.eval s = .slice A n c) (hown : w.ownsRow base 5 1 (.slice A n c) n (BV l))
    (B : Nat) (A2 : Option Addr) (m c2 : Nat) (l2 : List Int) (hx : a.eval x = .slice A2 m c2) (hb : Bytes w B A2 m l2) (hsz : n + m ≤ 140737488355328) (hbase : base ≤ w.heap.size)
    (h : ∀ A' c' w', w'.ownsRow base 5 1 (.slice A' (n + m) c') (n + m) (BV (l ++ l2)) → w.grownBy w' (Value.ownBlock (.slice A n c)) →
      (Value.ownBlock (.slice A' (n + m) c') = Value.ownBlock (.slice A n c) ∨ Value.ownBlock (.slice A' (n + m) c') = some w.heap.size) → Below base w w' → n + m ≤ c' → c' ≤ maxLen → wpList Try.prog ops Q rest (a.put o.dst (.slice A' (n + m) c')) w') :
    wpList Try.prog ops Q (o :: rest) a w := by
  obtain ⟨A', c', w', hrun, k1, k2, k3, k4, k5, k6⟩ := run_app_at (ty := o.type) base A n c l hown B A2 m c2 l2 hb hsz hbase
  refine wpList_plain hgd fun K hK => ?_
  unfold Oper.wp execOp
  simp only [ho, resolve, invoke, builtin, Sem.run_bind, Sem.run_pure, Result.andThen_ok, List.map_toArray, List.map_cons, List.map_nil, hs, hx, hrun]
  exact hK _ _ (h A' c' w' k1 k2 k3 k4 k5 k6)
theorem app_px {w : World} {ops : Array Oper} {rest : List Oper} {o : Oper} {a : Act} {Q : Exit → Act → World → Prop} (hgd : o.guard = none) (s x : Operand)
    (ho : o.op = .call { callee := .builtin .append, args := #[s, x], argTypes := #[22, 22] })
    (base : Nat) (g : Option Nat) (A : Option Addr) (n c : Nat) (ls : List (List Int)) (hs : a.eval s = .slice A n c) (hown : PX w base g A n c ls)
    (A2 : Option Addr) (m c2 : Nat) (ls2 : List (List Int)) (hx : a.eval x = .slice A2 m c2) (h2 : PX w base g A2 m c2 ls2) (hsz : n + m ≤ 1099511627776) (hbase : base ≤ w.heap.size)
    (h : ∀ A' c' w', PX w' base g A' (n + m) c' (ls ++ ls2) → Below base w w' → (∀ t, t ≠ 25 → KeepT w w' t) → n + m ≤ c' → c' ≤ maxLen → wpList Try.prog ops Q rest (a.put o.dst (.slice A' (n + m) c')) w') :
    wpList Try.prog ops Q (o :: rest) a w := by
  obtain ⟨A', c', w', hrun, k1, k2, k3, k4, k5⟩ := run_app_px (ty := o.type) base g A n c ls hown A2 m c2 ls2 h2 hsz hbase
  refine wpList_plain hgd fun K hK => ?_
  unfold Oper.wp execOp
  simp only [ho, resolve, invoke, builtin, Sem.run_bind, Sem.run_pure, Result.andThen_ok, List.map_toArray, List.map_cons, List.map_nil, hs, hx, hrun]
  exact hK _ _ (h A' c' w' k1 k2 k3 k4 k5)
theorem box_set {w : World} {g : Nat} {a b : Value} {t : TypeId} {m : Nat × Nat} (hg : w.heap[g]? = some (.cells #[a, b] t m)) (u v : Value) : ((w.setCell ⟨g, 0, none⟩ u).setCell ⟨g, 1, none⟩ v).heap[g]? = some (.cells #[u, v] t m) := by
  simp [World.setCell, Array.getElem?_modify, hg]
theorem box_cells {w : World} {g : Nat} {a b : Value} {t : TypeId} (hg : w.heap[g]? = some (.cells #[a, b] t (0, 0))) :
    w.cell? ⟨g, 0, none⟩ = some a ∧ w.cell? ⟨g, 1, none⟩ = some b ∧ w.frozen? ⟨g, 0, none⟩ = false ∧ w.frozen? ⟨g, 1, none⟩ = false := by
  refine ⟨?_, ?_, ?_, ?_⟩
  · rw [cell_of_row w g 0 _ t _ hg]; rfl
  · rw [cell_of_row w g 1 _ t _ hg]; rfl
  · simp [World.frozen?, hg]
  · simp [World.frozen?, hg]
end Go.Proofs.Ytmnkgmadogkjbaa.Mem
