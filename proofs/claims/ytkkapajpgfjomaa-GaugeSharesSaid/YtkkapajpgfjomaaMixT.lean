/- A region that draws its order: what only reads may be taken first; of what makes or writes memory each order is shown. No condition. -/
import Derived.Test.YtkkapajpgfjomaaMix
namespace Go.Proofs.Ytkkapajpgfjomaa.Mix
open Go.ChangeShapes Go.WideShapes Go.ChangeAt Go.RowKit Go.Proofs.Ytkkapajpgfjomaa.Kit
set_option linter.unusedVariables false
section
variable {P : Program} {ops : Array Oper} {md : Region.Mode} {C : World → Prop} {pr : Nat → Bool}
def setAll (pl : List Nat) (listed : Array Bool) : Array Bool := pl.foldl (fun l k => l.setIfInBounds k true) listed
def phT (md : Region.Mode) (ops : Array Oper) (pr : Nat → Bool) (n : Nat) : List Nat → Array Bool → Bool
  | k :: pl, listed => (Region.ready md ops listed).contains k && Region.free md ops listed k && decide (k < n) && pr k && phT md ops pr n pl (listed.setIfInBounds k true)
  | [], _ => true
theorem wpAnyM_pureT {n g f : Nat} {K : Act → World → Prop} (hsel : Region.noSelect ops = true) (hs : Region.sinkB md ops n = true) (hc : Region.chainB md ops n = true) (hn : n < ops.size) : ∀ (pl : List Nat) (listed : Array Bool) (a : Act) (w : World), C w → HeadInv md ops n listed → phT md ops pr n pl listed = true →
    wpPure P ops C (fun a' => wpAnyM P md ops C pr n (fun listed' a' w' => Region.seqB md ops g n listed' = true ∧ K a' w') f (setAll pl listed) a' w) (opsOf ops pl) a →
    wpAnyM P md ops C pr n (fun listed' a' w' => Region.seqB md ops g n listed' = true ∧ K a' w') (pl.length + f) listed a w
  | [], listed, a, w, _, inv, hB, h => by
    rw [List.length_nil, Nat.zero_add]
    exact h
  | k :: pl, listed, a, w, hC, inv, hB, h => by
    unfold phT at hB
    simp only [Bool.and_eq_true, decide_eq_true_eq] at hB
    obtain ⟨⟨⟨⟨hr, hf⟩, hkn⟩, hpk⟩, hB'⟩ := hB
    have hr' : k ∈ Region.ready md ops listed := by simpa using hr
    obtain ⟨_, ok, hok, _⟩ := mem_ready.1 hr'
    have e : opsOf ops (k :: pl) = ok :: opsOf ops pl := by unfold opsOf; rw [List.filterMap_cons, hok]
    rw [e] at h
    unfold wpPure at h
    have hex : ∃ v, Yields P ops C ok v a ∧ wpPure P ops C (fun a' => wpAnyM P md ops C pr n (fun listed' a' w' => Region.seqB md ops g n listed' = true ∧ K a' w') f (setAll pl (listed.setIfInBounds k true)) a' w) (opsOf ops pl) (a.put ok.dst v) := by
      split at h
      · rename_i hw
        obtain ⟨v, h1, h2⟩ := h
        exact ⟨v, .inl ⟨hw, h1⟩, h2⟩
      · rename_i hw
        exact ⟨undef, .inr ⟨by simpa using hw, rfl⟩, h⟩
    obtain ⟨v, hy, hK⟩ := hex
    rw [show (k :: pl).length + f = (pl.length + f) + 1 by simp; omega]
    exact wpAnyM_first hok hpk (Region.noSelect_spec hsel) hs hc hn hkn (fun listed' a' w' hL => seqB_ready hL.1) (pl.length + f) listed a w hC inv (Region.free_spec hok hf) hr' hy
      (wpAnyM_pureT hsel hs hc hn pl _ _ w hC (inv.set hr' hkn) hB' hK)
def treeB (md : Region.Mode) (ops : Array Oper) (n f : Nat) (pl : List Nat) : Bool :=
  Region.noSelect ops && decide (n < ops.size) && Region.sinkB md ops n && Region.chainB md ops n && decide (pl.length + f = n) && phT md ops (fun i => pl.contains i) n pl (Array.replicate ops.size false)
/-- The region's law: 'pl' are the operations that only read, in an order that their edges allow; then f others in each order that their edges allow; from 'n' on the tail. -/
theorem wp_region_tree {id : Nat} {Q : Exit → Act → World → Prop} {a : Act} {w : World} {l : List Oper} (n f : Nat) (pl : List Nat) (C : World → Prop) (hm : P.follows .mixedOrders = true) (hB : treeB .any l.toArray n f pl = true) (hC : C w.drew)
    (h : wpPure P l.toArray C (fun a' => wpAnyM P .any l.toArray C (fun i => pl.contains i) n (fun listed' a'' w'' => Region.seqB .any l.toArray (l.toArray.size - n) n listed' = true ∧ wpList P l.toArray Q (l.drop n) a'' w'') f (setAll pl (Array.replicate l.toArray.size false)) a' w.drew) (opsOf l.toArray pl) a) : (Code.region id l.toArray true).wp P Q a w := by
  simp only [treeB, Bool.and_eq_true, decide_eq_true_eq] at hB
  obtain ⟨⟨⟨⟨⟨hsel, hn⟩, hs⟩, hc⟩, hlen⟩, hph⟩ := hB
  have hdl : (l.drop n).length = l.toArray.size - n := by simp
  have inv0 : HeadInv .any l.toArray n (Array.replicate l.toArray.size false) :=
    ⟨by simp, fun j oj _ hl => (by rw [getD_replicate_false] at hl; cases hl), fun t _ ht => getD_in (by simpa using ht) (getD_replicate_false _ _)⟩
  have H := wpAnyM_pureT (md := .any) (g := l.toArray.size - n) hsel hs hc hn pl _ a _ hC inv0 hph h
  refine wp_region_any hm ?_
  have := wpAny_of_M (Q' := Q) (g := l.toArray.size - n) (fun listed a' w' hL => by
    have := wpAny_of_seq (md := .any) (Q' := Q) (l.drop n) n listed a' w' (fun j => by simp [List.getElem?_drop]) (by rw [hdl]; exact hL.1) hL.2
    rwa [hdl] at this) _ _ _ _ hC H
  have hn' : n < l.length := by simpa using hn
  have hsz : l.toArray.size = l.length := by simp
  rw [hlen, show n + (l.toArray.size - n) = l.toArray.size by omega] at this
  exact this
theorem wpAnyM_end {n : Nat} {L : Array Bool → Act → World → Prop} {listed : Array Bool} {a : Act} {w : World} (h : L listed a w) : wpAnyM P md ops C pr n L 0 listed a w := h
theorem wpAnyM_one {n f k : Nat} {L : Array Bool → Act → World → Prop} {listed : Array Bool} {a : Act} {w : World} (hr : Region.ready md ops listed = [k]) (hk : k < n)
    (h : mOp P ops C pr k (wpAnyM P md ops C pr n L f (listed.setIfInBounds k true)) a w) : wpAnyM P md ops C pr n L (f + 1) listed a w := by
  refine ⟨by rw [hr]; simp, fun i hi => ?_⟩
  rw [hr] at hi
  obtain rfl : i = k := by simpa using hi
  exact ⟨hk, h⟩
theorem wpAnyM_two {n f j k : Nat} {L : Array Bool → Act → World → Prop} {listed : Array Bool} {a : Act} {w : World} (hr : Region.ready md ops listed = [j, k]) (hj : j < n) (hk : k < n)
    (h1 : mOp P ops C pr j (wpAnyM P md ops C pr n L f (listed.setIfInBounds j true)) a w) (h2 : mOp P ops C pr k (wpAnyM P md ops C pr n L f (listed.setIfInBounds k true)) a w) : wpAnyM P md ops C pr n L (f + 1) listed a w := by
  refine ⟨by rw [hr]; simp, fun i hi => ?_⟩
  rw [hr] at hi
  have hi2 : i = j ∨ i = k := by simpa using hi
  rcases hi2 with rfl | rfl
  · exact ⟨hj, h1⟩
  · exact ⟨hk, h2⟩
theorem mOp_val {i : Nat} {o : Oper} {a : Act} {w w' : World} {K : Act → World → Prop} (ho : ops[i]? = some o) (hg : o.guard = none) (hp : pr i = false) (v : Value) (h1 : (execOp a.eval o).run P w = .ok (.value v) w') (hC : C w') (h2 : K (a.put o.dst v) w') : mOp P ops C pr i K a w := by
  unfold mOp
  simp only [ho]
  rw [if_pos (by simp [Region.wanted, hg]), if_neg (by simp [hp])]
  unfold wpE
  rw [h1]
  exact ⟨hC, h2⟩
theorem mOp_append {i : Nat} {o : Oper} {a : Act} {w w' : World} {K : Act → World → Prop} (ho : ops[i]? = some o) (hg : o.guard = none) (hp : pr i = false) (s x : Operand) (t : TypeId) (hop : o.op = .call { callee := .builtin .append, args := #[s, x], argTypes := #[t, t] })
    (v1 v2 v : Value) (hs : a.eval s = v1) (hx : a.eval x = v2) (hrun : (Builtin.append_ #[t, t] o.type #[v1, v2]).run P w = .ok v w') (hC : C w') (h2 : K (a.put o.dst v) w') : mOp P ops C pr i K a w := by
  refine mOp_val ho hg hp v ?_ hC h2
  unfold execOp
  simp only [hop, resolve, invoke, builtin, Sem.run_bind, Sem.run_pure, Result.andThen_ok, List.map_toArray, List.map_cons, List.map_nil, hs, hx, hrun]
end
end Go.Proofs.Ytkkapajpgfjomaa.Mix
