/- A region that draws its order: what only reads may be taken first; what makes or writes memory then stands in one order. No condition. -/
import Derived.Test.YtfckciblnojniaaDoorKit
import Derived.StillTail
import Derived.StillTailTactics
namespace Go.Proofs.YtfckciblnojniaaDoor.Mix
open Go.ChangeShapes Go.WideShapes Go.ChangeAt Go.RowKit Go.Proofs.YtfckciblnojniaaDoor.Kit
set_option linter.unusedVariables false
section
variable {P : Program} {ops : Array Oper} {md : Region.Mode} {C : World → Prop}
def upon0 (w : World) (v : Value) : Result Next → Prop
  | .ok (.value u) w' => w' = w ∧ u = v
  | .ok .skip w' => w' = w ∧ v = undef
  | _ => False
/-- What becomes of an operation that makes or writes memory, or calls: it does not panic. -/
def uponE (P : Program) (o : Oper) (a : Act) (next : Act → World → Prop) : Result Next → Prop
  | .ok (.value v) w' => next (a.put o.dst v) w'
  | .ok .skip w' => next (a.put o.dst undef) w'
  | .ok (.enter f args) w' => Calls P f args w' fun e w'' => ∃ v, e = .returned v ∧ next (a.put o.dst v) w''
  | _ => False
def wpE (P : Program) (o : Oper) (a : Act) (w : World) (next : Act → World → Prop) : Prop := uponE P o a next ((execOp a.eval o).run P w)
theorem wpE_mono {P : Program} {o : Oper} {a : Act} {w : World} {K K' : Act → World → Prop} (h : ∀ a w, K a w → K' a w) (hh : wpE P o a w K) : wpE P o a w K' := by
  unfold wpE at *
  generalize (execOp a.eval o).run P w = r at *
  cases r with
  | ok n w' =>
    cases n <;> simp only [uponE] at hh ⊢
    case value => exact h _ _ hh
    case skip => exact h _ _ hh
    case enter => exact hh.mono fun e w'' ⟨v, e1, e2⟩ => ⟨v, e1, h _ _ e2⟩
  | halt x w' => simp only [uponE] at hh
theorem wp_of_wpE {P : Program} {o : Oper} {a : Act} {w : World} {K : Act → World → Prop} {Q : Exit → Act → World → Prop} (hh : wpE P o a w K) : o.wp P a w K Q := by
  unfold wpE at hh
  unfold Oper.wp
  generalize (execOp a.eval o).run P w = r at *
  cases r with
  | ok n w' =>
    cases n <;> simp only [uponE] at hh <;> simp only [Oper.upon]
    case value => exact hh
    case skip => exact hh
    case enter => exact hh.mono fun e w'' ⟨v, e1, e2⟩ => by subst e1; exact e2
  | halt x w' => simp only [uponE] at hh
/-- In every world of the class it yields v, and leaves the world alone. -/
def pure1 (P : Program) (o : Oper) (a : Act) (C : World → Prop) (v : Value) : Prop := ∀ w, C w → upon0 w v ((execOp a.eval o).run P w)
def wpPure (P : Program) (ops : Array Oper) (C : World → Prop) (Q : Act → Prop) : List Oper → Act → Prop
  | [], a => Q a
  | o :: rest, a => if Region.wanted o (yielded ops a.tmps) then ∃ v, pure1 P o a C v ∧ wpPure P ops C Q rest (a.put o.dst v) else wpPure P ops C Q rest (a.put o.dst undef)
def wpMid (P : Program) (ops : Array Oper) (C : World → Prop) (K : Act → World → Prop) : List Oper → Act → World → Prop
  | [], a, w => K a w
  | o :: rest, a, w => if Region.wanted o (yielded ops a.tmps) then wpE P o a w (fun a' w' => C w' ∧ wpMid P ops C K rest a' w') else wpMid P ops C K rest (a.put o.dst undef) w
theorem wpPure_nil {Q : Act → Prop} {a : Act} (h : Q a) : wpPure P ops C Q [] a := h
theorem wpPure_step {Q : Act → Prop} {a : Act} {o : Oper} {rest : List Oper}
    (h : ∀ K : Act → Prop, (∀ a, wpPure P ops C Q rest a → K a) → if Region.wanted o (yielded ops a.tmps) then ∃ v, pure1 P o a C v ∧ K (a.put o.dst v) else K (a.put o.dst undef)) : wpPure P ops C Q (o :: rest) a :=
  h _ (fun _ h => h)
theorem wpMid_nil {K : Act → World → Prop} {a : Act} {w : World} (h : K a w) : wpMid P ops C K [] a w := h
theorem wpMid_step {K : Act → World → Prop} {a : Act} {w : World} {o : Oper} {rest : List Oper}
    (h : ∀ K2 : Act → World → Prop, (∀ a w, C w → wpMid P ops C K rest a w → K2 a w) → (∀ a, wpMid P ops C K rest a w → K2 a w) → if Region.wanted o (yielded ops a.tmps) then wpE P o a w K2 else K2 (a.put o.dst undef) w) (hC : C w) : wpMid P ops C K (o :: rest) a w := by
  have := h (fun a' w' => C w' ∧ wpMid P ops C K rest a' w') (fun _ _ h1 h2 => ⟨h1, h2⟩) (fun _ h2 => ⟨hC, h2⟩)
  unfold wpMid
  split
  · rename_i hw; rw [if_pos hw] at this; exact this
  · rename_i hw; rw [if_neg hw] at this; exact this.2

def Yields (P : Program) (ops : Array Oper) (C : World → Prop) (o : Oper) (v : Value) (a : Act) : Prop :=
  (Region.wanted o (yielded ops a.tmps) = true ∧ pure1 P o a C v) ∨ (Region.wanted o (yielded ops a.tmps) = false ∧ v = undef)
theorem Yields.of_same {o : Oper} {v : Value} {a a' : Act} (hy : Yields P ops C o v a) (he : execOp a'.eval o = execOp a.eval o)
    (hw : Region.wanted o (yielded ops a'.tmps) = Region.wanted o (yielded ops a.tmps)) : Yields P ops C o v a' := by
  unfold Yields pure1 at *
  rw [he, hw]
  exact hy
/-- Operation number i comes up. -/
def mOp (P : Program) (ops : Array Oper) (C : World → Prop) (pr : Nat → Bool) (i : Nat) (K : Act → World → Prop) (a : Act) (w : World) : Prop :=
  match ops[i]? with
  | none => K a w
  | some o => if Region.wanted o (yielded ops a.tmps) then (if pr i = true then ∃ v, pure1 P o a C v ∧ K (a.put o.dst v) w else wpE P o a w (fun a' w' => C w' ∧ K a' w')) else K (a.put o.dst undef) w
variable {pr : Nat → Bool}
theorem mOp_mono {i : Nat} {a : Act} {w : World} {K K' : Act → World → Prop} (hC : C w) (h : ∀ a w, C w → K a w → K' a w) (hh : mOp P ops C pr i K a w) : mOp P ops C pr i K' a w := by
  unfold mOp at *
  split
  · rename_i ho; simp only [ho] at hh; exact h _ _ hC hh
  · rename_i o ho
    simp only [ho] at hh
    split
    · rename_i hw
      rw [if_pos hw] at hh
      split
      · rename_i hp
        rw [if_pos hp] at hh
        obtain ⟨v, h1, h2⟩ := hh
        exact ⟨v, h1, h _ _ hC h2⟩
      · rename_i hp
        rw [if_neg hp] at hh
        exact wpE_mono (fun a w ⟨h1, h2⟩ => ⟨h1, h _ _ h1 h2⟩) hh
    · rename_i hw
      rw [if_neg hw] at hh
      exact h _ _ hC hh
theorem wpOp_of_mOp {Q' : Exit → Act → World → Prop} {i : Nat} {a : Act} {K K' : Act → World → Prop} {w : World} (hC : C w) (h : ∀ a w', C w' → K a w' → K' a w') (hh : mOp P ops C pr i K a w) : wpOp P ops Q' i K' a w := by
  unfold mOp at hh
  unfold wpOp
  split
  · rename_i ho; simp only [ho] at hh; exact h _ _ hC hh
  · rename_i o ho
    simp only [ho] at hh
    split
    · rename_i hw
      rw [if_pos hw] at hh
      refine .inl ?_
      split at hh
      · obtain ⟨v, h1, h2⟩ := hh
        have h3 := h1 w hC
        unfold Oper.wp
        generalize (execOp a.eval o).run P w = r at *
        cases r with
        | ok n w' =>
          cases n <;> simp only [upon0] at h3 <;> simp only [Oper.upon]
          case value u =>
            obtain ⟨e1, e2⟩ := h3
            rw [e1, e2]
            exact h _ _ hC h2
          case skip =>
            obtain ⟨e1, e2⟩ := h3
            rw [e1, ← e2]
            exact h _ _ hC h2
        | halt x w' => simp only [upon0] at h3
      · exact Oper.wp_mono (fun a w ⟨h1, h2⟩ => h _ _ h1 h2) (wp_of_wpE hh)
    · rename_i hw
      rw [if_neg hw] at hh
      exact h _ _ hC hh
theorem Yields.mOp {i : Nat} {o : Oper} {v : Value} {a : Act} {w : World} (hi : ops[i]? = some o) (hp : pr i = true) (hy : Yields P ops C o v a) {K : Act → World → Prop} (h : K (a.put o.dst v) w) : mOp P ops C pr i K a w := by
  unfold Mix.mOp
  simp only [hi]
  rcases hy with ⟨hw, hv⟩ | ⟨hw, rfl⟩
  · rw [if_pos hw, if_pos hp]; exact ⟨v, hv, h⟩
  · rw [if_neg (by simp [hw])]; exact h
theorem mOp_put {j : Nat} {oi oj : Oper} {v : Value} (hj : ops[j]? = some oj) (hap : oi.apart ops oj = true)
    (hsi : ∀ cs b, oi.op ≠ .select cs b) (hsj : ∀ cs b, oj.op ≠ .select cs b) {K : Act → World → Prop} {a : Act} {w : World}
    (hy : Yields P ops C oi v a) (h : mOp P ops C pr j K (a.put oi.dst v) w) :
    mOp P ops C pr j (fun a' w' => Yields P ops C oi v a' ∧ K (a'.put oi.dst v) w') a w := by
  obtain ⟨h1, h2, h3⟩ := Oper.apart_spec hap
  have keep : ∀ (a : Act), Yields P ops C oi v a → ∀ u, Yields P ops C oi v (a.put oj.dst u) := fun a hy u =>
    hy.of_same (execOp_put oi hsi a oj.dst u h3) (wanted_put oi a oj.dst u h3)
  unfold mOp at *
  simp only [hj] at *
  rw [wanted_put oj a oi.dst v h1] at h
  split
  · rename_i hw
    rw [if_pos hw] at h
    split
    · rename_i hp
      rw [if_pos hp] at h
      obtain ⟨u, hu, hn⟩ := h
      refine ⟨u, fun w hw' => ?_, keep a hy u, by rw [← Act.put_comm a v u h2]; exact hn⟩
      have := hu w hw'
      rwa [execOp_put oj hsj a oi.dst v h1] at this
    · rename_i hp
      rw [if_neg hp] at h
      unfold wpE at *
      rw [execOp_put oj hsj a oi.dst v h1] at h
      generalize (execOp a.eval oj).run P w = r at *
      cases r with
      | ok n w' =>
        cases n <;> simp only [uponE] at h ⊢
        case value u =>
          exact ⟨h.1, keep a hy u, by rw [← Act.put_comm a v u h2]; exact h.2⟩
        case skip =>
          exact ⟨h.1, keep a hy _, by rw [← Act.put_comm a v undef h2]; exact h.2⟩
        case enter f args =>
          exact h.mono fun e w'' ⟨u, e1, e2, e3⟩ => ⟨u, e1, e2, keep a hy u, by rw [← Act.put_comm a v u h2]; exact e3⟩
      | halt x w' => simp only [uponE] at h
  · rename_i hw
    rw [if_neg hw] at h
    exact ⟨keep a hy _, by rw [← Act.put_comm a v undef h2]; exact h⟩

def wpAnyM (P : Program) (md : Region.Mode) (ops : Array Oper) (C : World → Prop) (pr : Nat → Bool) (n : Nat) (L : Array Bool → Act → World → Prop) : Nat → Array Bool → Act → World → Prop
  | 0, listed, a, w => L listed a w
  | f + 1, listed, a, w =>
    Region.ready md ops listed ≠ [] ∧ ∀ i ∈ Region.ready md ops listed, i < n ∧ mOp P ops C pr i (wpAnyM P md ops C pr n L f (listed.setIfInBounds i true)) a w
theorem wpAny_of_M {n g : Nat} {L : Array Bool → Act → World → Prop} {Q' : Exit → Act → World → Prop} (hL : ∀ listed a w, L listed a w → wpAny P md ops Q' g listed a w) :
    ∀ (f : Nat) (listed : Array Bool) (a : Act) (w : World), C w → wpAnyM P md ops C pr n L f listed a w → wpAny P md ops Q' (f + g) listed a w
  | 0, listed, a, w, _, h => by rw [Nat.zero_add]; exact hL _ _ _ h
  | f + 1, listed, a, w, hC, h => by
    rw [show f + 1 + g = (f + g) + 1 by omega]
    exact ⟨fun h0 => absurd h0 h.1, fun i hi => wpOp_of_mOp hC (fun a' w' hC' h' => wpAny_of_M hL f _ a' w' hC' h') (h.2 i hi).2⟩
theorem wpAnyM_first {n i : Nat} {oi : Oper} {v : Value} {L : Array Bool → Act → World → Prop} (hi : ops[i]? = some oi) (hpi : pr i = true) (hsel : ∀ (j : Nat) (o : Oper) cs b, ops[j]? = some o → o.op ≠ .select cs b)
    (hs : Region.sinkB md ops n = true) (hc : Region.chainB md ops n = true) (hn : n < ops.size) (hin : i < n)
    (hdone : ∀ listed a w, L listed a w → ∀ j ∈ Region.ready md ops listed, n ≤ j) :
    ∀ (f : Nat) (listed : Array Bool) (a : Act) (w : World), C w → HeadInv md ops n listed →
      (∀ j oj, ops[j]? = some oj → j ≠ i → listed.getD j true = false → (∀ e ∈ oj.after, Region.binds md e = true → e.on ≠ i) → oi.apart ops oj = true) →
      i ∈ Region.ready md ops listed → Yields P ops C oi v a →
      wpAnyM P md ops C pr n L f (listed.setIfInBounds i true) (a.put oi.dst v) w → wpAnyM P md ops C pr n L (f + 1) listed a w := by
  intro f
  induction f with
  | zero =>
    intro listed a w hC inv _ hr hy H
    have hun := (mem_ready.1 hr).1
    refine ⟨fun h => (by rw [h] at hr; cases hr), fun j hj => ?_⟩
    have hjn : j < n := by
      rcases Nat.lt_or_ge j n with h | h
      · exact h
      · exact absurd hj (tail_waits hs hc hn inv _ i rfl hin hun j h)
    refine ⟨hjn, ?_⟩
    by_cases hji : j = i
    · subst hji; exact hy.mOp hi hpi H
    · have := hdone _ _ _ H j (ready_mono hj hji)
      omega
  | succ f ih =>
    intro listed a w hC inv hfree hr hy H
    have hun := (mem_ready.1 hr).1
    refine ⟨fun h => (by rw [h] at hr; cases hr), fun j hj => ?_⟩
    have hjn : j < n := by
      rcases Nat.lt_or_ge j n with h | h
      · exact h
      · exact absurd hj (tail_waits hs hc hn inv _ i rfl hin hun j h)
    refine ⟨hjn, ?_⟩
    by_cases hji : j = i
    · subst hji; exact hy.mOp hi hpi H
    · have h1 := (H.2 j (ready_mono hj hji)).2
      obtain ⟨hjun, oj, hoj, hall⟩ := mem_ready.1 hj
      have hnot : ∀ e ∈ oj.after, Region.binds md e = true → e.on ≠ i := fun e he hb heq => by
        have h1 := hall e he hb
        rw [heq, getD_both hun] at h1
        cases h1
      have h2 := mOp_put hoj (hfree j oj hoj hji hjun hnot) (fun cs b => hsel i oi cs b hi) (fun cs b => hsel j oj cs b hoj) hy h1
      have hfree' : ∀ k ok, ops[k]? = some ok → k ≠ i → (listed.setIfInBounds j true).getD k true = false →
          (∀ e ∈ ok.after, Region.binds md e = true → e.on ≠ i) → oi.apart ops ok = true := fun k ok hk hki hun hno => by
        refine hfree k ok hk hki ?_ hno
        by_cases hjk : j = k
        · subst hjk; exact hjun
        · rw [getD_set_ne true hjk] at hun; exact hun
      refine mOp_mono hC (fun a' w' hC' h3 => ih (listed.setIfInBounds j true) a' w' hC' (inv.set hj hjn) hfree' (ready_mono hr (Ne.symm hji)) h3.1 ?_) h2
      rw [Array.setIfInBounds_comm _ _ hji]
      exact h3.2
/-- First the pure ones, in this order; then the others, of which each is alone; then the tail. -/
def phM (md : Region.Mode) (ops : Array Oper) (pr : Nat → Bool) (g n : Nat) : List Nat → Array Bool → Bool
  | k :: ml, listed => decide (Region.ready md ops listed = [k]) && decide (k < n) && !pr k && phM md ops pr g n ml (listed.setIfInBounds k true)
  | [], listed => Region.seqB md ops g n listed
def phB (md : Region.Mode) (ops : Array Oper) (pr : Nat → Bool) (g n : Nat) (ml : List Nat) : List Nat → Array Bool → Bool
  | k :: pl, listed => (Region.ready md ops listed).contains k && Region.free md ops listed k && decide (k < n) && pr k && phB md ops pr g n ml pl (listed.setIfInBounds k true)
  | [], listed => phM md ops pr g n ml listed
def opsOf (ops : Array Oper) (l : List Nat) : List Oper := l.filterMap (ops[·]?)
theorem wpAnyM_mid {n g : Nat} {K : Act → World → Prop} : ∀ (ml : List Nat) (listed : Array Bool) (a : Act) (w : World), HeadInv md ops n listed → phM md ops pr g n ml listed = true → wpMid P ops C K (opsOf ops ml) a w →
    wpAnyM P md ops C pr n (fun listed' a' w' => Region.seqB md ops g n listed' = true ∧ K a' w') ml.length listed a w
  | [], listed, a, w, _, hB, h => ⟨by unfold phM at hB; exact hB, h⟩
  | k :: ml, listed, a, w, inv, hB, h => by
    unfold phM at hB
    simp only [Bool.and_eq_true, decide_eq_true_eq, Bool.not_eq_true'] at hB
    obtain ⟨⟨⟨hr, hkn⟩, hpk⟩, hB'⟩ := hB
    refine ⟨fun h0 => (by rw [hr] at h0; cases h0), fun i hi => ?_⟩
    have hmem := hi
    rw [hr] at hi
    have hik : i = k := by simpa using hi
    subst hik
    refine ⟨hkn, ?_⟩
    obtain ⟨_, oi, hoi, _⟩ := mem_ready.1 hmem
    have e : opsOf ops (i :: ml) = oi :: opsOf ops ml := by unfold opsOf; rw [List.filterMap_cons, hoi]
    rw [e] at h
    unfold wpMid at h
    unfold mOp
    simp only [hoi]
    split
    · rename_i hw
      rw [if_pos hw] at h
      rw [if_neg (by simp [hpk])]
      exact wpE_mono (fun a' w' ⟨h1, h2⟩ => ⟨h1, wpAnyM_mid ml _ a' w' (inv.set hmem hkn) hB' h2⟩) h
    · rename_i hw
      rw [if_neg hw] at h
      exact wpAnyM_mid ml _ _ w (inv.set hmem hkn) hB' h
theorem wpAnyM_pure {n g : Nat} {K : Act → World → Prop} {ml : List Nat} (hsel : Region.noSelect ops = true) (hs : Region.sinkB md ops n = true) (hc : Region.chainB md ops n = true) (hn : n < ops.size) :
    ∀ (pl : List Nat) (listed : Array Bool) (a : Act) (w : World), C w → HeadInv md ops n listed → phB md ops pr g n ml pl listed = true → wpPure P ops C (fun a' => wpMid P ops C K (opsOf ops ml) a' w) (opsOf ops pl) a →
    wpAnyM P md ops C pr n (fun listed' a' w' => Region.seqB md ops g n listed' = true ∧ K a' w') (pl.length + ml.length) listed a w
  | [], listed, a, w, _, inv, hB, h => by
    unfold phB at hB
    rw [List.length_nil, Nat.zero_add]
    exact wpAnyM_mid ml listed a w inv hB h
  | k :: pl, listed, a, w, hC, inv, hB, h => by
    unfold phB at hB
    simp only [Bool.and_eq_true, decide_eq_true_eq] at hB
    obtain ⟨⟨⟨⟨hr, hf⟩, hkn⟩, hpk⟩, hB'⟩ := hB
    have hr' : k ∈ Region.ready md ops listed := by simpa using hr
    obtain ⟨_, ok, hok, _⟩ := mem_ready.1 hr'
    have e : opsOf ops (k :: pl) = ok :: opsOf ops pl := by unfold opsOf; rw [List.filterMap_cons, hok]
    rw [e] at h
    unfold wpPure at h
    have hex : ∃ v, Yields P ops C ok v a ∧ wpPure P ops C (fun a' => wpMid P ops C K (opsOf ops ml) a' w) (opsOf ops pl) (a.put ok.dst v) := by
      split at h
      · rename_i hw
        obtain ⟨v, h1, h2⟩ := h
        exact ⟨v, .inl ⟨hw, h1⟩, h2⟩
      · rename_i hw
        exact ⟨undef, .inr ⟨by simpa using hw, rfl⟩, h⟩
    obtain ⟨v, hy, hK⟩ := hex
    rw [show (k :: pl).length + ml.length = (pl.length + ml.length) + 1 by simp; omega]
    exact wpAnyM_first hok hpk (Region.noSelect_spec hsel) hs hc hn hkn (fun listed' a' w' hL => seqB_ready hL.1) (pl.length + ml.length) listed a w hC inv (Region.free_spec hok hf) hr' hy
      (wpAnyM_pure hsel hs hc hn pl _ _ w hC (inv.set hr' hkn) hB' hK)
def mixB (md : Region.Mode) (ops : Array Oper) (n : Nat) (pl ml : List Nat) : Bool :=
  Region.noSelect ops && decide (n < ops.size) && Region.sinkB md ops n && Region.chainB md ops n && decide (pl.length + ml.length = n) && phB md ops (fun i => pl.contains i) (ops.size - n) n ml pl (Array.replicate ops.size false)
/-- The region's law: 'pl' are the operations that only read, in an order that their edges allow; 'ml' the others, which their edges put in one order; from 'n' on the tail. -/
theorem wp_region_mix {id : Nat} {Q : Exit → Act → World → Prop} {a : Act} {w : World} {l : List Oper} (n : Nat) (pl ml : List Nat) (C : World → Prop) (hm : P.follows .mixedOrders = true) (hB : mixB .any l.toArray n pl ml = true) (hC : C w.drew)
    (h : wpPure P l.toArray C (fun a' => wpMid P l.toArray C (fun a'' w'' => wpList P l.toArray Q (l.drop n) a'' w'') (opsOf l.toArray ml) a' w.drew) (opsOf l.toArray pl) a) : (Code.region id l.toArray true).wp P Q a w := by
  simp only [mixB, Bool.and_eq_true, decide_eq_true_eq] at hB
  obtain ⟨⟨⟨⟨⟨hsel, hn⟩, hs⟩, hc⟩, hlen⟩, hph⟩ := hB
  have hdl : (l.drop n).length = l.toArray.size - n := by simp
  have inv0 : HeadInv .any l.toArray n (Array.replicate l.toArray.size false) :=
    ⟨by simp, fun j oj _ hl => (by rw [getD_replicate_false] at hl; cases hl), fun t _ ht => getD_in (by simpa using ht) (getD_replicate_false _ _)⟩
  have H := wpAnyM_pure (md := .any) (g := l.toArray.size - n) hsel hs hc hn pl _ a _ hC inv0 hph h
  refine wp_region_any hm ?_
  have := wpAny_of_M (Q' := Q) (g := l.toArray.size - n) (fun listed a' w' hL => by
    have := wpAny_of_seq (md := .any) (Q' := Q) (l.drop n) n listed a' w' (fun j => by simp [List.getElem?_drop]) (by rw [hdl]; exact hL.1) hL.2
    rwa [hdl] at this) _ _ _ _ hC H
  have hn' : n < l.length := by simpa using hn
  have hsz : l.toArray.size = l.length := by simp
  rw [hlen, show n + (l.toArray.size - n) = l.toArray.size by omega] at this
  exact this
theorem wpPure_any {Q : Act → Prop} {a : Act} {o : Oper} {rest : List Oper}
    (h : ∀ K : Act → Prop, (∀ a, wpPure P ops C Q rest a → K a) → if Region.wanted o (yielded ops a.tmps) then ∃ v, (∀ w, upon0 w v ((execOp a.eval o).run P w)) ∧ K (a.put o.dst v) else K (a.put o.dst undef)) : wpPure P ops C Q (o :: rest) a := by
  have := h _ (fun _ h => h)
  unfold wpPure
  split
  · rename_i hw
    rw [if_pos hw] at this
    obtain ⟨v, h1, h2⟩ := this
    exact ⟨v, fun w _ => h1 w, h2⟩
  · rename_i hw
    rw [if_neg hw] at this
    exact this
theorem wpPure_val {Q : Act → Prop} {a : Act} {o : Oper} {rest : List Oper} (v : Value) (hg : o.guard = none) (h1 : ∀ w, C w → (execOp a.eval o).run P w = .ok (.value v) w) (h2 : wpPure P ops C Q rest (a.put o.dst v)) : wpPure P ops C Q (o :: rest) a := by
  unfold wpPure
  rw [if_pos (by simp [Region.wanted, hg])]
  exact ⟨v, fun w hw => by rw [h1 w hw]; exact ⟨rfl, rfl⟩, h2⟩
theorem wpMid_val {K : Act → World → Prop} {a : Act} {w w' : World} {o : Oper} {rest : List Oper} (v : Value) (hg : o.guard = none) (h1 : (execOp a.eval o).run P w = .ok (.value v) w') (hC : C w') (h2 : wpMid P ops C K rest (a.put o.dst v) w') : wpMid P ops C K (o :: rest) a w := by
  unfold wpMid
  rw [if_pos (by simp [Region.wanted, hg])]
  unfold wpE
  rw [h1]
  exact ⟨hC, h2⟩
theorem wpMid_append {K : Act → World → Prop} {a : Act} {w w' : World} {o : Oper} {rest : List Oper} (hg : o.guard = none) (s x : Operand) (t : TypeId) (ho : o.op = .call { callee := .builtin .append, args := #[s, x], argTypes := #[t, t] })
    (v1 v2 v : Value) (hs : a.eval s = v1) (hx : a.eval x = v2) (hrun : (Builtin.append_ #[t, t] o.type #[v1, v2]).run P w = .ok v w') (hC : C w') (h2 : wpMid P ops C K rest (a.put o.dst v) w') : wpMid P ops C K (o :: rest) a w := by
  refine wpMid_val v hg ?_ hC h2
  unfold execOp
  simp only [ho, resolve, invoke, builtin, Sem.run_bind, Sem.run_pure, Result.andThen_ok, List.map_toArray, List.map_cons, List.map_nil, hs, hx, hrun]
theorem wpMid_call {K : Act → World → Prop} {a : Act} {w : World} {o : Oper} {rest : List Oper} (hg : o.guard = none) {f : FuncId} {args : Array Value} (h1 : (execOp a.eval o).run P w = .ok (.enter f args) w) (h2 : Calls P f args w fun e w' => ∃ v, e = .returned v ∧ C w' ∧ wpMid P ops C K rest (a.put o.dst v) w') : wpMid P ops C K (o :: rest) a w := by
  unfold wpMid
  rw [if_pos (by simp [Region.wanted, hg])]
  unfold wpE
  rw [h1]
  exact h2
end
attribute [go_sem] pure1 upon0 wpE uponE
end Go.Proofs.YtfckciblnojniaaDoor.Mix
