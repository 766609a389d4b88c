/- A region that draws its order, whose effects (all of them only make memory) are not ordered among themselves: each is shown once, by what it leaves true. No condition. -/
import Derived.Test.YtngdlgmehefocaaMix
namespace Go.Proofs.Ytngdlgmehefocaa.Mix
open Go.ChangeShapes Go.WideShapes Go.ChangeAt Go.RowKit Go.Proofs.Ytngdlgmehefocaa.Kit
set_option linter.unusedVariables false
section
variable {P : Program} {ops : Array Oper} {md : Region.Mode} {C : World → Prop}
def uponV (P : Program) (N : Value → World → Prop) : Result Next → Prop
  | .ok (.value v) w' => N v w'
  | .ok .skip w' => N undef w'
  | .ok (.enter f args) w' => Calls P f args w' fun e w'' => ∃ v, e = .returned v ∧ N v w''
  | _ => False
def wpV (P : Program) (o : Oper) (a : Act) (w : World) (N : Value → World → Prop) : Prop := uponV P N ((execOp a.eval o).run P w)
theorem wpE_of_V {o : Oper} {a a' : Act} {w : World} {N : Value → World → Prop} {next : Act → World → Prop} (he : execOp a'.eval o = execOp a.eval o) (h : wpV P o a w N) (hn : ∀ v w', N v w' → next (a'.put o.dst v) w') : wpE P o a' w next := by
  unfold wpE
  unfold wpV at h
  rw [he]
  generalize (execOp a.eval o).run P w = r at *
  cases r with
  | ok n w' =>
    cases n <;> simp only [uponV] at h <;> simp only [uponE]
    case value => exact hn _ _ h
    case skip => exact hn _ _ h
    case enter => exact h.mono fun e w'' ⟨v, e1, e2⟩ => ⟨v, e1, hn _ _ e2⟩
  | halt x w' => simp only [uponV] at h
def dstOf (ops : Array Oper) (k : Nat) : Option Tmp := (ops[k]?).bind (·.dst)
def puts (ops : Array Oper) : List Nat → (Nat → Value) → Act → Act
  | [], _, a => a
  | k :: l, vs, a => puts ops l vs (a.put (dstOf ops k) (vs k))
def depB (md : Region.Mode) (ops : Array Oper) (k j : Nat) : Bool := ((ops[k]?).map fun o => o.after.any fun e => Region.binds md e && e.on == j).getD false
/-- The slots of j and k differ. -/
def sepB (ops : Array Oper) (j k : Nat) : Bool := match dstOf ops j with | none => true | some t => dstOf ops k != some t
/-- Operation k does not look at the slot of j. -/
def blindB (ops : Array Oper) (k j : Nat) : Bool := match dstOf ops j with | none => true | some t => ((ops[k]?).map fun o => !(o.looksAt ops).contains t).getD true
theorem puts_put {d : Option Tmp} {v : Value} {vs : Nat → Value} : ∀ (l : List Nat) (a : Act), (∀ j ∈ l, ∀ t, d = some t → dstOf ops j ≠ some t) → puts ops l vs (a.put d v) = (puts ops l vs a).put d v
  | [], a, _ => rfl
  | j :: l, a, h => by
    unfold puts
    rw [Act.put_comm a v (vs j) (fun t ht => h j (by simp) t ht)]
    exact puts_put l _ fun i hi => h i (by simp [hi])
theorem puts_fn {β : Type} (G : Act → β) (p : Nat → Bool) {vs : Nat → Value} : ∀ (l : List Nat) (a : Act), l.Pairwise (fun i j => ∀ t, dstOf ops i = some t → dstOf ops j ≠ some t) → (∀ j ∈ l, p j = false → ∀ a v, G (a.put (dstOf ops j) v) = G a) →
    G (puts ops l vs a) = G (puts ops (l.filter p) vs a)
  | [], a, _, _ => rfl
  | j :: l, a, hp, h => by
    rw [List.pairwise_cons] at hp
    cases hj : p j with
    | true =>
      rw [List.filter_cons_of_pos hj]
      unfold puts
      exact puts_fn G p l _ hp.2 fun i hi => h i (by simp [hi])
    | false =>
      rw [List.filter_cons_of_neg (by simp [hj])]
      conv => lhs; unfold puts
      rw [puts_put l a (fun i hi t ht => hp.1 i hi t ht), h j (by simp) hj]
      exact puts_fn G p l a hp.2 fun i hi => h i (by simp [hi])
theorem puts_more {k : Nat} {v : Value} {vs : Nat → Value} {L L' : Nat → Bool} (hk : L k = false) (hk' : L' k = true) (hL : ∀ j, j ≠ k → L' j = L j) : ∀ (l : List Nat) (a : Act), l.Pairwise (fun i j => ∀ t, dstOf ops i = some t → dstOf ops j ≠ some t) → (∀ i ∈ l, i ≠ k → ∀ t, dstOf ops k = some t → dstOf ops i ≠ some t) → l.Nodup → k ∈ l →
    (puts ops (l.filter L) vs a).put (dstOf ops k) v = puts ops (l.filter L') (fun j => if j = k then v else vs j) a
  | [], a, _, _, _, hm => by cases hm
  | j :: l, a, hp, hs, hn, hm => by
    rw [List.pairwise_cons] at hp
    rw [List.nodup_cons] at hn
    by_cases hjk : j = k
    · subst hjk
      rw [List.filter_cons_of_neg (by simp [hk]), List.filter_cons_of_pos hk']
      have e : l.filter L' = l.filter L := List.filter_congr fun i hi => hL i (by rintro rfl; exact hn.1 hi)
      rw [e]
      conv => rhs; unfold puts
      rw [show (fun i => if i = j then v else vs i) j = v from if_pos rfl]
      have e2 : ∀ (m : List Nat) (a : Act), (∀ i ∈ m, i ≠ j) → puts ops m (fun i => if i = j then v else vs i) a = puts ops m vs a := by
        intro m
        induction m with
        | nil => intro a _; rfl
        | cons i m ih =>
          intro a hi
          unfold puts
          rw [show (fun i => if i = j then v else vs i) i = vs i from if_neg (hi i (by simp))]
          exact ih _ fun x hx => hi x (by simp [hx])
      rw [e2 _ _ fun i hi => by rintro rfl; exact hn.1 (List.mem_filter.1 hi).1]
      exact (puts_put _ _ fun i hi t ht => hs i (by simp [(List.mem_filter.1 hi).1]) (by rintro rfl; exact hn.1 (List.mem_filter.1 hi).1) t ht).symm
    · have hm' : k ∈ l := by
        rcases List.mem_cons.1 hm with h | h
        · exact absurd h.symm hjk
        · exact h
      have ih := fun a => puts_more (v := v) (vs := vs) hk hk' hL l a hp.2 (fun i hi => hs i (by simp [hi])) hn.2 hm'
      cases hj : L j with
      | true =>
        rw [List.filter_cons_of_pos hj, List.filter_cons_of_pos (by rw [hL j hjk]; exact hj)]
        unfold puts
        rw [ih, show (fun i => if i = k then v else vs i) j = vs j from if_neg hjk]
      | false =>
        rw [List.filter_cons_of_neg (by simp [hj]), List.filter_cons_of_neg (by rw [hL j hjk]; simp [hj])]
        exact ih a
theorem count_more {k : Nat} {L L' : Nat → Bool} (hk : L k = false) (hk' : L' k = true) (hL : ∀ j, j ≠ k → L' j = L j) : ∀ (l : List Nat), l.Nodup → k ∈ l → (l.filter fun j => !L j).length = (l.filter fun j => !L' j).length + 1
  | [], _, hm => by cases hm
  | j :: l, hn, hm => by
    rw [List.nodup_cons] at hn
    by_cases hjk : j = k
    · subst hjk
      rw [List.filter_cons_of_pos (by simp [hk]), List.filter_cons_of_neg (by simp [hk']), List.length_cons]
      have e : l.filter (fun j => !L' j) = l.filter (fun j => !L j) := List.filter_congr fun i hi => by rw [hL i (by rintro rfl; exact hn.1 hi)]
      rw [e]
    · have hm' : k ∈ l := by
        rcases List.mem_cons.1 hm with h | h
        · exact absurd h.symm hjk
        · exact h
      have ih := count_more hk hk' hL l hn.2 hm'
      cases hj : L j with
      | true => rw [List.filter_cons_of_neg (by simp [hj]), List.filter_cons_of_neg (by rw [hL j hjk]; simp [hj])]; exact ih
      | false => rw [List.filter_cons_of_pos (by simp [hj]), List.filter_cons_of_pos (by rw [hL j hjk]; simp [hj]), List.length_cons, List.length_cons, ih]
/-- Operation k behind those of 'bef': out of what its own sources left true, it makes memory only, and leaves F k. -/
def StepF (P : Program) (md : Region.Mode) (ops : Array Oper) (C : World → Prop) (F : Nat → Value → World → Prop) (a : Act) (bef : List Nat) (k : Nat) (o : Oper) : Prop :=
  ∀ (vs : Nat → Value) (w : World), C w → (∀ j ∈ bef, depB md ops k j = true → F j (vs j) w) →
    if Region.wanted o (yielded ops (puts ops bef vs a).tmps) then wpV P o (puts ops bef vs a) w (fun v w' => Below w.heap.size w w' ∧ F k v w') else F k undef w
def StepsF (P : Program) (md : Region.Mode) (ops : Array Oper) (C : World → Prop) (F : Nat → Value → World → Prop) (a : Act) (Q : Prop) : List Nat → List Nat → Prop
  | _, [] => Q
  | bef, k :: rest => (∀ o, ops[k]? = some o → StepF P md ops C F a bef k o) ∧ StepsF P md ops C F a Q (bef ++ [k]) rest
theorem StepsF.last {F : Nat → Value → World → Prop} {a : Act} {Q : Prop} : ∀ (l bef : List Nat), StepsF P md ops C F a Q bef l → Q
  | [], _, h => h
  | _ :: l, bef, h => StepsF.last l _ h.2
theorem StepsF.at {F : Nat → Value → World → Prop} {a : Act} {Q : Prop} {k : Nat} : ∀ (l bef : List Nat), StepsF P md ops C F a Q bef l → k ∈ l → ∃ b1 r, bef ++ l = b1 ++ k :: r ∧ ∀ o, ops[k]? = some o → StepF P md ops C F a b1 k o
  | j :: l, bef, h, hm => by
    by_cases hjk : j = k
    · subst hjk; exact ⟨bef, l, rfl, h.1⟩
    · obtain ⟨b1, r, e, h2⟩ := StepsF.at l (bef ++ [j]) h.2 (by
        rcases List.mem_cons.1 hm with h | h
        · exact absurd h.symm hjk
        · exact h)
      exact ⟨b1, r, by rw [← e]; simp, h2⟩
def finalL (ops : Array Oper) (n : Nat) : Array Bool := ((List.range ops.size).map fun i => decide (i < n)).toArray
/-- The checks on the effects' list. -/
def factsB (md : Region.Mode) (ops : Array Oper) (n : Nat) (ml : List Nat) : Bool :=
  ml.all (fun k => decide (k < n)) && decide ml.Nodup && ml.all (fun j => ml.all fun k => decide (j = k) || sepB ops j k) && ml.all (fun k => ml.all fun j => depB md ops k j || blindB ops k j)
  && (List.range ml.length).all (fun i => (ml.drop i).all fun j => !depB md ops (ml.getD i 0) j)
  && (List.range n).all (fun k => ((ops[k]?).map fun o => o.after.all fun e => !Region.binds md e || decide (e.on < k)).getD true)
theorem sep_of {j k : Nat} (h : sepB ops j k = true) : ∀ t, dstOf ops j = some t → dstOf ops k ≠ some t := by
  intro t ht
  unfold sepB at h
  rw [ht] at h
  simpa using h
theorem blind_of {j k : Nat} {o : Oper} (ho : ops[k]? = some o) (h : blindB ops k j = true) : ∀ t, dstOf ops j = some t → t ∉ o.looksAt ops := by
  intro t ht
  unfold blindB at h
  rw [ht, ho] at h
  simpa using h
theorem wpAnyM_facts {pr : Nat → Bool} {n g : Nat} {K : Act → World → Prop} {F : Nat → Value → World → Prop} {ml : List Nat} {a0 : Act} (hsel : ∀ (j : Nat) (o : Oper) cs b, ops[j]? = some o → o.op ≠ .select cs b)
    (hs : Region.sinkB md ops n = true) (hc : Region.chainB md ops n = true) (hn : n < ops.size) (hB : factsB md ops n ml = true) (hpr : ∀ k ∈ ml, pr k = false) (hseq : Region.seqB md ops g n (finalL ops n) = true)
    (hst : ∀ k v w w', Below w.heap.size w w' → F k v w → F k v w') (hCst : ∀ w w', Below w.heap.size w w' → C w → C w')
    (steps : StepsF P md ops C F a0 (∀ (vs : Nat → Value) (w : World), C w → (∀ j ∈ ml, F j (vs j) w) → K (puts ops ml vs a0) w) [] ml) :
    ∀ (f : Nat) (listed : Array Bool) (vs : Nat → Value) (w : World), C w → HeadInv md ops n listed → (ml.filter fun j => !listed.getD j true).length = f → (∀ i, i < n → i ∉ ml → listed.getD i true = true) → (∀ j ∈ ml, listed.getD j true = true → F j (vs j) w) →
      wpAnyM P md ops C pr n (fun listed' a' w' => Region.seqB md ops g n listed' = true ∧ K a' w') f listed (puts ops (ml.filter fun j => listed.getD j true) vs a0) w := by
  unfold factsB at hB
  simp only [Bool.and_eq_true, List.all_eq_true, decide_eq_true_eq, Bool.or_eq_true, List.mem_range] at hB
  obtain ⟨⟨⟨⟨⟨hlt, hnd⟩, hsep⟩, hbl⟩, hord⟩, hback⟩ := hB
  have hpw : ml.Pairwise (fun i j => ∀ t, dstOf ops i = some t → dstOf ops j ≠ some t) :=
    List.Pairwise.imp_of_mem (fun {i j} hi hj hne => sep_of ((hsep i hi j hj).resolve_left hne)) hnd
  intro f
  induction f with
  | zero =>
    intro listed vs w hC inv hcnt hall hF
    have hdone : ∀ j ∈ ml, listed.getD j true = true := fun j hj => by
      rcases e : listed.getD j true with _ | _
      · have : j ∈ ml.filter fun j => !listed.getD j true := List.mem_filter.2 ⟨hj, by rw [e]; rfl⟩
        rw [List.eq_nil_of_length_eq_zero hcnt] at this
        cases this
      · rfl
    have efin : listed = finalL ops n := by
      refine Array.ext (by simp [finalL, inv.size]) fun i h1 h2 => ?_
      have h3 : i < ops.size := by rw [← inv.size]; exact h1
      have e1 : (finalL ops n)[i] = decide (i < n) := by simp [finalL]
      rw [e1]
      by_cases hi : i < n
      · rw [decide_eq_true hi]
        have : listed.getD i true = true := by
          by_cases hm : i ∈ ml
          · exact hdone i hm
          · exact hall i hi hm
        simpa [h1] using this
      · rw [decide_eq_false hi]
        have := inv.tail i (by omega) h3
        simpa [h1] using this
    refine ⟨by rw [efin]; exact hseq, ?_⟩
    rw [List.filter_eq_self.2 hdone]
    exact steps.last ml [] vs w hC fun j hj => hF j hj (hdone j hj)
  | succ f ih =>
    intro listed vs w hC inv hcnt hall hF
    obtain ⟨j0, hj0⟩ : ∃ j, j < n ∧ listed.getD j true = false := by
      rcases e : ml.filter fun j => !listed.getD j true with _ | ⟨j, r⟩
      · rw [e] at hcnt; cases hcnt
      · have : j ∈ ml.filter fun j => !listed.getD j true := by rw [e]; simp
        obtain ⟨h1, h2⟩ := List.mem_filter.1 this
        exact ⟨j, hlt j h1, by simpa using h2⟩
    have hin : ∀ i ∈ Region.ready md ops listed, i < n := fun i hi => by
      rcases Nat.lt_or_ge i n with h | h
      · exact h
      · exact absurd hi (tail_waits hs hc hn inv _ j0 rfl hj0.1 hj0.2 i h)
    refine ⟨fun h0 => ?_, fun i hi => ⟨hin i hi, ?_⟩⟩
    · have : ∀ m j, j < m → j < n → listed.getD j true = false → False := by
        intro m
        induction m with
        | zero => intro j h; omega
        | succ m ihm =>
          intro j hjm hjn hun
          have hjs : j < ops.size := by omega
          have hmem : j ∈ Region.ready md ops listed := by
            refine mem_ready.2 ⟨hun, ops[j], Array.getElem?_eq_getElem hjs, fun e he hb => ?_⟩
            have hk := hback j hjn
            rw [Array.getElem?_eq_getElem hjs] at hk
            simp only [Option.map_some, Option.getD_some, Array.all_eq_true_iff_forall_mem, Bool.or_eq_true, Bool.not_eq_true', decide_eq_true_eq] at hk
            have hlt2 : e.on < j := (hk e he).resolve_left (by simp [hb])
            have h1 : listed.getD e.on true = true := by
              rcases h : listed.getD e.on true with _ | _
              · exact (ihm e.on (by omega) (by omega) h).elim
              · rfl
            have h2 : e.on < listed.size := by rw [inv.size]; omega
            simpa [h2] using h1
          rw [h0] at hmem
          cases hmem
      exact this (j0 + 1) j0 (by omega) hj0.1 hj0.2
    · have himl : i ∈ ml := Classical.byContradiction fun h => by
        have h1 := hall i (hin i hi) h
        rw [(mem_ready.1 hi).1] at h1
        cases h1
      obtain ⟨hun, o, ho, hedges⟩ := mem_ready.1 hi
      obtain ⟨b1, r, eml, hstep⟩ := steps.at ml [] himl
      rw [List.nil_append] at eml
      have hdep : ∀ j ∈ ml, depB md ops i j = true → listed.getD j true = true := fun j hj hd => by
        unfold depB at hd
        rw [ho] at hd
        simp only [Option.map_some, Option.getD_some, Array.any_eq_true', Bool.and_eq_true, beq_iff_eq] at hd
        obtain ⟨e, he, hb, rfl⟩ := hd
        have h1 := hedges e he hb
        have h2 : e.on < listed.size := by rw [inv.size]; have := hlt _ hj; omega
        simpa [h2] using h1
      have hb1 : ∀ x ∈ b1, x ∈ ml := fun x hx => by rw [eml]; simp [hx]
      have ef : (ml.filter fun j => listed.getD j true).filter (depB md ops i) = b1.filter (depB md ops i) := by
        have e1 : (ml.filter fun j => listed.getD j true).filter (depB md ops i) = ml.filter (depB md ops i) := by
          rw [List.filter_filter]
          refine List.filter_congr fun j hj => ?_
          cases hd : depB md ops i j with
          | false => simp
          | true => rw [hdep j hj hd]; rfl
        rw [e1, eml, List.filter_append]
        have e2 : (i :: r).filter (depB md ops i) = [] := by
          rw [List.filter_eq_nil_iff]
          intro j hj
          have hl : b1.length < ml.length := by rw [eml]; simp
          have h1 := hord b1.length hl j (by rw [eml, List.drop_left' rfl]; exact hj)
          have h2 : ml.getD b1.length 0 = i := by rw [eml, List.getD_eq_getElem?_getD, List.getElem?_append_right (Nat.le_refl _), Nat.sub_self]; rfl
          rw [h2] at h1
          simpa using h1
        rw [e2, List.append_nil]
      have hpw1 : (ml.filter fun j => listed.getD j true).Pairwise (fun i j => ∀ t, dstOf ops i = some t → dstOf ops j ≠ some t) := List.Pairwise.sublist List.filter_sublist hpw
      have hpw2 : b1.Pairwise (fun i j => ∀ t, dstOf ops i = some t → dstOf ops j ≠ some t) := List.Pairwise.sublist (by rw [eml]; exact List.sublist_append_left _ _) hpw
      have hblind : ∀ j ∈ ml, depB md ops i j = false → ∀ t, dstOf ops j = some t → t ∉ o.looksAt ops := fun j hj hd => blind_of ho ((hbl i himl j hj).resolve_left (by simp [hd]))
      have key : ∀ {β : Type} (G : Act → β), (∀ j ∈ ml, depB md ops i j = false → ∀ a v, G (a.put (dstOf ops j) v) = G a) → G (puts ops (ml.filter fun j => listed.getD j true) vs a0) = G (puts ops b1 vs a0) := fun G hG => by
        rw [puts_fn G (depB md ops i) _ a0 hpw1 (fun j hj => hG j (List.mem_filter.1 hj).1), puts_fn G (depB md ops i) _ a0 hpw2 (fun j hj => hG j (hb1 j hj)), ef]
      have ew := key (fun a => Region.wanted o (yielded ops a.tmps)) (fun j hj hd a v => wanted_put o a _ v (hblind j hj hd))
      have ee := key (fun a => execOp a.eval o) (fun j hj hd a v => execOp_put o (fun cs b => hsel i o cs b ho) a _ v (hblind j hj hd))
      have hst1 := hstep o ho vs w hC (fun j hj hd => hF j (hb1 j hj) (hdep j (hb1 j hj) hd))
      have edst : o.dst = dstOf ops i := by unfold dstOf; rw [ho]; rfl
      have hLi : (listed.setIfInBounds i true).getD i true = true := by
        have h2 : i < listed.size := by rw [inv.size]; have := hlt _ himl; omega
        simp [h2]
      have hLo : ∀ j, j ≠ i → (listed.setIfInBounds i true).getD j true = listed.getD j true := fun j hj => getD_set_ne true (Ne.symm hj)
      have next : ∀ v w', Below w.heap.size w w' → F i v w' → C w' ∧ wpAnyM P md ops C pr n (fun listed' a' w' => Region.seqB md ops g n listed' = true ∧ K a' w') f (listed.setIfInBounds i true) ((puts ops (ml.filter fun j => listed.getD j true) vs a0).put o.dst v) w' := by
        intro v w' hb hFi
        have hC' := hCst w w' hb hC
        refine ⟨hC', ?_⟩
        rw [edst, puts_more (L := fun j => listed.getD j true) (L' := fun j => (listed.setIfInBounds i true).getD j true) hun hLi (fun j hj => hLo j hj) ml a0 hpw (fun x hx hne t ht => sep_of ((hsep i himl x hx).resolve_left (fun e => hne e.symm)) t ht) hnd himl]
        refine ih _ _ w' hC' (inv.set hi (hin i hi)) ?_ (fun x hx hxm => ?_) (fun j hj hl => ?_)
        · have := count_more (L := fun j => listed.getD j true) (L' := fun j => (listed.setIfInBounds i true).getD j true) hun hLi (fun j hj => hLo j hj) ml hnd himl
          omega
        · have hne : x ≠ i := by rintro rfl; exact hxm himl
          rw [hLo x hne]; exact hall x hx hxm
        · by_cases hji : j = i
          · subst hji; rw [if_pos rfl]; exact hFi
          · rw [if_neg hji]
            rw [hLo j hji] at hl
            exact hst j _ w w' hb (hF j hj hl)
      unfold mOp
      simp only [ho]
      split
      · rename_i hw
        rw [if_neg (by rw [hpr i himl]; simp)]
        rw [if_pos (by rw [← ew]; exact hw)] at hst1
        exact wpE_of_V ee hst1 fun v w' ⟨h1, h2⟩ => next v w' h1 h2
      · rename_i hw
        rw [if_neg (by rw [← ew]; exact hw)] at hst1
        exact (next undef w (Below.refl _ _) hst1).2
def phF (md : Region.Mode) (ops : Array Oper) (pr : Nat → Bool) (g n : Nat) (ml : List Nat) : List Nat → Array Bool → Bool
  | k :: pl, listed => (Region.ready md ops listed).contains k && Region.free md ops listed k && decide (k < n) && pr k && phF md ops pr g n ml pl (listed.setIfInBounds k true)
  | [], listed => (List.range n).all (fun i => ml.contains i || listed.getD i true) && ml.all (fun i => !listed.getD i true)
theorem wpAnyM_pureF {pr : Nat → Bool} {n g : Nat} {K : Act → World → Prop} {F : Nat → Value → World → Prop} {ml : List Nat} (hsel : Region.noSelect ops = true) (hs : Region.sinkB md ops n = true) (hc : Region.chainB md ops n = true) (hn : n < ops.size)
    (hB : factsB md ops n ml = true) (hpr : ∀ k ∈ ml, pr k = false) (hseq : Region.seqB md ops g n (finalL ops n) = true) (hst : ∀ k v w w', Below w.heap.size w w' → F k v w → F k v w') (hCst : ∀ w w', Below w.heap.size w w' → C w → C w') :
    ∀ (pl : List Nat) (listed : Array Bool) (a : Act) (w : World), C w → HeadInv md ops n listed → phF md ops pr g n ml pl listed = true →
      wpPure P ops C (fun a' => StepsF P md ops C F a' (∀ (vs : Nat → Value) (w : World), C w → (∀ j ∈ ml, F j (vs j) w) → K (puts ops ml vs a') w) [] ml) (opsOf ops pl) a →
      wpAnyM P md ops C pr n (fun listed' a' w' => Region.seqB md ops g n listed' = true ∧ K a' w') (pl.length + ml.length) listed a w
  | [], listed, a, w, hC, inv, hP, h => by
    unfold phF at hP
    simp only [Bool.and_eq_true, List.all_eq_true, List.mem_range, Bool.or_eq_true, Bool.not_eq_true', List.contains_iff_mem] at hP
    rw [List.length_nil, Nat.zero_add]
    have e0 : (ml.filter fun j => listed.getD j true) = [] := by
      rw [List.filter_eq_nil_iff]
      intro j hj
      rw [hP.2 j hj]
      simp
    have e1 : (ml.filter fun j => !listed.getD j true).length = ml.length := by
      rw [List.filter_eq_self.2 fun j hj => by rw [hP.2 j hj]; rfl]
    have := wpAnyM_facts (P := P) (K := K) (a0 := a) (F := F) (Region.noSelect_spec hsel) hs hc hn hB hpr hseq hst hCst h ml.length listed (fun _ => undef) w hC inv e1 (fun i hi hm => (hP.1 i hi).resolve_left hm) (fun j hj hl => by rw [hP.2 j hj] at hl; cases hl)
    rw [e0] at this
    exact this
  | k :: pl, listed, a, w, hC, inv, hP, h => by
    unfold phF at hP
    simp only [Bool.and_eq_true, decide_eq_true_eq] at hP
    obtain ⟨⟨⟨⟨hr, hf⟩, hkn⟩, hpk⟩, hB'⟩ := hP
    have hr' : k ∈ Region.ready md ops listed := by simpa using hr
    obtain ⟨_, ok, hok, _⟩ := mem_ready.1 hr'
    have e : opsOf ops (k :: pl) = ok :: opsOf ops pl := by unfold opsOf; rw [List.filterMap_cons, hok]
    rw [e] at h
    unfold wpPure at h
    have hex : ∃ v, Yields P ops C ok v a ∧ wpPure P ops C (fun a' => StepsF P md ops C F a' (∀ (vs : Nat → Value) (w : World), C w → (∀ j ∈ ml, F j (vs j) w) → K (puts ops ml vs a') w) [] ml) (opsOf ops pl) (a.put ok.dst v) := by
      split at h
      · rename_i hw
        obtain ⟨v, h1, h2⟩ := h
        exact ⟨v, .inl ⟨hw, h1⟩, h2⟩
      · rename_i hw
        exact ⟨undef, .inr ⟨by simpa using hw, rfl⟩, h⟩
    obtain ⟨v, hy, hK⟩ := hex
    rw [show (k :: pl).length + ml.length = (pl.length + ml.length) + 1 by simp; omega]
    exact wpAnyM_first hok hpk (Region.noSelect_spec hsel) hs hc hn hkn (fun listed' a' w' hL => seqB_ready hL.1) (pl.length + ml.length) listed a w hC inv (Region.free_spec hok hf) hr' hy
      (wpAnyM_pureF hsel hs hc hn hB hpr hseq hst hCst pl _ _ w hC (inv.set hr' hkn) hB' hK)
def mixFB (md : Region.Mode) (ops : Array Oper) (n : Nat) (pl ml : List Nat) : Bool :=
  Region.noSelect ops && decide (n < ops.size) && Region.sinkB md ops n && Region.chainB md ops n && decide (pl.length + ml.length = n) && factsB md ops n ml && ml.all (fun k => !pl.contains k) && Region.seqB md ops (ops.size - n) n (finalL ops n)
  && phF md ops (fun i => pl.contains i) (ops.size - n) n ml pl (Array.replicate ops.size false)
/-- The region's law: 'pl' are operations that only read, in an order that their edges allow; 'ml' others, that make memory, in an order of the text; from 'n' on the tail. What F says of an operation's value stays true while memory is made. -/
theorem wp_region_facts {id : Nat} {Q : Exit → Act → World → Prop} {a : Act} {w : World} {l : List Oper} (n : Nat) (pl ml : List Nat) (F : Nat → Value → World → Prop) (hm : P.follows .mixedOrders = true) (hB : mixFB .any l.toArray n pl ml = true)
    (hst : ∀ k v w w', Below w.heap.size w w' → F k v w → F k v w')
    (h : wpPure P l.toArray (fun w' => Below w.heap.size w w') (fun a' => StepsF P .any l.toArray (fun w' => Below w.heap.size w w') F a' (∀ (vs : Nat → Value) (w' : World), Below w.heap.size w w' → (∀ j ∈ ml, F j (vs j) w') → wpList P l.toArray Q (l.drop n) (puts l.toArray ml vs a') w') [] ml) (opsOf l.toArray pl) a) : (Code.region id l.toArray true).wp P Q a w := by
  simp only [mixFB, Bool.and_eq_true, decide_eq_true_eq] at hB
  obtain ⟨⟨⟨⟨⟨⟨⟨⟨hsel, hn⟩, hs⟩, hc⟩, hlen⟩, hfB⟩, hpl⟩, hseq⟩, hph⟩ := hB
  have hdl : (l.drop n).length = l.toArray.size - n := by simp
  have inv0 : HeadInv .any l.toArray n (Array.replicate l.toArray.size false) :=
    ⟨by simp, fun j oj _ hl => (by rw [getD_replicate_false] at hl; cases hl), fun t _ ht => getD_in (by simpa using ht) (getD_replicate_false _ _)⟩
  have hC : Below w.heap.size w w.drew := (Below.refl _ _).drew
  have hpr : ∀ k ∈ ml, (fun i => pl.contains i) k = false := fun k hk => by
    have := List.all_eq_true.1 hpl k hk
    simpa using this
  have H := wpAnyM_pureF (P := P) (C := fun w' => Below w.heap.size w w') (K := fun a' w' => wpList P l.toArray Q (l.drop n) a' w') (md := .any) (g := l.toArray.size - n) hsel hs hc hn hfB hpr hseq hst (fun w1 w2 hb h1 => h1.trans (hb.mono h1.size)) pl _ a _ hC inv0 hph h
  refine wp_region_any hm ?_
  have := wpAny_of_M (Q' := Q) (g := l.toArray.size - n) (fun listed a' w' hL => by
    have := wpAny_of_seq (md := .any) (Q' := Q) (l.drop n) n listed a' w' (fun j => by simp [List.getElem?_drop]) (by rw [hdl]; exact hL.1) hL.2
    rwa [hdl] at this) _ _ _ _ hC H
  have hn' : n < l.length := by simpa using hn
  have hsz : l.toArray.size = l.length := by simp
  rw [hlen, show n + (l.toArray.size - n) = l.toArray.size by omega] at this
  exact this
theorem wpV_append {P : Program} {o : Oper} {a : Act} {w w' : World} {N : Value → World → Prop} (s x : Operand) (t : TypeId) (ho : o.op = .call { callee := .builtin .append, args := #[s, x], argTypes := #[t, t] })
    (v1 v2 v : Value) (hs : a.eval s = v1) (hx : a.eval x = v2) (hrun : (Builtin.append_ #[t, t] o.type #[v1, v2]).run P w = .ok v w') (h : N v w') : wpV P o a w N := by
  unfold wpV execOp
  simp only [ho, resolve, invoke, builtin, Sem.run_bind, Sem.run_pure, Result.andThen_ok, List.map_toArray, List.map_cons, List.map_nil, hs, hx, hrun]
  exact h
theorem if_wanted {o : Oper} {a : Act} {p q : Prop} {ops : Array Oper} (hg : o.guard = none) (h : p) : if Region.wanted o (yielded ops a.tmps) then p else q := by
  rw [if_pos (by simp [Region.wanted, hg])]
  exact h
end
attribute [go_sem] uponV wpV
end Go.Proofs.Ytngdlgmehefocaa.Mix
