/- The plain law of logs: which are right, a further change, what came since a version; no Go in sight. No condition. -/
import Derived.Test.YtngdlgmehefocaaKit
namespace Go.Proofs.Ytngdlgmehefocaa.Log
set_option linter.unusedVariables false
/-- A change: its version, whose it is, by how much. -/
abbrev Chg := Int × Int × Int
def mayB (by_ n : Int) : Bool := decide (1 ≤ by_ ∧ by_ ≤ 8 ∧ n ≠ 0 ∧ -1099511627776 ≤ n ∧ n ≤ 1099511627776)
def okC (last : Int) (cs : List Chg) (j : Nat) : Bool := decide ((cs.getD j (0, 0, 0)).1 = last - cs.length + 1 + j) && mayB (cs.getD j (0, 0, 0)).2.1 (cs.getD j (0, 0, 0)).2.2
def preL (room last : Int) (n : Nat) : Prop := 1 ≤ room ∧ room ≤ 64 ∧ 0 ≤ last ∧ last ≤ 2147483647 ∧ (n : Int) ≤ room ∧ (n : Int) ≤ last
instance (room last : Int) (n : Nat) : Decidable (preL room last n) := by unfold preL; infer_instance
def allTo (last : Int) (cs : List Chg) (k : Nat) : Bool := (List.range k).all (okC last cs)
def rightL (room last : Int) (cs : List Chg) : Bool := decide (preL room last cs.length) && allTo last cs cs.length
theorem allTo_succ (last : Int) (cs : List Chg) (k : Nat) : allTo last cs (k + 1) = (allTo last cs k && okC last cs k) := by simp [allTo, List.range_succ]
theorem allTo_le {last : Int} {cs : List Chg} {k n : Nat} (h : allTo last cs n = true) (hk : k ≤ n) : allTo last cs k = true := by
  unfold allTo at *
  rw [List.all_eq_true] at *
  intro j hj
  exact h j (List.mem_range.2 (by have := List.mem_range.1 hj; omega))
theorem allTo_at {last : Int} {cs : List Chg} {k n : Nat} (h : allTo last cs n = true) (hk : k < n) : okC last cs k = true := by
  unfold allTo at h
  rw [List.all_eq_true] at h
  exact h k (List.mem_range.2 hk)
theorem allTo_no {last : Int} {cs : List Chg} {k n : Nat} (h : okC last cs k = false) (hk : k < n) : allTo last cs n = false := by
  rcases e : allTo last cs n with _ | _
  · rfl
  · rw [allTo_at e hk] at h; cases h
theorem right_pre {room last : Int} {cs : List Chg} (h : rightL room last cs = true) : preL room last cs.length := by
  unfold rightL at h
  simp only [Bool.and_eq_true, decide_eq_true_eq] at h
  exact h.1
theorem right_all {room last : Int} {cs : List Chg} (h : rightL room last cs = true) : allTo last cs cs.length = true := by
  unfold rightL at h
  simp only [Bool.and_eq_true, decide_eq_true_eq] at h
  exact h.2
theorem right_yes {room last : Int} {cs : List Chg} (h : preL room last cs.length) (h2 : allTo last cs cs.length = true) : rightL room last cs = true := by
  unfold rightL
  simp [h, h2]
theorem right_no {room last : Int} {cs : List Chg} (h : ¬ preL room last cs.length) : rightL room last cs = false := by
  unfold rightL
  simp [h]
theorem right_bad {room last : Int} {cs : List Chg} (h : allTo last cs cs.length = false) : rightL room last cs = false := by
  unfold rightL
  simp [h]
theorem right_ver {room last : Int} {cs : List Chg} (h : rightL room last cs = true) {j : Nat} (hj : j < cs.length) : (cs.getD j (0, 0, 0)).1 = last - cs.length + 1 + j := by
  have := allTo_at (right_all h) hj
  unfold okC at this
  simp only [Bool.and_eq_true, decide_eq_true_eq] at this
  exact this.1
theorem right_may {room last : Int} {cs : List Chg} (h : rightL room last cs = true) {j : Nat} (hj : j < cs.length) : mayB (cs.getD j (0, 0, 0)).2.1 (cs.getD j (0, 0, 0)).2.2 = true := by
  have := allTo_at (right_all h) hj
  unfold okC at this
  simp only [Bool.and_eq_true] at this
  exact this.2
theorem may_bd {b n : Int} (h : mayB b n = true) : 1 ≤ b ∧ b ≤ 8 ∧ n ≠ 0 ∧ -1099511627776 ≤ n ∧ n ≤ 1099511627776 := of_decide_eq_true h

/-! ### A further change -/
/-- What is kept of the list ahead of a further change. -/
def cutL (room : Int) (cs : List Chg) : List Chg := cs.drop (if (cs.length : Int) = room then 1 else 0)
def noteL (room last : Int) (cs : List Chg) (b n : Int) : Int × Int × List Chg × Int :=
  if rightL room last cs = false then (0, 0, [], 110) else if mayB b n = false then (0, 0, [], 1) else if last = 2147483647 then (0, 0, [], 101)
  else (room, last + 1, cutL room cs ++ [(last + 1, b, n)], 0)
theorem cut_other {room last : Int} {cs : List Chg} {x : Chg} (h : rightL room last cs = true) : (if room < ((cs ++ [x]).length : Int) then (cs ++ [x]).drop 1 else cs ++ [x]) = cutL room cs ++ [x] := by
  obtain ⟨h1, h2, h3, h4, h5, h6⟩ := right_pre h
  unfold cutL
  rw [List.length_append, List.length_singleton]
  by_cases e : (cs.length : Int) = room
  · rw [if_pos (by omega), if_pos e]
    cases cs with
    | nil => simp at e; omega
    | cons c cs => simp
  · rw [if_neg (by omega), if_neg e]
    simp
theorem note_right {room last : Int} {cs : List Chg} {b n : Int} (h : rightL room last cs = true) (hm : mayB b n = true) (hl : last ≠ 2147483647) : rightL room (last + 1) (cutL room cs ++ [(last + 1, b, n)]) = true := by
  have hp := right_pre h
  obtain ⟨h1, h2, h3, h4, h5, h6⟩ := hp
  have hlen : ((cutL room cs).length : Int) = cs.length - (if (cs.length : Int) = room then 1 else 0) := by
    unfold cutL
    rw [List.length_drop]
    split <;> omega
  refine right_yes ?_ ?_
  · unfold preL
    rw [List.length_append, List.length_singleton]
    split at hlen <;> refine ⟨h1, h2, ?_, ?_, ?_, ?_⟩ <;> omega
  · unfold allTo
    rw [List.all_eq_true]
    intro j hj
    have hj := List.mem_range.1 hj
    rw [List.length_append, List.length_singleton] at hj
    unfold okC
    rw [List.length_append, List.length_singleton]
    by_cases hlt : j < (cutL room cs).length
    · have e : (cutL room cs ++ [(last + 1, b, n)]).getD j (0, 0, 0) = cs.getD ((if (cs.length : Int) = room then 1 else 0) + j) (0, 0, 0) := by
        rw [List.getD_eq_getElem?_getD, List.getElem?_append_left hlt]
        unfold cutL
        rw [List.getElem?_drop, ← List.getD_eq_getElem?_getD]
      have hb : (if (cs.length : Int) = room then 1 else 0) + j < cs.length := by
        have : (cutL room cs).length = cs.length - (if (cs.length : Int) = room then 1 else 0) := by unfold cutL; rw [List.length_drop]
        omega
      rw [e, right_may h hb, Bool.and_true, decide_eq_true_eq, right_ver h hb]
      split at hlen <;> rename_i hc <;> simp only [hc, if_true, if_false] at hb ⊢ <;> omega
    · have e0 : j = (cutL room cs).length := by omega
      have e : (cutL room cs ++ [(last + 1, b, n)]).getD j (0, 0, 0) = (last + 1, b, n) := by
        rw [List.getD_eq_getElem?_getD, List.getElem?_append_right (by omega), e0, Nat.sub_self]
        rfl
      rw [e, hm, Bool.and_true, decide_eq_true_eq, e0]
      simp only
      omega

/-! ### What came since a version -/
/-- The version ahead of the first change that is kept. -/
def oldL (last : Int) (cs : List Chg) : Int := last - cs.length
def sinceL (room last : Int) (cs : List Chg) (ver : Int) : List Chg × Int :=
  if rightL room last cs = false then ([], 110) else if ver < 0 ∨ last < ver then ([], 1) else if ver < oldL last cs then ([], 111) else (cs.drop (ver - oldL last cs).toNat, 0)
theorem filter_vers (v0 ver : Int) (cs : List Chg) (h : ∀ j, j < cs.length → (cs.getD j (0, 0, 0)).1 = v0 + 1 + j) : cs.filter (fun c => decide (ver < c.1)) = cs.drop (ver - v0).toNat := by
  induction cs generalizing v0 with
  | nil => simp
  | cons c cs ih =>
    have h0 : c.1 = v0 + 1 + 0 := h 0 (by simp)
    have ih := ih (v0 + 1) (fun j hj => by
      have := h (j + 1) (by simp; omega)
      simp only [List.getD_cons_succ] at this
      rw [this]
      omega)
    rw [List.filter_cons]
    by_cases hv : ver < c.1
    · have e : (ver - v0).toNat = 0 := by omega
      have e2 : (ver - (v0 + 1)).toNat = 0 := by omega
      rw [if_pos (by simpa using hv), ih, e, e2]
      rfl
    · have e : (ver - v0).toNat = (ver - (v0 + 1)).toNat + 1 := by omega
      rw [if_neg (by simpa using hv), ih, e]
      rfl
/-- The document's way: all above, and whether there are as many as there must be. -/
theorem since_other {room last ver : Int} {cs : List Chg} (h : rightL room last cs = true) (h1 : 0 ≤ ver) (h2 : ver ≤ last) :
    (if ((cs.filter (fun c => decide (ver < c.1))).length : Int) = last - ver then (cs.filter (fun c => decide (ver < c.1)), (0 : Int)) else ([], 111)) = sinceL room last cs ver := by
  have hp := right_pre h
  obtain ⟨q1, q2, q3, q4, q5, q6⟩ := hp
  rw [filter_vers (last - cs.length) ver cs (fun j hj => right_ver h hj)]
  have e : sinceL room last cs ver = if ver < last - cs.length then ([], 111) else (cs.drop (ver - (last - cs.length)).toNat, 0) := by
    unfold sinceL oldL
    rw [if_neg (by rw [h]; simp), if_neg (by omega)]
  rw [e, List.length_drop]
  by_cases h3 : ver < last - cs.length
  · rw [if_pos h3, if_neg (by omega)]
  · rw [if_neg h3, if_pos (by omega)]
def sumL (cs : List Chg) : Int := (cs.map fun c => c.2.2).sum
theorem sumL_snoc (cs : List Chg) (k : Nat) (hk : k < cs.length) : sumL (cs.take (k + 1)) = sumL (cs.take k) + (cs.getD k (0, 0, 0)).2.2 := by
  unfold sumL
  rw [List.take_succ_eq_append_getElem hk, List.map_append, List.sum_append]
  simp [List.getD_eq_getElem?_getD, List.getElem?_eq_getElem hk]
theorem sumL_bd (cs : List Chg) (h : ∀ c ∈ cs, -1099511627776 ≤ c.2.2 ∧ c.2.2 ≤ 1099511627776) : -1099511627776 * (cs.length : Int) ≤ sumL cs ∧ sumL cs ≤ 1099511627776 * (cs.length : Int) := by
  unfold sumL
  induction cs with
  | nil => simp
  | cons c cs ih =>
    have := ih (fun x hx => h x (by simp [hx]))
    have := h c (by simp)
    simp only [List.map_cons, List.sum_cons, List.length_cons]
    omega
def netL (room last : Int) (cs : List Chg) (b : Int) : Int := if rightL room last cs = false then 0 else sumL (cs.filter fun c => decide (c.2.1 = b))
theorem net_snoc (cs : List Chg) (b : Int) (k : Nat) (hk : k < cs.length) : sumL ((cs.take (k + 1)).filter fun c => decide (c.2.1 = b)) = sumL ((cs.take k).filter fun c => decide (c.2.1 = b)) + (if (cs.getD k (0, 0, 0)).2.1 = b then (cs.getD k (0, 0, 0)).2.2 else 0) := by
  rw [List.take_succ_eq_append_getElem hk, List.filter_append]
  unfold sumL
  rw [List.map_append, List.sum_append]
  simp only [List.getD_eq_getElem?_getD, List.getElem?_eq_getElem hk, Option.getD_some, List.filter_cons]
  split <;> rename_i h
  · rw [if_pos (by simpa using h)]; simp
  · rw [if_neg (by simpa using h)]; simp
def subL (a b : Int) : Int × Int := if -9223372036854775808 ≤ a - b ∧ a - b ≤ 9223372036854775807 then (a - b, 0) else (0, 4)
def atL (room last : Int) (cs : List Chg) (vol ver : Int) : Int × Int := if (sinceL room last cs ver).2 ≠ 0 then (0, (sinceL room last cs ver).2) else subL vol (sumL (sinceL room last cs ver).1)
theorem getD_mem (cs : List Chg) (j : Nat) (hj : j < cs.length) : cs.getD j (0, 0, 0) ∈ cs := by
  rw [List.getD_eq_getElem?_getD, List.getElem?_eq_getElem hj]; exact List.getElem_mem hj
theorem right_mem {room last : Int} {cs : List Chg} (h : rightL room last cs = true) {c : Chg} (hc : c ∈ cs) : 1 ≤ c.2.1 ∧ c.2.1 ≤ 8 ∧ c.2.2 ≠ 0 ∧ -1099511627776 ≤ c.2.2 ∧ c.2.2 ≤ 1099511627776 := by
  obtain ⟨j, hj, rfl⟩ := List.getElem_of_mem hc
  have := may_bd (right_may h hj)
  rw [List.getD_eq_getElem?_getD, List.getElem?_eq_getElem hj] at this
  exact this
end Go.Proofs.Ytngdlgmehefocaa.Log
