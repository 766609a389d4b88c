/- Sums and differences of any two floats: when there is one, and how it stands to others. No condition. -/
import Derived.Test.YtkkapajpgfjomaaFlt
namespace Go.Proofs.Ytkkapajpgfjomaa.Flt
open Ieee
set_option linter.unusedVariables false
theorem key_bd (x : Nat) (h : nanB x = false) : -9218868437227405312 ≤ key x ∧ key x ≤ 9218868437227405312 := by
  unfold nanB at h
  have h := of_decide_eq_false h
  unfold key sg; split <;> omega
theorem fin_iff (x : Nat) (h : nanB x = false) : finB x = true ↔ (-9218868437227405312 < key x ∧ key x < 9218868437227405312) := by
  unfold nanB at h
  have h := of_decide_eq_false h
  unfold finB key sg
  rw [decide_eq_true_iff]
  split <;> omega
theorem inf_rg (x : Nat) (h : nanB x = false) (hf : ¬ finB x = true) : rg x = 9218868437227405312 := by
  unfold nanB at h
  have h := of_decide_eq_false h
  unfold finB at hf
  rw [decide_eq_true_iff] at hf
  omega
theorem fin_nan (x : Nat) (h : finB x = true) : nanB x = false := by
  unfold finB at h
  have h := of_decide_eq_true h
  unfold nanB
  exact decide_eq_false (by omega)
theorem write_inf (s : Bool) : key (double.write (.infinity s)) = sg s 9218868437227405312 ∧ nanB (double.write (.infinity s)) = false := key_word s _ (Nat.le_refl _)
theorem val_key (x : Nat) (h : 0 ≤ key x) : 0 ≤ val x := by
  have := (sg_magR (NEG x) false (rg x) 0).1
  rw [magR_zero] at this
  unfold key at h
  unfold val
  have e : sg false 0 = 0 := rfl
  rw [e] at this
  omega
theorem val_le {x y : Nat} (h : key x ≤ key y) : val x ≤ val y := by
  have := (sg_magR (NEG y) (NEG x) (rg y) (rg x)).1
  unfold key at h
  unfold val
  omega
/-- What the sum of x and y (or of x and -y) is, where there is one. -/
structure SumOf (x y : Nat) (neg : Bool) (z : Nat) : Prop where
  nx : nanB x = false
  ny : nanB y = false
  nz : nanB z = false
  fin : finB x = true → finB y = true → key z = K (val x + if neg then - val y else val y) (-1074)
  infx : ¬ finB x = true → key z = key x
  infy : ¬ finB y = true → key z = if neg then - key y else key y
theorem key_inf (x : Nat) (h : nanB x = false) (hf : ¬ finB x = true) : key x = sg (NEG x) 9218868437227405312 := by unfold key; rw [inf_rg x h hf]
theorem sg_not (s : Bool) (n : Nat) : sg (!s) n = - sg s n := by unfold sg; cases s <;> simp
theorem add_ok {x y z : Nat} (h : double.add x y = some z) : SumOf x y false z := by
  by_cases nx : nanB x = true
  · unfold nanB at nx
    obtain ⟨f, e⟩ := read_nan x (of_decide_eq_true nx)
    unfold Format.add at h
    rw [e] at h
    cases h
  by_cases ny : nanB y = true
  · unfold nanB at ny
    obtain ⟨f, e⟩ := read_nan y (of_decide_eq_true ny)
    unfold Format.add at h
    rw [e] at h
    cases hd : double.read x <;> rw [hd] at h <;> cases h
  rw [Bool.not_eq_true] at nx ny
  by_cases fx : finB x = true
  · by_cases fy : finB y = true
    · obtain ⟨z', h1, h2, h3⟩ := add_fin x y fx fy
      rw [h] at h1
      injection h1 with h1
      subst h1
      exact ⟨nx, ny, h3, fun _ _ => h2, fun h => absurd fx h, fun h => absurd fy h⟩
    · have fx' := fx
      unfold finB at fx'
      obtain ⟨m, a, e, -⟩ := read_fin x (of_decide_eq_true fx')
      unfold Format.add at h
      rw [e, read_inf y (inf_rg y ny fy)] at h
      injection h with h
      have := write_inf (NEG y)
      rw [h] at this
      exact ⟨nx, ny, this.2, fun _ h => absurd h fy, fun h => absurd fx h, fun _ => by rw [this.1, key_inf y ny fy]; rfl⟩
  · by_cases fy : finB y = true
    · have fy' := fy
      unfold finB at fy'
      obtain ⟨m, a, e, -⟩ := read_fin y (of_decide_eq_true fy')
      unfold Format.add at h
      rw [e, read_inf x (inf_rg x nx fx)] at h
      injection h with h
      have := write_inf (NEG x)
      rw [h] at this
      exact ⟨nx, ny, this.2, fun h _ => absurd h fx, fun _ => by rw [this.1, key_inf x nx fx], fun h => absurd fy h⟩
    · unfold Format.add at h
      rw [read_inf x (inf_rg x nx fx), read_inf y (inf_rg y ny fy)] at h
      unfold Datum.sum at h
      by_cases hs : NEG x = NEG y
      · simp only [hs, if_true, Option.map_some] at h
        injection h with h
        have := write_inf (NEG y)
        rw [h] at this
        exact ⟨nx, ny, this.2, fun h _ => absurd h fx, fun _ => by rw [this.1, key_inf x nx fx, hs], fun _ => by rw [this.1, key_inf y ny fy]; rfl⟩
      · simp [hs] at h
theorem sub_ok {x y z : Nat} (h : double.sub x y = some z) : SumOf x y true z := by
  by_cases nx : nanB x = true
  · unfold nanB at nx
    obtain ⟨f, e⟩ := read_nan x (of_decide_eq_true nx)
    unfold Format.sub at h
    rw [e] at h
    cases h
  by_cases ny : nanB y = true
  · unfold nanB at ny
    obtain ⟨f, e⟩ := read_nan y (of_decide_eq_true ny)
    unfold Format.sub at h
    rw [e] at h
    cases hd : double.read x <;> rw [hd] at h <;> cases h
  rw [Bool.not_eq_true] at nx ny
  by_cases fx : finB x = true
  · by_cases fy : finB y = true
    · obtain ⟨z', h1, h2, h3⟩ := sub_fin x y fx fy
      rw [h] at h1
      injection h1 with h1
      subst h1
      exact ⟨nx, ny, h3, fun _ _ => h2, fun h => absurd fx h, fun h => absurd fy h⟩
    · have fx' := fx
      unfold finB at fx'
      obtain ⟨m, a, e, -⟩ := read_fin x (of_decide_eq_true fx')
      unfold Format.sub at h
      rw [e, read_inf y (inf_rg y ny fy)] at h
      injection h with h
      have := write_inf (!NEG y)
      rw [h] at this
      exact ⟨nx, ny, this.2, fun _ h => absurd h fy, fun h => absurd fx h, fun _ => by rw [this.1, key_inf y ny fy, sg_not]; rfl⟩
  · by_cases fy : finB y = true
    · have fy' := fy
      unfold finB at fy'
      obtain ⟨m, a, e, -⟩ := read_fin y (of_decide_eq_true fy')
      unfold Format.sub at h
      rw [e, read_inf x (inf_rg x nx fx)] at h
      injection h with h
      have := write_inf (NEG x)
      rw [h] at this
      exact ⟨nx, ny, this.2, fun h _ => absurd h fx, fun _ => by rw [this.1, key_inf x nx fx], fun h => absurd fy h⟩
    · unfold Format.sub at h
      rw [read_inf x (inf_rg x nx fx), read_inf y (inf_rg y ny fy)] at h
      unfold Datum.opposite Datum.sum at h
      by_cases hs : NEG x = !NEG y
      · simp only [hs, if_true, Option.map_some] at h
        injection h with h
        have := write_inf (!NEG y)
        rw [h] at this
        exact ⟨nx, ny, this.2, fun h _ => absurd h fx, fun _ => by rw [this.1, key_inf x nx fx, hs], fun _ => by rw [this.1, key_inf y ny fy, sg_not]; rfl⟩
      · simp [hs] at h

/-! ### How sums stand to each other -/
section
variable {x r s a b c : Nat}
theorem sum_lt {x y : Nat} {neg : Bool} {z : Nat} (h : SumOf x y neg z) (hz : z = z) : nanB z = false := h.nz
theorem sub_le_add (ha : double.sub x r = some a) (hb : double.add x r = some b) (hr : 0 ≤ key r) : key a ≤ key b := by
  have h1 := sub_ok ha
  have h2 := add_ok hb
  have k1 := key_bd a h1.nz
  have k2 := key_bd b h2.nz
  by_cases fr : finB r = true
  · by_cases fx : finB x = true
    · rw [h1.fin fx fr, h2.fin fx fr]
      have := val_key r hr
      refine K_mono ?_ _
      simp only [if_true, Bool.false_eq_true, if_false]
      omega
    · rw [h1.infx fx, h2.infx fx]; exact Int.le_refl _
  · have : ¬ (-9218868437227405312 < key r ∧ key r < 9218868437227405312) := fun h => fr ((fin_iff r h1.ny).2 h)
    have e1 := h1.infy fr
    have e2 := h2.infy fr
    simp at e1 e2
    omega
theorem sub_le (ha : double.sub x r = some a) (hr : 0 ≤ key r) : key a ≤ key x := by
  have h1 := sub_ok ha
  have k1 := key_bd a h1.nz
  have k2 := key_bd x h1.nx
  by_cases fr : finB r = true
  · by_cases fx : finB x = true
    · have hx : rg x ≤ 9218868437227405312 := by have := h1.nx; unfold nanB at this; have := of_decide_eq_false this; omega
      rw [h1.fin fx fr, ← K_val x hx]
      have := val_key r hr
      refine K_mono ?_ _
      simp only [if_true]
      omega
    · rw [h1.infx fx]; exact Int.le_refl _
  · have : ¬ (-9218868437227405312 < key r ∧ key r < 9218868437227405312) := fun h => fr ((fin_iff r h1.ny).2 h)
    have e1 := h1.infy fr
    simp at e1
    omega
theorem le_add (ha : double.add x r = some a) (hr : 0 ≤ key r) : key x ≤ key a := by
  have h1 := add_ok ha
  have k1 := key_bd a h1.nz
  have k2 := key_bd x h1.nx
  by_cases fr : finB r = true
  · by_cases fx : finB x = true
    · have hx : rg x ≤ 9218868437227405312 := by have := h1.nx; unfold nanB at this; have := of_decide_eq_false this; omega
      rw [h1.fin fx fr, ← K_val x hx]
      have := val_key r hr
      refine K_mono ?_ _
      simp only [Bool.false_eq_true, if_false]
      omega
    · rw [h1.infx fx]; exact Int.le_refl _
  · have : ¬ (-9218868437227405312 < key r ∧ key r < 9218868437227405312) := fun h => fr ((fin_iff r h1.ny).2 h)
    have e1 := h1.infy fr
    simp at e1
    omega
theorem sub_mono (ha : double.sub x r = some a) (hb : double.sub x s = some b) (hr : 0 ≤ key r) (hrs : key r ≤ key s) : key b ≤ key a := by
  have h1 := sub_ok ha
  have h2 := sub_ok hb
  have k1 := key_bd a h1.nz
  have k2 := key_bd b h2.nz
  by_cases fs : finB s = true
  · have k3 := (fin_iff s h2.ny).1 fs
    have fr : finB r = true := (fin_iff r h1.ny).2 (by omega)
    by_cases fx : finB x = true
    · rw [h1.fin fx fr, h2.fin fx fs]
      have := val_le hrs
      refine K_mono ?_ _
      simp only [if_true]
      omega
    · rw [h1.infx fx, h2.infx fx]; exact Int.le_refl _
  · have : ¬ (-9218868437227405312 < key s ∧ key s < 9218868437227405312) := fun h => fs ((fin_iff s h2.ny).2 h)
    have e2 := h2.infy fs
    simp at e2
    omega
theorem add_mono (ha : double.add x r = some a) (hb : double.add x s = some b) (hr : 0 ≤ key r) (hrs : key r ≤ key s) : key a ≤ key b := by
  have h1 := add_ok ha
  have h2 := add_ok hb
  have k1 := key_bd a h1.nz
  have k2 := key_bd b h2.nz
  by_cases fs : finB s = true
  · have k3 := (fin_iff s h2.ny).1 fs
    have fr : finB r = true := (fin_iff r h1.ny).2 (by omega)
    by_cases fx : finB x = true
    · rw [h1.fin fx fr, h2.fin fx fs]
      have := val_le hrs
      refine K_mono ?_ _
      simp only [Bool.false_eq_true, if_false]
      omega
    · rw [h1.infx fx, h2.infx fx]; exact Int.le_refl _
  · have : ¬ (-9218868437227405312 < key s ∧ key s < 9218868437227405312) := fun h => fs ((fin_iff s h2.ny).2 h)
    have e2 := h2.infy fs
    simp at e2
    omega
end
/-- The difference of borders that rise is one. -/
theorem sub_some {x y : Nat} (h : fltB x y = true) : ∃ z, double.sub y x = some z := by
  unfold fltB at h
  simp at h
  obtain ⟨⟨nx, ny⟩, hk⟩ := h
  by_cases fx : finB x = true
  · by_cases fy : finB y = true
    · obtain ⟨z, h, _⟩ := sub_fin y x fy fx
      exact ⟨z, h⟩
    · unfold finB at fx
      obtain ⟨m, a, e, -⟩ := read_fin x (of_decide_eq_true fx)
      unfold Format.sub
      rw [e, read_inf y (inf_rg y ny fy)]
      exact ⟨_, rfl⟩
  · by_cases fy : finB y = true
    · unfold finB at fy
      obtain ⟨m, a, e, -⟩ := read_fin y (of_decide_eq_true fy)
      unfold Format.sub
      rw [e, read_inf x (inf_rg x nx fx)]
      exact ⟨_, rfl⟩
    · unfold Format.sub
      rw [read_inf x (inf_rg x nx fx), read_inf y (inf_rg y ny fy)]
      have e1 := key_inf x nx fx
      have e2 := key_inf y ny fy
      have hs : NEG y = !NEG x := by
        cases h1 : NEG x <;> cases h2 : NEG y <;> rw [h1] at e1 <;> rw [h2] at e2 <;> simp [sg] at e1 e2 <;> first | rfl | omega
      unfold Datum.opposite Datum.sum
      simp [hs]
theorem flt_zero (r : Nat) (h : nanB r = false) : fltB r 0 = decide (key r < 0) := by
  unfold fltB
  rw [h]
  have e1 : nanB 0 = false := by decide
  have e2 : key 0 = 0 := by decide
  rw [e1, e2]
  rfl
end Go.Proofs.Ytkkapajpgfjomaa.Flt
