/- Trees by numbers: what the executor keeps its temporaries and its blocks in. -/
import Derived.KernelRfl
namespace Go.RX

inductive Tr (α : Type) where
  | e
  | n (v : Option α) (l r : Tr α)

section
variable {α : Type}

/-- The half of a number above 0: the number's place below its child. -/
noncomputable def half (i : Nat) : Nat := Nat.div (Nat.sub i 1) 2
noncomputable def odd (i : Nat) : Bool := Nat.beq (Nat.mod i 2) 1

noncomputable def Tr.get (t : Tr α) : Nat → Option α :=
  Tr.rec (motive := fun _ => Nat → Option α) (fun _ => none)
    (fun v _ _ gl gr i => cond (Nat.beq i 0) v (cond (odd i) (gl (half i)) (gr (half i)))) t

/-- The tree with one value. -/
noncomputable def Tr.one (fuel : Nat) : Nat → α → Tr α :=
  Nat.rec (motive := fun _ => Nat → α → Tr α) (fun _ v => .n (some v) .e .e)
    (fun _ ih i v => cond (Nat.beq i 0) (.n (some v) .e .e) (cond (odd i) (.n none (ih (half i) v) .e) (.n none .e (ih (half i) v)))) fuel

noncomputable def Tr.set (t : Tr α) : Nat → α → Tr α :=
  Tr.rec (motive := fun _ => Nat → α → Tr α) (fun i v => Tr.one i i v)
    (fun o l r sl sr i v => cond (Nat.beq i 0) (.n (some v) l r) (cond (odd i) (.n o (sl (half i) v) r) (.n o l (sr (half i) v)))) t

theorem half_le (i : Nat) : half i ≤ i - 1 := Nat.div_le_self _ _
theorem odd_iff (i : Nat) : odd i = true ↔ i % 2 = 1 := by unfold odd; rw [Nat.beq_eq]; exact Iff.rfl
theorem half_inj {i j : Nat} (hi : i ≠ 0) (hj : j ≠ 0) (ho : odd i = odd j) (h : half i = half j) : i = j := by
  have h1 : i % 2 = 1 ↔ j % 2 = 1 := by rw [← odd_iff, ← odd_iff, ho]
  have h2 : (i - 1) / 2 = (j - 1) / 2 := h
  omega
theorem beq0 (i : Nat) : Nat.beq i 0 = decide (i = 0) := by
  rw [Bool.eq_iff_iff, Nat.beq_eq, decide_eq_true_iff]

theorem Tr.get_e (i : Nat) : (Tr.e : Tr α).get i = none := rfl
theorem Tr.get_n (v : Option α) (l r : Tr α) (i : Nat) : (Tr.n v l r).get i = if i = 0 then v else if odd i = true then l.get (half i) else r.get (half i) := by
  show cond (Nat.beq i 0) v (cond (odd i) (l.get (half i)) (r.get (half i))) = _
  rw [beq0]
  by_cases h : i = 0
  · simp [h]
  · cases ho : odd i <;> simp [h]

theorem Tr.get_one (v : α) : ∀ (fuel i j : Nat), i ≤ fuel → (Tr.one fuel i v).get j = if i = j then some v else none := by
  intro fuel
  induction fuel with
  | zero =>
    intro i j hi
    have : i = 0 := by omega
    subst this
    show (Tr.n (some v) .e .e).get j = _
    rw [Tr.get_n]
    by_cases h : j = 0
    · simp [h]
    · simp [h, Tr.get_e, Ne.symm h]
  | succ f ih =>
    intro i j hi
    show (cond (Nat.beq i 0) (Tr.n (some v) .e .e) (cond (odd i) (.n none (Tr.one f (half i) v) .e) (.n none .e (Tr.one f (half i) v)))).get j = _
    rw [beq0]
    by_cases h0 : i = 0
    · subst h0
      simp only [decide_true, cond_true]
      rw [Tr.get_n]
      by_cases h : j = 0
      · simp [h]
      · simp [h, Tr.get_e, Ne.symm h]
    · have hh := half_le i
      simp only [h0, decide_false, cond_false]
      cases ho : odd i with
      | true =>
        rw [cond_true, Tr.get_n]
        by_cases h : j = 0
        · subst h; simp [h0]
        · rw [if_neg h, ih _ _ (by omega), Tr.get_e]
          cases hj : odd j with
          | true =>
            rw [if_pos rfl]
            by_cases e : half i = half j
            · rw [if_pos e, if_pos (half_inj h0 h (ho.trans hj.symm) e)]
            · rw [if_neg e, if_neg (fun h => e (by rw [h]))]
          | false =>
            rw [if_neg Bool.false_ne_true, if_neg (fun e => by rw [e, hj] at ho; cases ho)]
      | false =>
        rw [cond_false, Tr.get_n]
        by_cases h : j = 0
        · subst h; simp [h0]
        · rw [if_neg h, ih _ _ (by omega), Tr.get_e]
          cases hj : odd j with
          | true => rw [if_pos rfl, if_neg (fun e => by rw [e, hj] at ho; cases ho)]
          | false =>
            rw [if_neg Bool.false_ne_true]
            by_cases e : half i = half j
            · rw [if_pos e, if_pos (half_inj h0 h (ho.trans hj.symm) e)]
            · rw [if_neg e, if_neg (fun h => e (by rw [h]))]

theorem Tr.get_set (v : α) (t : Tr α) : ∀ (i j : Nat), (t.set i v).get j = if i = j then some v else t.get j := by
  induction t with
  | e => intro i j; exact Tr.get_one v i i j (Nat.le_refl _)
  | n o l r ihl ihr =>
    intro i j
    show (cond (Nat.beq i 0) (Tr.n (some v) l r) (cond (odd i) (.n o (l.set (half i) v) r) (.n o l (r.set (half i) v)))).get j = _
    rw [beq0]
    by_cases h0 : i = 0
    · subst h0
      simp only [decide_true, cond_true]
      rw [Tr.get_n, Tr.get_n]
      by_cases h : j = 0
      · simp [h]
      · simp [h, Ne.symm h]
    · simp only [h0, decide_false, cond_false]
      cases ho : odd i with
      | true =>
        rw [cond_true, Tr.get_n, Tr.get_n]
        by_cases h : j = 0
        · subst h; simp [h0]
        · rw [if_neg h, if_neg h, ihl]
          cases hj : odd j with
          | true =>
            rw [if_pos rfl, if_pos rfl]
            by_cases e : half i = half j
            · rw [if_pos e, if_pos (half_inj h0 h (ho.trans hj.symm) e)]
            · rw [if_neg e, if_neg (fun h => e (by rw [h]))]
          | false =>
            rw [if_neg Bool.false_ne_true, if_neg Bool.false_ne_true, if_neg (fun e => by rw [e, hj] at ho; cases ho)]
      | false =>
        rw [cond_false, Tr.get_n, Tr.get_n]
        by_cases h : j = 0
        · subst h; simp [h0]
        · rw [if_neg h, if_neg h, ihr]
          cases hj : odd j with
          | true => rw [if_pos rfl, if_pos rfl, if_neg (fun e => by rw [e, hj] at ho; cases ho)]
          | false =>
            rw [if_neg Bool.false_ne_true, if_neg Bool.false_ne_true]
            by_cases e : half i = half j
            · rw [if_pos e, if_pos (half_inj h0 h (ho.trans hj.symm) e)]
            · rw [if_neg e, if_neg (fun h => e (by rw [h]))]
end
end Go.RX
