/- Regions that draw their order: whatever order is drawn, the outcome is the executor's. First the laws on orders, then the memory that is kept. -/
import Derived.Test.YtnidbincddpaaaaX10
import Derived.OrdersHeld
namespace Go.RX
open Go Go.Proofs.Ytnidbincddpaaaa Go.RowKit

/-- What ends in a panic looks at no temporaries but those of K. -/
def PanicOK (K : List Tmp) (Q : Exit → Act → World → Prop) : Prop := ∀ c (a a' : Act) w, a'.defers = a.defers → (∀ t ∈ K, a'.tmps.getD t undef = a.tmps.getD t undef) → Q (.panic c) a w → Q (.panic c) a' w

section
variable {P : Program} {ops : Array Oper} {Q : Exit → Act → World → Prop} {S : World → Prop} {late : Nat → Bool}

/-- Whatever order is picked; S holds behind each operation until a late one comes. -/
def wpAnyL (P : Program) (ops : Array Oper) (Q : Exit → Act → World → Prop) (S : World → Prop) (late : Nat → Bool) : Nat → Array Bool → Act → World → Prop
  | 0, listed, a, w => Region.ready .any ops listed = [] ∧ Q .normal a w
  | fuel + 1, listed, a, w =>
    (Region.ready .any ops listed = [] → Q .normal a w) ∧
    ∀ i ∈ Region.ready .any ops listed, wpOp P ops Q i (fun a' w' => if late i = true then wpAny P .any ops Q fuel (listed.setIfInBounds i true) a' w' else S w' ∧ wpAnyL P ops Q S late fuel (listed.setIfInBounds i true) a' w') a w

theorem wpAny_of_L : ∀ (fuel : Nat) (listed : Array Bool) (a : Act) (w : World), wpAnyL P ops Q S late fuel listed a w → wpAny P .any ops Q fuel listed a w
  | 0, _, _, _, h => h
  | fuel + 1, _, _, _, h => ⟨h.1, fun i hi => wpOp_mono (fun a' w' h' => by
      split at h'
      · exact h'
      · exact wpAny_of_L fuel _ a' w' h'.2) (h.2 i hi)⟩

theorem wpAnyL_mono {S2 : World → Prop} (hs : ∀ w, S w → S2 w) : ∀ (fuel : Nat) (listed : Array Bool) (a : Act) (w : World), wpAnyL P ops Q S late fuel listed a w → wpAnyL P ops Q S2 late fuel listed a w
  | 0, _, _, _, h => h
  | fuel + 1, _, _, _, h => ⟨h.1, fun i hi => wpOp_mono (fun a' w' h' => by
      split at h'
      · rename_i hl; rw [if_pos hl]; exact h'
      · rename_i hl; rw [if_neg hl]; exact ⟨hs _ h'.1, wpAnyL_mono hs fuel _ a' w' h'.2⟩) (h.2 i hi)⟩

theorem wpAnyL_first {i : Nat} {oi : Oper} {v : Value} (hi : ops[i]? = some oi) (hsel : Region.noSelect ops = true)
    (hQ : ∀ c a w, Q (.panic c) (a.put oi.dst v) w → Q (.panic c) a w) :
    ∀ (fuel : Nat) (listed : Array Bool) (a : Act) (w : World),
      (∀ j oj, ops[j]? = some oj → j ≠ i → listed.getD j true = false → (∀ e ∈ oj.after, Region.binds .any e = true → e.on ≠ i) → oi.apart ops oj = true) →
      i ∈ Region.ready .any ops listed → YieldsIf P ops S oi v a → S w →
      (Yields P ops oi v a ∨ ∀ j oj, ops[j]? = some oj → late j = true → ∃ e ∈ oj.after, Region.binds .any e = true ∧ e.on = i) →
      late i = false →
      wpAnyL P ops Q S late fuel (listed.setIfInBounds i true) (a.put oi.dst v) w → wpAnyL P ops Q S late (fuel + 1) listed a w := by
  intro fuel
  induction fuel with
  | zero =>
    intro listed a w _ hr hy hS hpl hli H
    refine ⟨fun h => (by rw [h] at hr; cases hr), fun j hj => ?_⟩
    by_cases hji : j = i
    · subst hji
      refine hy.wpOp hi hS ?_
      rw [if_neg (by simp [hli])]
      exact ⟨hS, H⟩
    · have := ready_mono hj hji
      rw [H.1] at this
      cases this
  | succ fuel ih =>
    intro listed a w hfree hr hy hS hpl hli H
    refine ⟨fun h => (by rw [h] at hr; cases hr), fun j hj => ?_⟩
    by_cases hji : j = i
    · subst hji
      refine hy.wpOp hi hS ?_
      rw [if_neg (by simp [hli])]
      exact ⟨hS, H⟩
    · have h1 := H.2 j (ready_mono hj hji)
      obtain ⟨hjun, oj, hoj, hall⟩ := mem_ready.1 hj
      have hnot : ∀ e ∈ oj.after, Region.binds .any e = true → e.on ≠ i := fun e he hb heq => by
        have h1 := hall e he hb
        have h0 := (mem_ready.1 hr).1
        rw [heq] at h1
        rcases Nat.lt_or_ge i listed.size with h' | h'
        · simp [h'] at h0 h1; rw [h0] at h1; cases h1
        · simp [Array.getElem?_eq_none h'] at h1
      have hap := hfree j oj hoj hji hjun hnot
      have hfree' : ∀ k ok, ops[k]? = some ok → k ≠ i → (listed.setIfInBounds j true).getD k true = false →
          (∀ e ∈ ok.after, Region.binds .any e = true → e.on ≠ i) → oi.apart ops ok = true := fun k ok hk hki hun hno => by
        refine hfree k ok hk hki ?_ hno
        by_cases hjk : j = k
        · subst hjk; exact hjun
        · rw [getD_set_ne true hjk] at hun; exact hun
      by_cases hlj : late j = true
      · -- a late one ahead of i: then i reads nothing
        simp only [if_pos hlj] at h1 ⊢
        rcases hpl with hyy | hpl
        · have h2 := wpOp_put hoj hap (fun cs b => Region.noSelect_spec hsel i oi cs b hi) (fun cs b => Region.noSelect_spec hsel j oj cs b hoj) hQ hyy h1
          refine wpOp_mono (fun a' w' h3 => ?_) h2
          refine wpAny_first hi (Region.noSelect_spec hsel) hQ fuel (listed.setIfInBounds j true) a' w' hfree' (ready_mono hr (Ne.symm hji)) h3.1 ?_
          rw [Array.setIfInBounds_comm _ _ hji]
          exact h3.2
        · obtain ⟨e, he, hb, heq⟩ := hpl j oj hoj hlj
          exact absurd heq (hnot e he hb)
      · simp only [if_neg hlj] at h1 ⊢
        rcases hpl with hyy | hpl
        · have h2 := wpOp_put hoj hap (fun cs b => Region.noSelect_spec hsel i oi cs b hi) (fun cs b => Region.noSelect_spec hsel j oj cs b hoj) hQ hyy h1
          refine wpOp_mono (fun a' w' h3 => ⟨h3.2.1, ih (listed.setIfInBounds j true) a' w' hfree' (ready_mono hr (Ne.symm hji)) h3.1.yieldsIf h3.2.1 (.inl h3.1) hli ?_⟩) h2
          rw [Array.setIfInBounds_comm _ _ hji]
          exact h3.2.2
        · have h2 := wpOp_putIf hoj hap (fun cs b => Region.noSelect_spec hsel i oi cs b hi) (fun cs b => Region.noSelect_spec hsel j oj cs b hoj) hQ hy h1
          refine wpOp_mono (fun a' w' h3 => ⟨h3.2.1, ih (listed.setIfInBounds j true) a' w' hfree' (ready_mono hr (Ne.symm hji)) h3.1 h3.2.1 (.inr hpl) hli ?_⟩) h2
          rw [Array.setIfInBounds_comm _ _ hji]
          exact h3.2.2
end

/-! ### Blocks that are kept -/
theorem frz_get : ∀ (H : AH) (n i : Nat) (F : List Nat), (frz n F H)[i]? = (H[i]?).map fun b => if F.contains (n + i) then { b with wr := false } else b := by
  intro H
  induction H with
  | nil => intro n i F; simp [frz]
  | cons b r ih =>
    intro n i F
    cases i with
    | zero => simp only [frz, List.getElem?_cons_zero, Option.map_some, Nat.add_zero]; cases F.contains n <;> rfl
    | succ i =>
      simp only [frz, List.getElem?_cons_succ]
      rw [ih (n + 1) i F, show n + 1 + i = n + (i + 1) by omega]
theorem frz_len : ∀ (H : AH) (n : Nat) (F : List Nat), (frz n F H).length = H.length := by
  intro H
  induction H with
  | nil => intro n F; rfl
  | cons b r ih => intro n F; simp [frz, ih]
theorem thaw_get : ∀ (H0 H : AH) (n i : Nat) (F : List Nat), H0.length ≤ H.length → (thaw n F H0 H)[i]? = if i < H0.length ∧ F.contains (n + i) = true then H0[i]? else H[i]? := by
  intro H0
  induction H0 with
  | nil => intro H n i F _; simp [thaw]
  | cons b0 r0 ih =>
    intro H n i F hl
    cases H with
    | nil => simp at hl
    | cons b r =>
      cases i with
      | zero =>
        simp only [thaw, List.getElem?_cons_zero, Nat.add_zero, List.length_cons, Nat.zero_lt_succ, true_and]
        cases F.contains n <;> rfl
      | succ i =>
        simp only [thaw, List.getElem?_cons_succ, List.length_cons]
        rw [ih r (n + 1) i F (by simpa using hl), show n + 1 + i = n + (i + 1) by omega]
        simp only [Nat.add_lt_add_iff_right]
theorem thaw_len : ∀ (H0 H : AH) (n : Nat) (F : List Nat), (thaw n F H0 H).length = H.length := by
  intro H0
  induction H0 with
  | nil => intro H n F; simp [thaw]
  | cons b0 r0 ih =>
    intro H n F
    cases H with
    | nil => simp [thaw]
    | cons b r => simp [thaw, ih]
end Go.RX
