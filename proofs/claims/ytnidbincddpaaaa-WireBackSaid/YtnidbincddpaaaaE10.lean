/- Regions that draw their order: whatever order is drawn, the outcome is the executor's. -/
import Derived.Test.YtnidbincddpaaaaE9
import Derived.OrdersHeld
namespace Go.RX
open Go Go.RowKit

/-- What ends in a panic looks at no temporaries but those of K. -/
def PanicOK (K : List Tmp) (Q : Exit → Act → World → Prop) : Prop := ∀ c (a a' : Act) w, a'.defers = a.defers → (∀ t ∈ K, a'.tmps.getD t undef = a.tmps.getD t undef) → Q (.panic c) a w → Q (.panic c) a' w

section
variable {P : Program} {ops : Array Oper} {Q : Exit → Act → World → Prop} {S : World → Prop} {late : Nat → Bool}

/-- Whatever order is picked; S holds behind each operation until a late one comes. -/
def wpAnyL (P : Program) (ops : Array Oper) (Q : Exit → Act → World → Prop) (S : World → Prop) (late : Nat → Bool) : Nat → Array Bool → Act → World → Prop
  | 0, listed, a, w => Region.ready .any ops listed = [] ∧ Q .normal a w
  | fuel + 1, listed, a, w =>
    (Region.ready .any ops listed = [] → Q .normal a w) ∧
    ∀ i ∈ Region.ready .any ops listed, wpOp P ops Q i (fun a' w' => if late i = true then wpAny P .any ops Q fuel (listed.setIfInBounds i true) a' w' else S w' ∧ wpAnyL P ops Q S late fuel (listed.setIfInBounds i true) a' w') a w

theorem wpAny_of_L : ∀ (fuel : Nat) (listed : Array Bool) (a : Act) (w : World), wpAnyL P ops Q S late fuel listed a w → wpAny P .any ops Q fuel listed a w
  | 0, _, _, _, h => h
  | fuel + 1, _, _, _, h => ⟨h.1, fun i hi => wpOp_mono (fun a' w' h' => by
      split at h'
      · exact h'
      · exact wpAny_of_L fuel _ a' w' h'.2) (h.2 i hi)⟩

theorem wpAnyL_mono {S2 : World → Prop} (hs : ∀ w, S w → S2 w) : ∀ (fuel : Nat) (listed : Array Bool) (a : Act) (w : World), wpAnyL P ops Q S late fuel listed a w → wpAnyL P ops Q S2 late fuel listed a w
  | 0, _, _, _, h => h
  | fuel + 1, _, _, _, h => ⟨h.1, fun i hi => wpOp_mono (fun a' w' h' => by
      split at h'
      · rename_i hl; rw [if_pos hl]; exact h'
      · rename_i hl; rw [if_neg hl]; exact ⟨hs _ h'.1, wpAnyL_mono hs fuel _ a' w' h'.2⟩) (h.2 i hi)⟩

theorem wpAnyL_first {i : Nat} {oi : Oper} {v : Value} (hi : ops[i]? = some oi) (hsel : Region.noSelect ops = true)
    (hQ : ∀ c a w, Q (.panic c) (a.put oi.dst v) w → Q (.panic c) a w) :
    ∀ (fuel : Nat) (listed : Array Bool) (a : Act) (w : World),
      (∀ j oj, ops[j]? = some oj → j ≠ i → listed.getD j true = false → (∀ e ∈ oj.after, Region.binds .any e = true → e.on ≠ i) → oi.apart ops oj = true) →
      i ∈ Region.ready .any ops listed → YieldsIf P ops S oi v a → S w →
      (Yields P ops oi v a ∨ ∀ j oj, ops[j]? = some oj → late j = true → ∃ e ∈ oj.after, Region.binds .any e = true ∧ e.on = i) →
      late i = false →
      wpAnyL P ops Q S late fuel (listed.setIfInBounds i true) (a.put oi.dst v) w → wpAnyL P ops Q S late (fuel + 1) listed a w := by
  intro fuel
  induction fuel with
  | zero =>
    intro listed a w _ hr hy hS hpl hli H
    refine ⟨fun h => (by rw [h] at hr; cases hr), fun j hj => ?_⟩
    by_cases hji : j = i
    · subst hji
      refine hy.wpOp hi hS ?_
      rw [if_neg (by simp [hli])]
      exact ⟨hS, H⟩
    · have := ready_mono hj hji
      rw [H.1] at this
      cases this
  | succ fuel ih =>
    intro listed a w hfree hr hy hS hpl hli H
    refine ⟨fun h => (by rw [h] at hr; cases hr), fun j hj => ?_⟩
    by_cases hji : j = i
    · subst hji
      refine hy.wpOp hi hS ?_
      rw [if_neg (by simp [hli])]
      exact ⟨hS, H⟩
    · have h1 := H.2 j (ready_mono hj hji)
      obtain ⟨hjun, oj, hoj, hall⟩ := mem_ready.1 hj
      have hnot : ∀ e ∈ oj.after, Region.binds .any e = true → e.on ≠ i := fun e he hb heq => by
        have h1 := hall e he hb
        have h0 := (mem_ready.1 hr).1
        rw [heq] at h1
        rcases Nat.lt_or_ge i listed.size with h' | h'
        · simp [h'] at h0 h1; rw [h0] at h1; cases h1
        · simp [Array.getElem?_eq_none h'] at h1
      have hap := hfree j oj hoj hji hjun hnot
      have hfree' : ∀ k ok, ops[k]? = some ok → k ≠ i → (listed.setIfInBounds j true).getD k true = false →
          (∀ e ∈ ok.after, Region.binds .any e = true → e.on ≠ i) → oi.apart ops ok = true := fun k ok hk hki hun hno => by
        refine hfree k ok hk hki ?_ hno
        by_cases hjk : j = k
        · subst hjk; exact hjun
        · rw [getD_set_ne true hjk] at hun; exact hun
      by_cases hlj : late j = true
      · -- a late one ahead of i: then i reads nothing
        simp only [if_pos hlj] at h1 ⊢
        rcases hpl with hyy | hpl
        · have h2 := wpOp_put hoj hap (fun cs b => Region.noSelect_spec hsel i oi cs b hi) (fun cs b => Region.noSelect_spec hsel j oj cs b hoj) hQ hyy h1
          refine wpOp_mono (fun a' w' h3 => ?_) h2
          refine wpAny_first hi (Region.noSelect_spec hsel) hQ fuel (listed.setIfInBounds j true) a' w' hfree' (ready_mono hr (Ne.symm hji)) h3.1 ?_
          rw [Array.setIfInBounds_comm _ _ hji]
          exact h3.2
        · obtain ⟨e, he, hb, heq⟩ := hpl j oj hoj hlj
          exact absurd heq (hnot e he hb)
      · simp only [if_neg hlj] at h1 ⊢
        rcases hpl with hyy | hpl
        · have h2 := wpOp_put hoj hap (fun cs b => Region.noSelect_spec hsel i oi cs b hi) (fun cs b => Region.noSelect_spec hsel j oj cs b hoj) hQ hyy h1
          refine wpOp_mono (fun a' w' h3 => ⟨h3.2.1, ih (listed.setIfInBounds j true) a' w' hfree' (ready_mono hr (Ne.symm hji)) h3.1.yieldsIf h3.2.1 (.inl h3.1) hli ?_⟩) h2
          rw [Array.setIfInBounds_comm _ _ hji]
          exact h3.2.2
        · have h2 := wpOp_putIf hoj hap (fun cs b => Region.noSelect_spec hsel i oi cs b hi) (fun cs b => Region.noSelect_spec hsel j oj cs b hoj) hQ hy h1
          refine wpOp_mono (fun a' w' h3 => ⟨h3.2.1, ih (listed.setIfInBounds j true) a' w' hfree' (ready_mono hr (Ne.symm hji)) h3.1 h3.2.1 (.inr hpl) hli ?_⟩) h2
          rw [Array.setIfInBounds_comm _ _ hji]
          exact h3.2.2
end

/-! ### Blocks that are kept -/

def Blk.held (b : Blk) : Blk := ⟨b.cells, b.ty, false, b.live, b.pl, none⟩
theorem frz_cons (i : Nat) (F : List Nat) (H : AH) : frz (i :: F) H = match H.get i with | some ⟨c, t, _, l, p, none⟩ => (frz F H).set i ⟨c, t, false, l, p, none⟩ | _ => frz F H := rfl
theorem thaw_cons (i : Nat) (F : List Nat) (H0 H : AH) : thaw (i :: F) H0 H = match H0.get i with | some ⟨c, t, w, l, p, none⟩ => (thaw F H0 H).set i ⟨c, t, w, l, p, none⟩ | _ => thaw F H0 H := rfl
theorem frz_size (F : List Nat) (H : AH) : (frz F H).size = H.size := by
  induction F with
  | nil => rfl
  | cons i F ih =>
    rw [frz_cons]
    split <;> simp [ih]
theorem frz_get (F : List Nat) (H : AH) (j : Nat) : (frz F H).get j = match H.get j with
    | some b => if j ∈ F ∧ b.mp = none then some b.held else some b
    | none => none := by
  induction F with
  | nil => show H.get j = _; cases H.get j <;> simp
  | cons i F ih =>
    rw [frz_cons]
    by_cases hij : i = j
    · subst hij
      split
      · rename_i c t w l p hb
        rw [AH.get_set, if_pos ⟨rfl, by rw [frz_size]; exact AH.get_lt hb⟩, hb]
        simp [Blk.held]
      · rename_i hn
        rw [ih]
        cases hb : H.get i with
        | none => rfl
        | some b =>
          have hm : b.mp ≠ none := by
            obtain ⟨c, t, w, l, p, m⟩ := b
            rintro rfl
            exact hn _ _ _ _ _ hb
          simp [hm]
    · have hm : (j ∈ i :: F) = (j ∈ F) := by simp [Ne.symm hij]
      simp only [hm]
      rw [← ih]
      split
      · rw [AH.get_set, if_neg (fun h => hij h.1)]
      · rfl
theorem thaw_size (F : List Nat) (H0 H : AH) : (thaw F H0 H).size = H.size := by
  induction F with
  | nil => rfl
  | cons i F ih =>
    rw [thaw_cons]
    split <;> simp [ih]
theorem thaw_get (F : List Nat) (H0 H : AH) (hle : H0.size ≤ H.size) (j : Nat) : (thaw F H0 H).get j = match H0.get j with
    | some b => if j ∈ F ∧ b.mp = none then some b else H.get j
    | none => H.get j := by
  induction F with
  | nil => show H.get j = _; cases H0.get j <;> simp
  | cons i F ih =>
    rw [thaw_cons]
    by_cases hij : i = j
    · subst hij
      split
      · rename_i c t w l p hb
        have := AH.get_lt hb
        rw [AH.get_set, if_pos ⟨rfl, by rw [thaw_size]; omega⟩, hb]
        simp
      · rename_i hn
        rw [ih]
        cases hb : H0.get i with
        | none => rfl
        | some b =>
          have hm : b.mp ≠ none := by
            obtain ⟨c, t, w, l, p, m⟩ := b
            rintro rfl
            exact hn _ _ _ _ _ hb
          simp [hm]
    · have hm : (j ∈ i :: F) = (j ∈ F) := by simp [Ne.symm hij]
      simp only [hm]
      rw [← ih]
      split
      · rw [AH.get_set, if_neg (fun h => hij h.1)]
      · rfl

section
variable {P : Program} {W0 w : World} {S : Nat → Prop} {σ : Nat → Loc} {H : AH} {N : Nat} {D : List Deferred}

/-- The cells of the blocks of F are as the executor knows them. -/
def Facts (F : List Nat) (H : AH) (σ : Nat → Loc) (w : World) : Prop := ∀ i ∈ F, Known σ H w i
theorem Rel.facts (h : Rel P W0 S σ H w) (F : List Nat) : Facts F H σ w := fun i _ => h.known i
theorem Facts.mono {F F' : List Nat} (h : Facts F H σ w) (hs : ∀ i ∈ F', i ∈ F) : Facts F' H σ w := fun i hi => h i (hs i hi)

theorem light_yields {F : List Nat} {tm : Tm} {a : Act} {w' : World} (hf : Facts F H σ w') (hsc : Scoped H) (hsp : Spots σ H) (hA : AR N D σ tm H.size a) (o : Oper) (hl : light P o.op = true)
    (hF : ∀ i ∈ rdIds tm o.op, i ∈ F) {v : Value} {H' : AH} (h : aop P tm H o.op = some (.val v H')) : (execOp a.eval o).run P w' = .ok (.value (cV σ v)) w' ∧ H' = H ∧ scV H.size v = true := by
  obtain ⟨u, hu, hr, hs⟩ := aop_light (P := P) hsc hsp hA o rfl hl (fun i hi => hf i (hF i hi)) h
  injection hu with hu1 hu2
  subst hu1 hu2
  exact ⟨hr, rfl, hs⟩
theorem light_out {tm : Tm} {a : Act} (hR : Rel P W0 S σ H w) (hA : AR N D σ tm H.size a) {o : Oper} (hl : light P o.op = true) {kv : KV} {r : Out × AH} {out : AOut} (h : aop P tm H o.op = some out) (ht : told kv (fun _ _ => none) (fun _ _ _ => none) out = some r) :
    ∃ v, out = .val v H ∧ kv v H = some r ∧ scV H.size v = true := by
  obtain ⟨u, hu, _, hs⟩ := aop_light (P := P) hR.sc hR.sp hA o rfl hl (fun i _ => hR.known i) h
  subst hu
  exact ⟨u, rfl, ht, hs⟩

def Own (F : List Nat) (H : AH) (σ : Nat → Loc) (k : Nat) : Prop := ∃ (i : Nat) (b : Blk), H.get i = some b ∧ b.act = true ∧ b.wr = true ∧ ¬ (i ∈ F ∧ b.mp = none) ∧ (σ i).blk = k

theorem frz_key {F : List Nat} {i : Nat} {b : Blk} (h : (frz F H).get i = some b) : (i ∈ F ∧ ∃ c, H.get i = some c ∧ c.mp = none ∧ b = c.held) ∨ (¬ (i ∈ F ∧ b.mp = none) ∧ H.get i = some b) := by
  rw [frz_get] at h
  split at h
  · rename_i c hc
    split at h
    · rename_i hi
      injection h with h
      exact .inl ⟨hi.1, c, hc, hi.2, h.symm⟩
    · rename_i hi
      injection h with h; subst h
      exact .inr ⟨hi, hc⟩
  · cases h
theorem act_held {c : Blk} (h : c.held.act = true) : c.live = true := by simpa [Blk.act, Blk.held] using h

theorem Rel.freeze (h : Rel P W0 S σ H w) (F : List Nat) : Rel P w (Own F H σ) σ (frz F H) w := by
  refine ⟨Fr.refl _ _, ?_, ?_, ?_, ?_, ?_, ?_, ?_, ?_, ?_⟩
  · intro i b hi
    rw [frz_size]
    rcases frz_key hi with ⟨_, c, hc, _, rfl⟩ | ⟨_, hc⟩
    · exact h.sc i c hc
    · exact h.sc i b hc
  · intro i b hi hp
    rcases frz_key hi with ⟨_, c, hc, _, rfl⟩ | ⟨_, hc⟩
    · exact h.pl i c hc hp
    · exact h.pl i b hc hp
  · intro i b hi ha
    rcases frz_key hi with ⟨_, c, hc, _, rfl⟩ | ⟨_, hc⟩
    · exact h.lt i c hc (act_live (act_held ha))
    · exact h.lt i b hc ha
  · intro i b hi hl
    rcases frz_key hi with ⟨_, c, hc, _, rfl⟩ | ⟨_, hc⟩
    · exact h.sp i c hc hl
    · exact h.sp i b hc hl
  · intro i b hi hl _ j v hj
    rcases frz_key hi with ⟨_, c, hc, _, rfl⟩ | ⟨_, hc⟩
    · exact h.cell hc hl hj
    · exact h.cell hc hl hj
  · intro i b hi hl hw
    rcases frz_key hi with ⟨_, c, hc, _, rfl⟩ | ⟨hF, hc⟩
    · cases hw
    · exact ⟨.inl ⟨i, b, hc, act_live hl, hw, hF, rfl⟩, (h.wb i b hc hl hw).2⟩
  · intro i b es hi hm
    rcases frz_key hi with ⟨_, c, hc, _, rfl⟩ | ⟨hF, hc⟩
    · cases hm
    · obtain ⟨g1, g2, g3, g4⟩ := h.mp i b es hc hm
      exact ⟨g1, .inl ⟨i, b, hc, act_mp hm, g1, hF, rfl⟩, by rw [frz_size]; exact g3, g4⟩
  · intro i b hi hl
    rcases frz_key hi with ⟨_, c, hc, _, rfl⟩ | ⟨_, hc⟩
    · rfl
    · exact h.lm i b hc hl
  · intro i j bi bj hi hj hai haj hw hne
    rcases frz_key hi with ⟨_, c, hc, _, rfl⟩ | ⟨_, hc⟩
    · cases hw
    · rcases frz_key hj with ⟨_, d, hd, _, rfl⟩ | ⟨_, hd⟩
      · exact h.inj i j bi d hc hd hai (act_live (act_held haj)) hw hne
      · exact h.inj i j bi bj hc hd hai haj hw hne

theorem Rel.thaw {w' : World} {σ' : Nat → Loc} {H' : AH} {F : List Nat} (h : Rel P W0 S σ H w) (h' : Rel P w (Own F H σ) σ' H' w') (hk : Keep (frz F H) H') (he : Ext H.size σ σ') :
    Rel P W0 S σ' (RX.thaw F H H') w' ∧ Keep H (RX.thaw F H H') := by
  have hlen : H.size ≤ H'.size := by have := hk.len; rwa [frz_size] at this
  have own : ∀ k, Own F H σ k → S k ∨ W0.heap.size ≤ k := by
    rintro k ⟨i, b, hi, ha, hw, _, rfl⟩
    simp only [Blk.act, Bool.or_eq_true, Option.isSome_iff_exists] at ha
    rcases ha with ha | ⟨es, ha⟩
    · exact (h.wb i b hi ha hw).1
    · exact (h.mp i b es hi ha).2.1
  -- a block of the outcome: kept, or as the call left it
  have key : ∀ (i : Nat) (b : Blk), (RX.thaw F H H').get i = some b → (i ∈ F ∧ H.get i = some b ∧ b.mp = none ∧ H'.get i = some b.held) ∨ ((∀ c, H.get i = some c → ¬ (i ∈ F ∧ c.mp = none)) ∧ H'.get i = some b) := by
    intro i b hi
    rw [thaw_get F H H' hlen] at hi
    split at hi
    · rename_i c hc
      split at hi
      · rename_i hF
        injection hi with hi; subst hi
        left
        refine ⟨hF.1, hc, hF.2, ?_⟩
        refine hk.ro i _ ?_ rfl
        rw [frz_get, hc]
        simp only
        rw [if_pos hF]
      · rename_i hF
        exact .inr ⟨fun c' hc' => (by rw [hc] at hc'; injection hc' with hc'; subst hc'; exact hF), hi⟩
    · rename_i hc
      exact .inr ⟨fun c' hc' => (by rw [hc] at hc'; cases hc'), hi⟩
  -- what may not be written behind the call and was not kept, stood so before
  have old : ∀ (j : Nat) (b : Blk), (∀ c, H.get j = some c → ¬ (j ∈ F ∧ c.mp = none)) → H'.get j = some b → b.wr = false → H.get j = some b := by
    intro j b hj hb hw
    have h1 := hk.back j b hb hw
    rcases frz_key h1 with ⟨hF, c, hc, hm, rfl⟩ | ⟨hF, hc⟩
    · exact (hj c hc ⟨hF, hm⟩).elim
    · exact hc
  have hsame : ∀ (i : Nat) (b : Blk), i ∈ F → b.mp = none → H.get i = some b → b.act = true → w'.heap[(σ i).blk]? = w.heap[(σ i).blk]? := by
    intro i b hF hm hi ha
    refine h'.fr.block _ (h.lt i b hi ha) ?_
    rintro ⟨j, c, hj, haj, hwj, hnF, hjk⟩
    refine h.inj j i c b hj hi haj ha hwj (fun e => ?_) hjk
    subst e
    rw [hi] at hj; injection hj with hj; subst hj
    exact hnF ⟨hF, hm⟩
  have hσ : ∀ (i : Nat) (b : Blk), H.get i = some b → σ' i = σ i := fun i b hi => he i (AH.get_lt hi)
  refine ⟨⟨h.fr.trans h'.fr own, ?_, ?_, ?_, ?_, ?_, ?_, ?_, ?_, ?_⟩, ⟨by rw [thaw_size]; exact hlen, ?_, ?_⟩⟩
  · intro i b hi
    rw [thaw_size]
    rcases key i b hi with ⟨_, hi, _, _⟩ | ⟨_, hi⟩
    · exact all_scS_mono hlen _ (h.sc i b hi)
    · exact h'.sc i b hi
  · intro i b hi hp
    rcases key i b hi with ⟨_, hi, _, _⟩ | ⟨_, hi⟩
    · exact h.pl i b hi hp
    · exact h'.pl i b hi hp
  · intro i b hi ha
    rcases key i b hi with ⟨hF, hi, hmn, _⟩ | ⟨_, hi⟩
    · rw [hσ i b hi]; exact Nat.lt_of_lt_of_le (h.lt i b hi ha) h'.fr.size
    · exact h'.lt i b hi ha
  · intro i b hi hl
    rcases key i b hi with ⟨hF, hi, hmn, _⟩ | ⟨_, hi⟩
    · rw [hσ i b hi]; exact h.sp i b hi hl
    · exact h'.sp i b hi hl
  · intro i b hi hl hw j v hj
    rcases key i b hi with ⟨_, _, _, hi⟩ | ⟨_, hi⟩
    · exact h'.ro i _ hi hl rfl j v hj
    · exact h'.ro i b hi hl hw j v hj
  · intro i b hi hl hw
    rcases key i b hi with ⟨hF, hi, hmn, _⟩ | ⟨_, hi⟩
    · rw [hσ i b hi, map_cS_ext he _ (h.sc' hi)]
      obtain ⟨g1, g2⟩ := h.wb i b hi hl hw
      exact ⟨g1, g2.of_heap (hsame i b hF hmn hi (act_live hl))⟩
    · obtain ⟨g1, g2⟩ := h'.wb i b hi hl hw
      exact ⟨g1.elim (own _) (fun hh => .inr (Nat.le_trans h.fr.size hh)), g2⟩
  · intro i b es hi hm
    rcases key i b hi with ⟨hF, hi, hmn, _⟩ | ⟨_, hi⟩
    · rw [hmn] at hm; cases hm
    · obtain ⟨g1, g2, g3, g4⟩ := h'.mp i b es hi hm
      exact ⟨g1, g2.elim (own _) (fun hh => .inr (Nat.le_trans h.fr.size hh)), by rw [thaw_size]; exact g3, g4⟩
  · intro i b hi hl
    rcases key i b hi with ⟨_, hi, _, _⟩ | ⟨_, hi⟩
    · exact h.lm i b hi hl
    · exact h'.lm i b hi hl
  · intro i j bi bj hi hj hai haj hw hne
    have held_act : ∀ (b : Blk), b.mp = none → b.act = true → b.held.act = true := by
      intro b hm ha
      simp only [Blk.act, hm, Option.isSome_none, Bool.or_false] at ha
      simp [Blk.act, Blk.held, ha]
    rcases key i bi hi with ⟨hFi, hi, hmi, hi'⟩ | ⟨hni, hi⟩ <;> rcases key j bj hj with ⟨hFj, hj, hmj, hj'⟩ | ⟨hnj, hj⟩
    · rw [hσ i bi hi, hσ j bj hj]; exact h.inj i j bi bj hi hj hai haj hw hne
    · cases hwj : bj.wr with
      | true => exact (h'.inj j i bj _ hj hi' haj (held_act bi hmi hai) hwj (Ne.symm hne)).symm
      | false =>
        have hj2 := old j bj hnj hj hwj
        rw [hσ i bi hi, hσ j bj hj2]; exact h.inj i j bi bj hi hj2 hai haj hw hne
    · exact h'.inj i j bi _ hi hj' hai (held_act bj hmj haj) hw hne
    · exact h'.inj i j bi bj hi hj hai haj hw hne
  · intro i b hi hw
    rw [thaw_get F H H' hlen, hi]
    simp only
    split
    · rfl
    · rename_i hF
      refine hk.ro i b ?_ hw
      rw [frz_get, hi]
      simp only
      rw [if_neg hF]
  · intro i b hi hw
    rcases key i b hi with ⟨_, hi, _, _⟩ | ⟨hn, hi⟩
    · exact hi
    · exact old i b hn hi hw
end
end Go.RX
