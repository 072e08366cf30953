/- Regions that draw their order: the executor's order tells them all. -/
import Derived.Test.YtnidbincddpaaaaX11
namespace Go.RX
open Go Go.Proofs.Ytnidbincddpaaaa Go.RowKit

section
variable {P : Program} {W0 w : World} {S : Nat → Prop} {σ : Nat → Loc} {H : AH} {N : Nat} {D : List Deferred}

/-- The cells of the blocks of F are as the executor knows them. -/
def Facts (F : List Nat) (H : AH) (σ : Nat → Loc) (w : World) : Prop :=
  ∀ (i : Nat) (b : Blk), i ∈ F → H[i]? = some b → b.live = true → (σ i).blk < w.heap.size ∧ ∀ j v, b.cells[j]? = some v → w.cell? ⟨(σ i).blk, (σ i).off + j, none⟩ = some (cS σ v)

theorem Rel.facts (h : Rel P W0 S σ H w) (F : List Nat) : Facts F H σ w := fun i b _ hi hl => ⟨h.lt i b hi hl, fun _ _ hj => h.cell hi hl hj⟩

theorem Facts.mono {F F' : List Nat} (h : Facts F H σ w) (hs : ∀ i ∈ F', i ∈ F) : Facts F' H σ w := fun i b hi => h i b (hs i hi)

/-- The blocks of F alone, to be read. -/
def mask (F : List Nat) (H : AH) : AH := H.mapIdx fun i b => { b with wr := false, live := b.live && F.contains i }
theorem mask_get (F : List Nat) (H : AH) (i : Nat) : (mask F H)[i]? = (H[i]?).map fun b => { b with wr := false, live := b.live && F.contains i } := by
  simp [mask, List.getElem?_mapIdx]
theorem mask_len (F : List Nat) (H : AH) : (mask F H).length = H.length := by simp [mask]

theorem Facts.rel {F : List Nat} (hf : Facts F H σ w) (hsc : ∀ (i : Nat) (b : Blk), H[i]? = some b → b.cells.all (scS H.length) = true) : Rel P w (fun _ => False) σ (mask F H) w := by
  have key : ∀ (i : Nat) (b : Blk), (mask F H)[i]? = some b → ∃ c, H[i]? = some c ∧ b = { c with wr := false, live := c.live && F.contains i } := by
    intro i b hi
    rw [mask_get] at hi
    cases hc : H[i]? with
    | none => rw [hc] at hi; cases hi
    | some c => rw [hc] at hi; injection hi with hi; exact ⟨c, rfl, hi.symm⟩
  refine ⟨Fr.refl _ _, ?_, ?_, ?_, ?_, ?_⟩
  · intro i b hi
    obtain ⟨c, hc, rfl⟩ := key i b hi
    rw [mask_len]; exact hsc i c hc
  · intro i b hi hl
    obtain ⟨c, hc, rfl⟩ := key i b hi
    simp only [Bool.and_eq_true] at hl
    exact (hf i c (by simpa using hl.2) hc hl.1).1
  · intro i b hi hl _ j v hj
    obtain ⟨c, hc, rfl⟩ := key i b hi
    simp only [Bool.and_eq_true] at hl
    exact (hf i c (by simpa using hl.2) hc hl.1).2 j v hj
  · intro i b hi hl hw
    obtain ⟨c, hc, rfl⟩ := key i b hi
    cases hw
  · intro i j bi bj hi hj hli hlj hw
    obtain ⟨c, hc, rfl⟩ := key i bi hi
    cases hw

theorem ld_mask {F : List Nat} {i off n : Nat} (hi : i ∈ F) : ld (mask F H) i off n = ld H i off n := by
  unfold ld
  rw [mask_get]
  cases hc : H[i]? with
  | none => rfl
  | some c =>
    have : F.contains i = true := by simpa using hi
    simp only [Option.map_some, this, Bool.and_true]

/-- A light operation does the same where the blocks that it reads are known. -/
theorem aop_mask {F : List Nat} {tm : Tm} {op : Op} (hl : light op = true) (hF : ∀ i ∈ rdIds tm op, i ∈ F) {v : Value} (h : aop P tm H op = some (.val v H)) : aop P tm (mask F H) op = some (.val v (mask F H)) := by
  have hov : ∀ x : Option Value, oval H x = some (.val v H) → oval (mask F H) x = some (.val v (mask F H)) := by
    intro x hx
    obtain ⟨u, rfl, hu⟩ := oval_some hx
    injection hu with h1
    subst h1
    rfl
  have hlen := mask_len F H
  have hload : ∀ t q, (∀ p, q = .pointer (some p) → p.block ∈ F) → aload P (mask F H) t q = aload P H t q := by
    intro t q hq
    unfold aload
    split
    · rename_i i off
      have hm : i ∈ F := hq _ rfl
      simp only [ld_mask hm]
    · rfl
  have hconv : ∀ src dst q, (∀ p n c, q = .slice (some p) n c → p.block ∈ F) → aconv P (mask F H) src dst q = aconv P H src dst q := by
    intro src dst q hq
    unfold aconv
    split <;> first | rfl | skip
    rename_i e i off n c _ _
    have hm : i ∈ F := hq _ _ _ rfl
    simp only [ld_mask hm]
  cases op with
  | load t x =>
    simp only [aop] at h ⊢
    cases hx : ev tm x with
    | none => rw [hx] at h; cases h
    | some q =>
      rw [hx] at h
      simp only at h ⊢
      rw [hload t q (fun p hp => hF _ (by simp [rdIds, hx, hp]))]
      exact hov _ h
  | convert src dst x =>
    simp only [aop] at h ⊢
    cases hx : ev tm x with
    | none => rw [hx] at h; cases h
    | some q =>
      rw [hx] at h
      simp only at h ⊢
      rw [hconv src dst q (fun p n c hp => hF _ (by simp [rdIds, hx, hp]))]
      exact hov _ h
  | call c =>
    obtain ⟨callee, args, argTypes⟩ := c
    cases callee with
    | builtin b =>
      cases b <;> first | (cases hl; done) | skip
      simp only [aop] at h ⊢
      revert h
      (repeat' split) <;> intro h <;> first | exact hov _ h | (cases h; done)
    | value f => cases hl
    | invoke r m => cases hl
  | unOp o t x =>
    cases o <;> first | (simp only [aop] at h; cases h; done) | skip
    all_goals
      simp only [aop] at h ⊢
      revert h
      (repeat' split) <;> intro h <;> first | exact hov _ h | (cases h; rfl) | (cases h; done)
  | build t parts =>
    simp only [aop, hlen, Bool.cond_eq_ite] at h ⊢
    revert h
    repeat' split
    all_goals intro h
    all_goals first | (cases h; rfl) | (cases h; done)
  | _ =>
    first
    | (cases hl; done)
    | (simp only [aop, Bool.cond_eq_ite] at h ⊢
       revert h
       (repeat' split) <;> intro h <;> first | exact hov _ h | (cases h; rfl) | (cases h; done))

theorem light_yields {F : List Nat} {tm : Tm} {a : Act} {w' : World} (hf : Facts F H σ w') (hsc : ∀ (i : Nat) (b : Blk), H[i]? = some b → b.cells.all (scS H.length) = true) (hA : AR N D σ tm H.length a) (o : Oper) (hl : light o.op = true)
    (hF : ∀ i ∈ rdIds tm o.op, i ∈ F) {v : Value} (h : aop P tm H o.op = some (.val v H)) : (execOp a.eval o).run P w' = .ok (.value (cV σ v)) w' := by
  obtain ⟨u, hu, hr, _⟩ := aop_light (P := P) (hf.rel (P := P) hsc) (by rw [mask_len]; exact hA) o rfl hl (aop_mask hl hF h)
  injection hu with hu
  subst hu
  exact hr

def Own (F : List Nat) (H : AH) (σ : Nat → Loc) (k : Nat) : Prop := ∃ (i : Nat) (b : Blk), H[i]? = some b ∧ b.live = true ∧ b.wr = true ∧ i ∉ F ∧ (σ i).blk = k

theorem frz_key {F : List Nat} {i : Nat} {b : Blk} (h : (frz 0 F H)[i]? = some b) : ∃ c, H[i]? = some c ∧ b = if F.contains i then { c with wr := false } else c := by
  rw [frz_get, Nat.zero_add] at h
  cases hc : H[i]? with
  | none => rw [hc] at h; cases h
  | some c => rw [hc] at h; injection h with h; exact ⟨c, rfl, h.symm⟩

theorem Rel.freeze (h : Rel P W0 S σ H w) (F : List Nat) : Rel P w (Own F H σ) σ (frz 0 F H) w := by
  have cells : ∀ (c : Blk) (i : Nat), (if F.contains i then { c with wr := false } else c : Blk).cells = c.cells := by intro c i; split <;> rfl
  have lives : ∀ (c : Blk) (i : Nat), (if F.contains i then { c with wr := false } else c : Blk).live = c.live := by intro c i; split <;> rfl
  refine ⟨Fr.refl _ _, ?_, ?_, ?_, ?_, ?_⟩
  · intro i b hi
    obtain ⟨c, hc, rfl⟩ := frz_key hi
    rw [frz_len, cells]; exact h.sc i c hc
  · intro i b hi hl
    obtain ⟨c, hc, rfl⟩ := frz_key hi
    rw [lives] at hl; exact h.lt i c hc hl
  · intro i b hi hl _ j v hj
    obtain ⟨c, hc, rfl⟩ := frz_key hi
    rw [lives] at hl; rw [cells] at hj
    exact h.cell hc hl hj
  · intro i b hi hl hw
    obtain ⟨c, hc, rfl⟩ := frz_key hi
    by_cases hF : F.contains i = true
    · rw [if_pos hF] at hw; cases hw
    · rw [if_neg hF] at hl hw ⊢
      obtain ⟨g1, g2, g3, g4⟩ := h.wb i c hc hl hw
      exact ⟨g1, .inl ⟨i, c, hc, hl, hw, by simpa using hF, rfl⟩, g3, g4⟩
  · intro i j bi bj hi hj hli hlj hw hne
    obtain ⟨c, hc, rfl⟩ := frz_key hi
    obtain ⟨d, hd, rfl⟩ := frz_key hj
    rw [lives] at hli hlj
    by_cases hF : F.contains i = true
    · rw [if_pos hF] at hw; cases hw
    · rw [if_neg hF] at hw
      exact h.inj i j c d hc hd hli hlj hw hne

theorem Rel.thaw {w' : World} {σ' : Nat → Loc} {H' : AH} {F : List Nat} (h : Rel P W0 S σ H w) (h' : Rel P w (Own F H σ) σ' H' w') (hk : Keep (frz 0 F H) H') (he : Ext H.length σ σ') :
    Rel P W0 S σ' (RX.thaw 0 F H H') w' ∧ Keep H (RX.thaw 0 F H H') := by
  have hlen : H.length ≤ H'.length := by have := hk.len; rwa [frz_len] at this
  have own : ∀ k, Own F H σ k → S k ∨ W0.heap.size ≤ k := by
    rintro k ⟨i, b, hi, hl, hw, _, rfl⟩
    exact (h.wb i b hi hl hw).2.1
  -- a block of the outcome: kept, or as the call left it
  have key : ∀ (i : Nat) (b : Blk), (RX.thaw 0 F H H')[i]? = some b → (i ∈ F ∧ H[i]? = some b ∧ H'[i]? = some { b with wr := false }) ∨ ((i ∉ F ∨ H.length ≤ i) ∧ H'[i]? = some b) := by
    intro i b hi
    rw [thaw_get H H' 0 i F hlen, Nat.zero_add] at hi
    split at hi
    · rename_i hc
      left
      refine ⟨by simpa using hc.2, hi, ?_⟩
      refine hk.ro i _ ?_ rfl
      rw [frz_get, Nat.zero_add, hi, Option.map_some, if_pos hc.2]
    · rename_i hc
      right
      refine ⟨?_, hi⟩
      by_cases h1 : i < H.length
      · left; intro hF; exact hc ⟨h1, by simpa using hF⟩
      · right; omega
  -- what may not be written behind the call and was not kept, stood so before
  have old : ∀ (j : Nat) (b : Blk), (j ∉ F ∨ H.length ≤ j) → H'[j]? = some b → b.wr = false → H[j]? = some b ∧ j ∉ F := by
    intro j b hj hb hw
    have h1 := hk.back j b hb hw
    obtain ⟨c, hc, hcb⟩ := frz_key h1
    have hjl : j < H.length := (List.getElem?_eq_some_iff.1 hc).1
    have hnF : j ∉ F := hj.resolve_right (by omega)
    rw [if_neg (by simpa using hnF)] at hcb
    subst hcb
    exact ⟨hc, hnF⟩
  have hsame : ∀ (i : Nat) (b : Blk), i ∈ F → H[i]? = some b → b.live = true → b.wr = true → w'.heap[(σ i).blk]? = w.heap[(σ i).blk]? := by
    intro i b hF hi hl hw
    refine h'.fr.block _ (h.lt i b hi hl) ?_
    rintro ⟨j, c, hj, hlj, hwj, hnF, hjk⟩
    exact h.inj j i c b hj hi hlj hl hwj (fun e => hnF (e ▸ hF)) hjk
  have hσ : ∀ (i : Nat) (b : Blk), H[i]? = some b → σ' i = σ i := fun i b hi => he i (List.getElem?_eq_some_iff.1 hi).1
  refine ⟨⟨h.fr.trans h'.fr own, ?_, ?_, ?_, ?_, ?_⟩, ⟨by rw [thaw_len]; exact hlen, ?_, ?_⟩⟩
  · intro i b hi
    rw [thaw_len]
    rcases key i b hi with ⟨_, hi, _⟩ | ⟨_, hi⟩
    · exact all_scS_mono hlen _ (h.sc i b hi)
    · exact h'.sc i b hi
  · intro i b hi hl
    rcases key i b hi with ⟨_, _, hi⟩ | ⟨_, hi⟩
    · exact h'.lt i _ hi hl
    · exact h'.lt i b hi hl
  · intro i b hi hl hw j v hj
    rcases key i b hi with ⟨_, _, hi⟩ | ⟨_, hi⟩
    · exact h'.ro i _ hi hl rfl j v hj
    · exact h'.ro i b hi hl hw j v hj
  · intro i b hi hl hw
    rcases key i b hi with ⟨hF, hi, _⟩ | ⟨_, hi⟩
    · rw [hσ i b hi, map_cS_ext he _ (h.sc' hi)]
      obtain ⟨g1, g2, g3, tl, g4, g5⟩ := h.wb i b hi hl hw
      exact ⟨g1, g2, g3, tl, g4, (hsame i b hF hi hl hw).trans g5⟩
    · obtain ⟨g1, g2, g3, g4⟩ := h'.wb i b hi hl hw
      exact ⟨g1, g2.elim (own _) (fun hh => .inr (Nat.le_trans h.fr.size hh)), g3, g4⟩
  · intro i j bi bj hi hj hli hlj hw hne
    rcases key i bi hi with ⟨hFi, hi, hi'⟩ | ⟨hni, hi⟩ <;> rcases key j bj hj with ⟨hFj, hj, hj'⟩ | ⟨hnj, hj⟩
    · rw [hσ i bi hi, hσ j bj hj]; exact h.inj i j bi bj hi hj hli hlj hw hne
    · cases hwj : bj.wr with
      | true => exact (h'.inj j i bj _ hj hi' hlj hli hwj (Ne.symm hne)).symm
      | false =>
        obtain ⟨hj2, _⟩ := old j bj hnj hj hwj
        rw [hσ i bi hi, hσ j bj hj2]; exact h.inj i j bi bj hi hj2 hli hlj hw hne
    · exact h'.inj i j bi _ hi hj' hli hlj hw hne
    · exact h'.inj i j bi bj hi hj hli hlj hw hne
  · intro i b hi hw
    rw [thaw_get H H' 0 i F hlen, Nat.zero_add]
    split
    · exact hi
    · refine hk.ro i b ?_ hw
      rw [frz_get, Nat.zero_add, hi]
      simp only [Option.map_some]
      split
      · rw [← hw]
      · rfl
  · intro i b hi hw
    rcases key i b hi with ⟨_, hi, _⟩ | ⟨hn, hi⟩
    · exact hi
    · exact (old i b hn hi hw).1
end
end Go.RX
