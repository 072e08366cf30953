/- New blocks, stores, rows that grow: the executor's memory follows the machine's. -/
import Derived.Test.YtnidbincddpaaaaX3
namespace Go.RX
open Go Go.Proofs.Ytnidbincddpaaaa Go.RowKit

theorem get_push {H : AH} {b b' : Blk} {i : Nat} (h : (H ++ [b])[i]? = some b') : (i < H.length ∧ H[i]? = some b') ∨ (i = H.length ∧ b' = b) := by
  rcases Nat.lt_or_ge i H.length with hi | hi
  · rw [List.getElem?_append_left hi] at h; exact .inl ⟨hi, h⟩
  · rw [List.getElem?_append_right hi] at h
    have h0 : i - H.length = 0 := by
      have := (List.getElem?_eq_some_iff.1 h).1
      simp at this; omega
    rw [h0] at h
    exact .inr ⟨by omega, by simpa using h.symm⟩
theorem get_lt {H : AH} {b : Blk} {i : Nat} (h : H[i]? = some b) : i < H.length := (List.getElem?_eq_some_iff.1 h).1

def up (σ : Nat → Loc) (n : Nat) (l : Loc) : Nat → Loc := fun i => if i = n then l else σ i
theorem up_ext (σ : Nat → Loc) (n : Nat) (l : Loc) : Ext n σ (up σ n l) := fun i hi => by simp [up]; omega
theorem up_at (σ : Nat → Loc) (n : Nat) (l : Loc) : up σ n l n = l := by simp [up]
theorem up_ne (σ : Nat → Loc) {n i : Nat} (l : Loc) (h : i ≠ n) : up σ n l i = σ i := by simp [up, h]

section
variable {P : Program} {W0 w : World} {S : Nat → Prop} {σ : Nat → Loc} {H : AH}

/-- What was known of the old blocks holds behind a step that keeps their blocks. -/
theorem Rel.sc' (h : Rel P W0 S σ H w) {i : Nat} {b : Blk} (hi : H[i]? = some b) : ∀ v ∈ b.cells, scS H.length v = true := fun v hv => List.all_eq_true.1 (h.sc i b hi) v hv

theorem Rel.push (h : Rel P W0 S σ H w) {w' : World} {T : Nat → Prop} (hf : Fr T w w') (hT : ∀ (i : Nat) (b : Blk), H[i]? = some b → b.live = true → ¬ T (σ i).blk) (hTS : ∀ k, T k → S k ∨ W0.heap.size ≤ k)
    (g e : Nat) (l tail : List Value) (t : TypeId) (hg : ∀ (i : Nat) (b : Blk), H[i]? = some b → b.live = true → (σ i).blk ≠ g) (hgS : S g ∨ W0.heap.size ≤ g) (hgl : g < w'.heap.size)
    (hl : l.all (scS H.length) = true) (ht : tail.length = e * esz P t) (hm : 0 < esz P t → ∀ n, l.length = n * esz P t → n + e ≤ maxLen) (hb : w'.heap[g]? = some (.cells ⟨l.map (cS σ) ++ tail⟩ t (0, 0))) :
    Rel P W0 S (up σ H.length ⟨g, 0, e⟩) (H ++ [⟨l, t, true, true⟩]) w' := by
  have hext := up_ext σ H.length ⟨g, 0, e⟩
  have hlen : (H ++ [(⟨l, t, true, true⟩ : Blk)]).length = H.length + 1 := by simp
  have hsame : ∀ (i : Nat) (b : Blk), H[i]? = some b → b.live = true → w'.heap[(σ i).blk]? = w.heap[(σ i).blk]? := fun i b hi hlv => hf.block _ (h.lt i b hi hlv) (hT i b hi hlv)
  refine ⟨h.fr.trans hf hTS, ?_, ?_, ?_, ?_, ?_⟩
  · intro i b hi
    rw [hlen]
    rcases get_push hi with ⟨_, hi⟩ | ⟨_, rfl⟩
    · exact all_scS_mono (by omega) _ (h.sc i b hi)
    · exact all_scS_mono (by omega) _ hl
  · intro i b hi hlv
    rcases get_push hi with ⟨hlt, hi⟩ | ⟨rfl, rfl⟩
    · rw [up_ne _ _ (by omega)]
      exact Nat.lt_of_lt_of_le (h.lt i b hi hlv) hf.size
    · rw [up_at]; exact hgl
  · intro i b hi hlv hw j v hj
    rcases get_push hi with ⟨hlt, hi⟩ | ⟨rfl, rfl⟩
    · rw [up_ne _ _ (by omega), cS_ext hext v (h.sc' hi v (List.mem_of_getElem? hj))]
      rw [World.cell?_of_block (w := w) (hsame i b hi hlv)]
      exact h.ro i b hi hlv hw j v hj
    · cases hw
  · intro i b hi hlv hw
    rcases get_push hi with ⟨hlt, hi⟩ | ⟨rfl, rfl⟩
    · rw [up_ne _ _ (by omega), map_cS_ext hext _ (h.sc' hi)]
      obtain ⟨h1, h2, h3, tl, h4, h5⟩ := h.wb i b hi hlv hw
      exact ⟨h1, h2, h3, tl, h4, (hsame i b hi hlv).trans h5⟩
    · rw [up_at, map_cS_ext hext _ (fun v hv => List.all_eq_true.1 hl v hv)]
      exact ⟨rfl, hgS, hm, tail, ht, hb⟩
  · intro i j bi bj hi hj hli hlj hw hne
    rcases get_push hi with ⟨hlti, hi⟩ | ⟨rfl, rfl⟩ <;> rcases get_push hj with ⟨hltj, hj⟩ | ⟨rfl, rfl⟩
    · rw [up_ne _ _ (by omega), up_ne _ _ (by omega)]; exact h.inj i j bi bj hi hj hli hlj hw hne
    · rw [up_ne _ _ (show i ≠ H.length by omega), up_at]; exact hg i bi hi hli
    · rw [up_ne _ _ (show j ≠ H.length by omega), up_at]; exact (hg j bj hj hlj).symm
    · exact absurd rfl hne

theorem Rel.alloc (h : Rel P W0 S σ H w) (l : List Value) (t : TypeId) (hl : l.all (scS H.length) = true) (hm : l.length ≤ maxLen) :
    Rel P W0 S (up σ H.length ⟨w.heap.size, 0, 0⟩) (H ++ [⟨l, t, true, true⟩]) (w.alloc (.cells ⟨l.map (cS σ)⟩ t)) :=
  h.push (T := fun _ => False) ((Fr.refl _ w).alloc _) (fun _ _ _ _ hh => hh) (fun _ hh => hh.elim) w.heap.size 0 l [] t (fun i b hi hlv => by have := h.lt i b hi hlv; omega) (.inr h.fr.size) (by simp) hl (by simp)
    (fun hp n hn => by
      have : n ≤ n * esz P t := Nat.le_mul_of_pos_right n hp
      omega) (by show (w.heap.push _)[w.heap.size]? = _; simp)

/-- A block is given up. -/
theorem Rel.kill (h : Rel P W0 S σ H w) {i : Nat} {b : Blk} (hi : H[i]? = some b) : Rel P W0 S σ (List.set H i { b with live := false }) w := by
  have key : ∀ (j : Nat) (b' : Blk), (List.set H i { b with live := false })[j]? = some b' → b'.live = true → H[j]? = some b' := by
    intro j b' hj hl
    rw [List.getElem?_set] at hj
    split at hj
    · split at hj
      · injection hj with hj; subst hj; cases hl
      · cases hj
    · exact hj
  have hlen : (List.set H i { b with live := false }).length = H.length := by simp
  refine ⟨h.fr, ?_, fun j b' hj hl => h.lt j b' (key j b' hj hl) hl, fun j b' hj hl => h.ro j b' (key j b' hj hl) hl, fun j b' hj hl => h.wb j b' (key j b' hj hl) hl,
    fun j k bj bk hj hk hlj hlk => h.inj j k bj bk (key j bj hj hlj) (key k bk hk hlk) hlj hlk⟩
  intro j b' hj
  rw [hlen]
  rw [List.getElem?_set] at hj
  split at hj
  · split at hj
    · injection hj with hj; subst hj; exact h.sc i b hi
    · cases hj
  · exact h.sc j b' hj

/-- A writable block gets other cells. -/
theorem Rel.write (h : Rel P W0 S σ H w) {i : Nat} {b : Blk} (hi : H[i]? = some b) (hlv : b.live = true) (hw : b.wr = true) (l : List Value) (hl : l.all (scS H.length) = true) (hll : l.length = b.cells.length)
    {w' : World} (hfr : Fr (fun k => k = (σ i).blk) w w') (htail : ∀ tail, w.heap[(σ i).blk]? = some (.cells ⟨b.cells.map (cS σ) ++ tail⟩ b.ty (0, 0)) → w'.heap[(σ i).blk]? = some (.cells ⟨l.map (cS σ) ++ tail⟩ b.ty (0, 0))) :
    Rel P W0 S σ (List.set H i { b with cells := l }) w' := by
  have hlen : (List.set H i { b with cells := l }).length = H.length := by simp
  have hil := get_lt hi
  have key : ∀ (j : Nat) (b' : Blk), (List.set H i { b with cells := l })[j]? = some b' → (j = i ∧ b' = { b with cells := l }) ∨ (j ≠ i ∧ H[j]? = some b') := by
    intro j b' hj
    rw [List.getElem?_set] at hj
    split at hj
    · rename_i he
      subst he
      injection hj with hj
      exact .inl ⟨rfl, hj.symm⟩
    · exact .inr ⟨by omega, hj⟩
  obtain ⟨h1, h2, h3, tl, h4, h5⟩ := h.wb i b hi hlv hw
  have hsame : ∀ (j : Nat) (b' : Blk), j ≠ i → H[j]? = some b' → b'.live = true → w'.heap[(σ j).blk]? = w.heap[(σ j).blk]? := fun j b' hne hj hl =>
    hfr.block _ (h.lt j b' hj hl) (fun e => h.inj i j b b' hi hj hlv hl hw (Ne.symm hne) e.symm)
  refine ⟨h.fr.trans hfr (fun k hk => by subst hk; exact h2), ?_, ?_, ?_, ?_, ?_⟩
  · intro j b' hj
    rw [hlen]
    rcases key j b' hj with ⟨rfl, rfl⟩ | ⟨_, hj⟩
    · exact hl
    · exact h.sc j b' hj
  · intro j b' hj hlj
    rcases key j b' hj with ⟨rfl, rfl⟩ | ⟨hne, hj⟩
    · exact Nat.lt_of_lt_of_le (h.lt j b hi hlv) hfr.size
    · exact Nat.lt_of_lt_of_le (h.lt j b' hj hlj) hfr.size
  · intro j b' hj hlj hwj k v hk
    rcases key j b' hj with ⟨rfl, rfl⟩ | ⟨hne, hj⟩
    · rw [show (({ b with cells := l } : Blk).wr) = b.wr from rfl, hw] at hwj; cases hwj
    · rw [World.cell?_of_block (w := w) (hsame j b' hne hj hlj)]
      exact h.ro j b' hj hlj hwj k v hk
  · intro j b' hj hlj hwj
    rcases key j b' hj with ⟨rfl, rfl⟩ | ⟨hne, hj⟩
    · exact ⟨h1, h2, by simp only [hll]; exact h3, tl, h4, htail tl h5⟩
    · obtain ⟨g1, g2, g3, tl', g4, g5⟩ := h.wb j b' hj hlj hwj
      exact ⟨g1, g2, g3, tl', g4, (hsame j b' hne hj hlj).trans g5⟩
  · intro j k bj bk hj hk hlj hlk hwj hne
    rcases key j bj hj with ⟨ej, eb⟩ | ⟨hnej, hj2⟩ <;> rcases key k bk hk with ⟨ek, ec⟩ | ⟨hnek, hk2⟩
    · exact absurd (ej.trans ek.symm) hne
    · rw [ej]; exact h.inj i k b bk hi hk2 hlv hlk hw (fun e => hnek e.symm)
    · rw [ek]; exact h.inj j i bj b hj2 hi hlj hlv hwj hnej
    · exact h.inj j k bj bk hj2 hk2 hlj hlk hwj hne

theorem sizeB_run {t : TypeId} {n : Nat} (h : sizeB P t = some n) (w : World) : (sizeOf t).run P w = .ok n w := by
  unfold sizeB at h
  cases hi : P.info? t with
  | none => simp [hi] at h
  | some i => simp [hi] at h; simp [sizeOf, typeInfo, hi, h]

theorem isAgg_run {t : TypeId} {d : TypeDesc} (h : P.underlying t = some d) (w : World) : (isAgg t).run P w = .ok (isAggD d) w := by
  unfold isAgg
  rw [Sem.run_bind, run_underlying h w]
  cases d <;> rfl

theorem part_run {t : TypeId} {cs : Array Value} {off : Nat} {v : Value} (h : partB P t cs off = some v) (w : World) : (part t cs off).run P w = .ok v w := by
  unfold partB at h
  split at h
  · rename_i d n hd hn
    have hs : sizeB P t = some n := hn
    unfold part
    rw [Sem.run_bind, isAgg_run hd w]
    cases ha : isAggD d with
    | true =>
      simp only [ha, cond_true] at h
      injection h with h
      simp [sizeB_run hs w, h]
    | false =>
      simp only [ha, cond_false] at h
      simp [h]
  · cases h
end
end Go.RX
