/- What came in: slices of numbers as blocks of the executor. -/
import Derived.Test.YtnidbincddpaaaaE19
import Derived.Deep.Slices
namespace Go.RX
open Go Go.RowKit Go.ChangeShapes Go.WideShapes Go.Deep

section
variable {P : Program} {W : World}

/-- A block that may stand for a place of the world: read alone, or dead. -/
structure Stands (W : World) (b : Blk) (l : Loc) : Prop where
  wr : b.wr = false
  mp : b.mp = none
  sc : b.cells.all (scS 0) = true
  lt : b.live = true → l.blk < W.heap.size
  sp : b.live = true → l.spot = none
  rd : b.live = true → ∀ j v, b.cells[j]? = some v → W.cell? ⟨l.blk, l.off + j, none⟩ = some v

theorem rel_stands (S : Nat → Prop) (bs : List (Blk × Loc)) (h : ∀ x ∈ bs, Stands W x.1 x.2) : Rel P W S (fun i => (bs.map Prod.snd).getD i ⟨0, 0, 0, none⟩) (AH.of (bs.map Prod.fst)) W := by
  have key : ∀ {i : Nat} {b : Blk}, (AH.of (bs.map Prod.fst)).get i = some b → Stands W b ((bs.map Prod.snd).getD i ⟨0, 0, 0, none⟩) := by
    intro i b hi
    rw [AH.get_of, List.getElem?_map] at hi
    cases hx : bs[i]? with
    | none => rw [hx] at hi; cases hi
    | some x =>
      rw [hx] at hi
      injection hi with hi
      have := h x (List.mem_of_getElem? hx)
      rw [← hi, List.getD_eq_getElem?_getD, List.getElem?_map, hx]
      exact this
  refine ⟨Fr.refl _ _, fun i b hi => ?_, fun i b hi _ => (key hi).sc, fun i b hi ha => ?_, fun i b hi hl => (key hi).sp hl, fun i b hi hl _ j v hj => ?_, fun i b hi _ hw => ?_, fun i b es hi hm => ?_, fun i b hi _ => (key hi).mp, fun i j bi bj hi _ _ _ hw => ?_⟩
  · exact List.all_eq_true.2 fun v hv => scS_mono (Nat.zero_le _) v (List.all_eq_true.1 (key hi).sc v hv)
  · have hk := key hi
    unfold Blk.act at ha
    rw [hk.mp] at ha
    exact hk.lt (by simpa using ha)
  · have hk := key hi
    rw [cS_const v (List.all_eq_true.1 hk.sc v (List.mem_of_getElem? hj))]
    exact hk.rd hl j v hj
  · rw [(key hi).wr] at hw; cases hw
  · rw [(key hi).mp] at hm; cases hm
  · rw [(key hi).wr] at hw; cases hw

/-- How a slice stands in the executor: nil, a row, or a place without elements. -/
def SlForm (e : TypeId) (i : Nat) (p : Option Addr) (n c : Nat) (b : Blk) (L : List Value) : Prop :=
  (p = none ∧ n = 0 ∧ c = 0 ∧ L = [] ∧ b = ⟨[], e, false, false, true, none⟩) ∨
  (p = some ⟨i, 0, none⟩ ∧ n = L.length ∧ c = L.length ∧ b = ⟨L, e, false, true, true, none⟩) ∨
  (p = some ⟨i, 0, some 0⟩ ∧ n = 0 ∧ c = 0 ∧ L = [] ∧ b = ⟨[], e, false, false, true, none⟩)
theorem SlForm.sc {e : TypeId} {i : Nat} {p : Option Addr} {n c : Nat} {b : Blk} {L : List Value} (h : SlForm e i p n c b L) {m : Nat} (hm : i < m) : scV m (.slice p n c) = true := by
  have hb : Nat.ble (Nat.add i 1) m = true := ble_lt'.2 hm
  rcases h with ⟨rfl, _⟩ | ⟨rfl, _⟩ | ⟨rfl, _⟩
  · rfl
  · exact hb
  · exact hb
theorem stands_dead (e : TypeId) (l : Loc) : Stands W ⟨[], e, false, false, true, none⟩ l := ⟨rfl, rfl, rfl, fun h => (by cases h), fun h => (by cases h), fun h => (by cases h)⟩

variable {H : Type} {enc : TypeId × Value → H}
/-- A SLICE WHOSE ELEMENTS ARE ONE CELL EACH, as it came in. -/
theorem slice_in {t e : TypeId} (ht : P.underlying t = some (.slice e)) (hc : P.cellsOf e = 1) {Ok : Value → Prop}
    (hok : ∀ (v : Value) (n : Nat) (x : DataW H × List MemPlace), DataW.trod enc P W 0 (fun _ => true) true n e [v] = some x → scS 0 v = true ∧ Ok v)
    {v : Value} {d : DataW H} {ps : List MemPlace} (h : DataW.Trod enc P W 0 (fun _ => true) true t v d ps) (hv : v.cells.toList = [v]) (i : Nat) :
    ∃ (p : Option Addr) (n c : Nat) (b : Blk) (l : Loc) (L : List Value), SlForm e i p n c b L ∧ Stands W b l ∧ (∀ u ∈ L, Ok u) ∧ n ≤ maxLen ∧ ∀ σ : Nat → Loc, σ i = l → cV σ (.slice p n c) = v := by
  obtain ⟨fuel, h⟩ := h
  rw [hv] at h
  rcases open_slice1 ht hc h with ⟨h1, _⟩ | ⟨a, len, cap, m, n, V, D, Pl, h1, _, hl, hmx, hm, _, hx⟩
  · injection h1 with h1 _
    subst h1
    exact ⟨none, 0, 0, _, ⟨0, 0, 0, none⟩, [], .inl ⟨rfl, rfl, rfl, rfl, rfl⟩, stands_dead e _, fun u hu => (by cases hu), Nat.zero_le _, fun σ _ => rfl⟩
  · injection h1 with h1 _
    subst h1
    simp only [if_true] at hm
    subst hm
    by_cases h0 : m = 0
    · subst h0
      have : len = 0 := by omega
      subst this
      refine ⟨some ⟨i, 0, some 0⟩, 0, 0, _, ⟨a.block, a.off, 0, a.spot⟩, [], .inr (.inr ⟨rfl, rfl, rfl, rfl, rfl⟩), stands_dead e _, fun u hu => (by cases hu), Nat.zero_le _, fun σ hσ => ?_⟩
      show cL σ ⟨i, 0, some 0⟩ 0 0 = _
      unfold cL
      rw [hσ]
      rfl
    · have h00 := (hx 0 (by omega)).1
      have hsp : a.spot = none := by
        have := World.cell?_spot h00
        unfold Addr.add at this
        simpa using this
      have hadd : ∀ j, a.add j = ⟨a.block, a.off + j, none⟩ := by
        intro j
        unfold Addr.add
        by_cases hj : j = 0
        · subst hj; simp; cases a; simp at hsp; subst hsp; rfl
        · simp [hj]
      have hlt : a.block < W.heap.size := by
        unfold World.cell? at h00
        rw [hadd] at h00
        split at h00
        · rename_i hb
          exact (Array.getElem?_eq_some_iff.1 hb).1
        · cases h00
      refine ⟨some ⟨i, 0, none⟩, len, len, ⟨(List.range len).map V, e, false, true, true, none⟩, ⟨a.block, a.off, m - len, none⟩, (List.range len).map V, .inr (.inl ⟨rfl, by simp, by simp, rfl⟩), ?_, ?_, by omega, fun σ hσ => ?_⟩
      · refine ⟨rfl, rfl, ?_, fun _ => hlt, fun _ => rfl, fun _ j v hj => ?_⟩
        · refine List.all_eq_true.2 fun v hv => ?_
          obtain ⟨j, hj, rfl⟩ := List.mem_map.1 hv
          rw [List.mem_range] at hj
          exact (hok _ _ _ (hx j (by omega)).2).1
        · rw [List.getElem?_map] at hj
          cases hr : (List.range len)[j]? with
          | none => rw [hr] at hj; cases hj
          | some k =>
            rw [hr] at hj
            injection hj with hj
            obtain ⟨hjl, hk⟩ := List.getElem?_eq_some_iff.1 hr
            rw [List.length_range] at hjl
            rw [List.getElem_range] at hk
            subst hk
            rw [← hj, ← hadd]
            exact (hx j (by omega)).1
      · intro u hu
        obtain ⟨j, hj, rfl⟩ := List.mem_map.1 hu
        rw [List.mem_range] at hj
        exact (hok _ _ _ (hx j (by omega)).2).2
      · show cL σ ⟨i, 0, none⟩ len len = _
        unfold cL
        rw [hσ]
        show Value.slice (some ⟨a.block, a.off + 0, none⟩) len (len + (m - len)) = _
        have e1 : (⟨a.block, a.off + 0, none⟩ : Addr) = a := by cases a; simp at hsp; subst hsp; rfl
        rw [e1, show len + (m - len) = m by omega]
end
end Go.RX
