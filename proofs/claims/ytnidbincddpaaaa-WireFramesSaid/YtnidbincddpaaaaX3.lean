/- The executor's memory and the machine's: how they hang together, and what loads, stores and new blocks do to that. -/
import Derived.Test.YtnidbincddpaaaaX2
namespace Go.RX
open Go Go.Proofs.Ytnidbincddpaaaa Go.RowKit

def Ext (n : Nat) (σ σ' : Nat → Loc) : Prop := ∀ i, i < n → σ' i = σ i
theorem Ext.refl (n : Nat) (σ : Nat → Loc) : Ext n σ σ := fun _ _ => rfl
theorem Ext.trans {n m : Nat} {a b c : Nat → Loc} (h : Ext n a b) (k : Ext m b c) (hnm : n ≤ m) : Ext n a c := fun i hi => (k i (by omega)).trans (h i hi)
theorem Ext.mono {n m : Nat} {a b : Nat → Loc} (h : Ext m a b) (hnm : n ≤ m) : Ext n a b := fun i hi => h i (by omega)

/-- Blocks that may not be written stay. -/
structure Keep (H H' : AH) : Prop where
  len : H.length ≤ H'.length
  ro : ∀ (i : Nat) (b : Blk), H[i]? = some b → b.wr = false → H'[i]? = some b
  back : ∀ (i : Nat) (b : Blk), H'[i]? = some b → b.wr = false → H[i]? = some b
theorem Keep.refl (H : AH) : Keep H H := ⟨Nat.le_refl _, fun _ _ h _ => h, fun _ _ h _ => h⟩
theorem Keep.trans {a b c : AH} (h : Keep a b) (k : Keep b c) : Keep a c :=
  ⟨Nat.le_trans h.len k.len, fun i x hx hw => k.ro i x (h.ro i x hx hw) hw, fun i x hx hw => h.back i x (k.back i x hx hw) hw⟩
theorem Keep.push {a b : AH} (h : Keep a b) (x : Blk) (hx : x.wr = true) : Keep a (b ++ [x]) :=
  ⟨by have := h.len; simp; omega, fun i y hy hw => by
    have := h.ro i y hy hw
    rw [List.getElem?_append_left (List.getElem?_eq_some_iff.1 this).1]; exact this, fun i y hy hw => by
    rcases Nat.lt_or_ge i b.length with hi | hi
    · rw [List.getElem?_append_left hi] at hy; exact h.back i y hy hw
    · rw [List.getElem?_append_right hi] at hy
      have h0 : i - b.length = 0 := by
        have := (List.getElem?_eq_some_iff.1 hy).1
        simp at this; omega
      rw [h0] at hy
      simp at hy
      subst hy
      rw [hx] at hw; cases hw⟩
theorem Keep.set {a : AH} {i : Nat} {b x : Blk} (hb : a[i]? = some b) (hw : b.wr = true) (hx : x.wr = true) : Keep a (List.set a i x) :=
  ⟨by simp, fun j y hy hwy => by
    rw [List.getElem?_set]
    split
    · rename_i e
      subst e
      rw [hb] at hy
      injection hy with hy
      subst hy
      rw [hw] at hwy; cases hwy
    · exact hy, fun j y hy hwy => by
    rw [List.getElem?_set] at hy
    split at hy
    · split at hy
      · injection hy with hy; subst hy; rw [hx] at hwy; cases hwy
      · cases hy
    · exact hy⟩

theorem cS_ext {n : Nat} {σ σ' : Nat → Loc} (h : Ext n σ σ') : ∀ v, scS n v = true → cS σ' v = cS σ v := by
  intro v hv
  cases v with
  | pointer a => cases a with
    | none => rfl
    | some a => simp only [scS, decide_eq_true_eq] at hv; simp [cS, cA, h _ hv]
  | slice a l c => cases a with
    | none => rfl
    | some a => simp only [scS, decide_eq_true_eq] at hv; simp [cS, cA, h _ hv]
  | _ => rfl
theorem map_cS_ext {n : Nat} {σ σ' : Nat → Loc} (h : Ext n σ σ') : ∀ l : List Value, (∀ v ∈ l, scS n v = true) → l.map (cS σ') = l.map (cS σ) := fun _ hl =>
  List.map_congr_left fun v hv => cS_ext h v (hl v hv)
theorem amap_cS_ext {n : Nat} {σ σ' : Nat → Loc} (h : Ext n σ σ') (cs : Array Value) (hl : cs.toList.all (scS n) = true) : cs.map (cS σ') = cs.map (cS σ) := by
  apply Array.map_congr_left
  intro v hv
  exact cS_ext h v (List.all_eq_true.1 hl v (by simpa using hv))
theorem cT_ext {n : Nat} {σ σ' : Nat → Loc} (h : Ext n σ σ') (v : Value) (hv : scT n v = true) : cT σ' v = cT σ v := by
  cases v with
  | agg cs => simp only [scT] at hv; simp only [cT]; rw [amap_cS_ext h cs hv]
  | _ => simp only [scT] at hv; simp only [cT]; exact cS_ext h _ hv
theorem cV_ext {n : Nat} {σ σ' : Nat → Loc} (h : Ext n σ σ') (v : Value) (hv : scV n v = true) : cV σ' v = cV σ v := by
  cases v with
  | tuple vs =>
    simp only [scV] at hv
    simp only [cV]
    congr 1
    apply Array.map_congr_left
    intro v hv'
    exact cT_ext h v (List.all_eq_true.1 hv v (by simpa using hv'))
  | _ => simp only [scV] at hv; simp only [cV]; exact cT_ext h _ hv

theorem scS_mono {n m : Nat} (h : n ≤ m) (v : Value) (hv : scS n v = true) : scS m v = true := by
  cases v with
  | pointer a => cases a with
    | none => rfl
    | some a => simp only [scS, decide_eq_true_eq] at hv ⊢; omega
  | slice a l c => cases a with
    | none => rfl
    | some a => simp only [scS, decide_eq_true_eq] at hv ⊢; omega
  | agg cs => simp [scS] at hv
  | tuple cs => simp [scS] at hv
  | _ => rfl
theorem all_scS_mono {n m : Nat} (h : n ≤ m) (l : List Value) (hl : l.all (scS n) = true) : l.all (scS m) = true :=
  List.all_eq_true.2 fun v hv => scS_mono h v (List.all_eq_true.1 hl v hv)
theorem scT_mono {n m : Nat} (h : n ≤ m) (v : Value) (hv : scT n v = true) : scT m v = true := by
  cases v with
  | agg cs => exact all_scS_mono h _ hv
  | _ => simp only [scT] at hv ⊢; exact scS_mono h _ hv
theorem scV_mono {n m : Nat} (h : n ≤ m) (v : Value) (hv : scV n v = true) : scV m v = true := by
  cases v with
  | tuple vs => exact List.all_eq_true.2 fun v hv' => scT_mono h v (List.all_eq_true.1 hv v hv')
  | _ => simp only [scV] at hv ⊢; exact scT_mono h _ hv

/-- What names no block reads the same everywhere. -/
theorem cS_const {σ : Nat → Loc} (v : Value) (hv : scS 0 v = true) : cS σ v = v := by
  cases v with
  | pointer a => cases a with
    | none => rfl
    | some a => simp [scS] at hv
  | slice a l c => cases a with
    | none => rfl
    | some a => simp [scS] at hv
  | _ => rfl
theorem map_cS_const {σ : Nat → Loc} (l : List Value) (hl : l.all (scS 0) = true) : l.map (cS σ) = l := by
  conv => rhs; rw [← List.map_id l]
  exact List.map_congr_left fun v hv => cS_const v (List.all_eq_true.1 hl v hv)
theorem amap_cS_const {σ : Nat → Loc} (cs : Array Value) (hl : cs.toList.all (scS 0) = true) : cs.map (cS σ) = cs := by
  apply Array.toList_inj.1
  rw [Array.toList_map, map_cS_const _ hl]
theorem cT_const {σ : Nat → Loc} (v : Value) (hv : scT 0 v = true) : cT σ v = v := by
  cases v with
  | agg cs => simp only [cT]; rw [amap_cS_const cs hv]
  | _ => simp only [scT] at hv; simp only [cT]; exact cS_const _ hv
theorem cV_const {σ : Nat → Loc} (v : Value) (hv : scV 0 v = true) : cV σ v = v := by
  cases v with
  | tuple vs =>
    simp only [cV]
    congr 1
    apply Array.toList_inj.1
    rw [Array.toList_map]
    conv => rhs; rw [← List.map_id vs.toList]
    exact List.map_congr_left fun v hv' => cT_const v (List.all_eq_true.1 hv v hv')
  | _ => simp only [scV] at hv; simp only [cV]; exact cT_const _ hv

theorem cS_one (σ : Nat → Loc) (v : Value) (n : Nat) (hv : scS n v = true) : (cS σ v).oneCell' = true := by
  cases v with
  | pointer a => cases a <;> rfl
  | slice a _ _ => cases a <;> rfl
  | agg => simp [scS] at hv
  | tuple => simp [scS] at hv
  | _ => rfl
theorem cV_cells (σ : Nat → Loc) (v : Value) (n : Nat) (hv : v.cells.toList.all (scS n) = true) : (cV σ v).cells.toList = v.cells.toList.map (cS σ) := by
  cases v with
  | agg cs => simp [cV, cT, Value.cells]
  | tuple vs => simp [Value.cells, scS] at hv
  | pointer a => cases a <;> rfl
  | slice a _ _ => cases a <;> rfl
  | _ => rfl

/-- How the executor's blocks lie in a world. -/
structure Rel (P : Program) (W0 : World) (S : Nat → Prop) (σ : Nat → Loc) (H : AH) (w : World) : Prop where
  fr : Fr S W0 w
  sc : ∀ (i : Nat) (b : Blk), H[i]? = some b → b.cells.all (scS H.length) = true
  lt : ∀ (i : Nat) (b : Blk), H[i]? = some b → b.live = true → (σ i).blk < w.heap.size
  ro : ∀ (i : Nat) (b : Blk), H[i]? = some b → b.live = true → b.wr = false → ∀ j v, b.cells[j]? = some v → w.cell? ⟨(σ i).blk, (σ i).off + j, none⟩ = some (cS σ v)
  wb : ∀ (i : Nat) (b : Blk), H[i]? = some b → b.live = true → b.wr = true → (σ i).off = 0 ∧ (S (σ i).blk ∨ W0.heap.size ≤ (σ i).blk) ∧ (0 < esz P b.ty → ∀ n, b.cells.length = n * esz P b.ty → n + (σ i).ext ≤ maxLen) ∧
    ∃ tail, tail.length = (σ i).ext * esz P b.ty ∧ w.heap[(σ i).blk]? = some (.cells ⟨b.cells.map (cS σ) ++ tail⟩ b.ty (0, 0))
  inj : ∀ (i j : Nat) (bi bj : Blk), H[i]? = some bi → H[j]? = some bj → bi.live = true → bj.live = true → bi.wr = true → i ≠ j → (σ i).blk ≠ (σ j).blk

section
variable {P : Program} {W0 w : World} {S : Nat → Prop} {σ : Nat → Loc} {H : AH}

theorem Rel.cell (h : Rel P W0 S σ H w) {i : Nat} {b : Blk} (hi : H[i]? = some b) (hl : b.live = true) {j : Nat} {v : Value} (hj : b.cells[j]? = some v) :
    w.cell? ⟨(σ i).blk, (σ i).off + j, none⟩ = some (cS σ v) := by
  cases hw : b.wr with
  | false => exact h.ro i b hi hl hw j v hj
  | true =>
    obtain ⟨ho, _, _, tail, _, hb⟩ := h.wb i b hi hl hw
    rw [ho]
    have hlt : j < b.cells.length := (List.getElem?_eq_some_iff.1 hj).1
    simp only [World.cell?, hb]
    have : (b.cells.map (cS σ) ++ tail)[0 + j]? = some (cS σ v) := by
      rw [Nat.zero_add, List.getElem?_append_left (by simpa using hlt), List.getElem?_map, hj]; rfl
    simpa using this

theorem ld_some {i off n : Nat} {l : List Value} (h : ld H i off n = some l) : ∃ b, H[i]? = some b ∧ b.live = true ∧ l.length = n ∧ ∀ j, j < n → b.cells[off + j]? = l[j]? := by
  unfold ld at h
  split at h
  · rename_i b hb
    cases hl : b.live with
    | false => simp [hl] at h
    | true =>
      simp only [hl, cond_true] at h
      split at h
      · rename_i hlen
        injection h with h
        refine ⟨b, hb, hl, h ▸ hlen, fun j hj => ?_⟩
        rw [← h, List.getElem?_take_of_lt hj, List.getElem?_drop]
      · cases h
  · cases h

theorem ld_sc (h : Rel P W0 S σ H w) {i off n : Nat} {l : List Value} (hl : ld H i off n = some l) : l.all (scS H.length) = true := by
  obtain ⟨b, hb, _, hlen, hj⟩ := ld_some hl
  refine List.all_eq_true.2 fun v hv => ?_
  obtain ⟨j, hjl, rfl⟩ := List.getElem_of_mem hv
  have := hj j (by omega)
  rw [List.getElem?_eq_getElem hjl] at this
  exact List.all_eq_true.1 (h.sc i b hb) _ (List.mem_of_getElem? this)

theorem add_at (b o : Nat) (j : Nat) : (⟨b, o, none⟩ : Addr).add j = ⟨b, o + j, none⟩ := by
  unfold Addr.add; split <;> simp_all

theorem ld_run (h : Rel P W0 S σ H w) {i off n : Nat} {l : List Value} (hl : ld H i off n = some l) :
    (loadCells ⟨(σ i).blk, (σ i).off + off, none⟩ n).run P w = .ok (l.map (cS σ)).toArray w := by
  obtain ⟨b, hb, hlv, hlen, hj⟩ := ld_some hl
  have := run_loadCells_list (P := P) w ⟨(σ i).blk, (σ i).off + off, none⟩ (l.map (cS σ)) (fun j v hv => by
    rw [add_at, Nat.add_assoc]
    have hjn : j < n := by
      have := (List.getElem?_eq_some_iff.1 hv).1
      rw [List.length_map] at this; omega
    rw [List.getElem?_map] at hv
    cases hlj : l[j]? with
    | none => rw [hlj] at hv; cases hv
    | some u =>
      rw [hlj] at hv
      injection hv with hv
      rw [← hv]
      exact h.cell hb hlv ((hj j hjn).trans hlj))
  rw [List.length_map, hlen] at this
  exact this
end
end Go.RX
