/- The executor's memory and the machine's: how they hang together, and what loads, stores and new blocks do to that. -/
import Derived.Test.YtnidbincddpaaaaE2
import Derived.Deep.AppendSrc
namespace Go.RX
open Go Go.RowKit

/-- w' is w but for blocks of S and new ones. -/
structure Fr (S : Nat → Prop) (w w' : World) : Prop where
  os : w'.os = w.os
  tape : w'.tape = w.tape
  output : w'.output = w.output
  size : w.heap.size ≤ w'.heap.size
  block : ∀ k, k < w.heap.size → ¬ S k → w'.heap[k]? = w.heap[k]?

theorem Fr.refl (S : Nat → Prop) (w : World) : Fr S w w := ⟨rfl, rfl, rfl, Nat.le_refl _, fun _ _ _ => rfl⟩
theorem Fr.trans {S S' : Nat → Prop} {a b c : World} (h : Fr S a b) (k : Fr S' b c) (hs : ∀ k, S' k → S k ∨ a.heap.size ≤ k) : Fr S a c :=
  ⟨k.os.trans h.os, k.tape.trans h.tape, k.output.trans h.output, Nat.le_trans h.size k.size, fun i hi hn =>
    (k.block i (Nat.lt_of_lt_of_le hi h.size) (fun h2 => (hs i h2).elim hn (fun h3 => by omega))).trans (h.block i hi hn)⟩
theorem Fr.mono {S S' : Nat → Prop} {a b : World} (h : Fr S a b) (hs : ∀ k, S k → S' k ∨ a.heap.size ≤ k) : Fr S' a b :=
  ⟨h.os, h.tape, h.output, h.size, fun i hi hn => h.block i hi (fun h2 => (hs i h2).elim hn (fun h3 => by omega))⟩
theorem Fr.alloc {S : Nat → Prop} {a w : World} (h : Fr S a w) (o : Obj) : Fr S a (w.alloc o) :=
  h.trans (S' := fun _ => False) ⟨rfl, rfl, rfl, by simp, fun k hk _ => Below.heap_alloc _ _ _ hk⟩ (fun _ hk => hk.elim)
theorem Fr.drew {S : Nat → Prop} {a w : World} (h : Fr S a w) : Fr S a w.drew := ⟨h.os, h.tape, h.output, h.size, h.block⟩
theorem Fr.of_below {w w' : World} (h : Below w.heap.size w w') (S : Nat → Prop) : Fr S w w' := ⟨h.os, h.tape, h.output, h.size, fun k hk _ => h.block k hk⟩
theorem Fr.setCell (w : World) (p : Addr) (u : Value) : Fr (fun k => k = p.block) w (w.setCell p u) :=
  ⟨rfl, rfl, rfl, by simp [World.setCell], fun k _ hn => Below.heap_setCell _ _ _ _ hn⟩
theorem Fr.setCells (g : Nat) : ∀ (vs : List Value) (o : Nat) (w : World), Fr (fun k => k = g) w (w.setCells g o vs)
  | [], _, w => Fr.refl _ w
  | v :: r, o, w => (Fr.setCell w ⟨g, o, none⟩ v).trans (Fr.setCells g r (o + 1) _) (fun _ hk => .inl hk)

theorem heap_setCells (g : Nat) (ty : TypeId) (fz : Nat × Nat) : ∀ (vs : List Value) (o : Nat) (w : World) (l : List Value), w.heap[g]? = some (.cells ⟨l⟩ ty fz) → o + vs.length ≤ l.length →
    (w.setCells g o vs).heap[g]? = some (.cells ⟨l.take o ++ vs ++ l.drop (o + vs.length)⟩ ty fz) := by
  intro vs
  induction vs with
  | nil =>
    intro o w l h _
    have e : l.take o ++ [] ++ l.drop (o + ([] : List Value).length) = l := by simp
    rw [e]; exact h
  | cons v r ih =>
    intro o w l h hl
    simp only [List.length_cons] at hl
    have h1 : (w.setCell ⟨g, o, none⟩ v).heap[g]? = some (.cells ⟨l.set o v⟩ ty fz) := by
      simp only [World.setCell, Array.getElem?_modify, if_pos trivial, h, Option.map_some]
      simp
    rw [World.setCells, ih (o + 1) _ _ h1 (by simp; omega)]
    congr 3
    have ho : o < l.length := by omega
    rw [List.take_add_one, List.take_set_of_le (Nat.le_refl o), List.getElem?_set_self ho, List.drop_set_of_lt (by omega)]
    simp only [Option.toList_some, List.append_assoc, List.cons_append, List.nil_append, List.length_cons]
    rw [show o + 1 + r.length = o + (r.length + 1) by omega]

/-- Blocks that may not be written stay. -/
structure Keep (H H' : AH) : Prop where
  len : H.size ≤ H'.size
  ro : ∀ (i : Nat) (b : Blk), H.get i = some b → b.wr = false → H'.get i = some b
  back : ∀ (i : Nat) (b : Blk), H'.get i = some b → b.wr = false → H.get i = some b
theorem Keep.refl (H : AH) : Keep H H := ⟨Nat.le_refl _, fun _ _ h _ => h, fun _ _ h _ => h⟩
theorem Keep.trans {a b c : AH} (h : Keep a b) (k : Keep b c) : Keep a c :=
  ⟨Nat.le_trans h.len k.len, fun i x hx hw => k.ro i x (h.ro i x hx hw) hw, fun i x hx hw => h.back i x (k.back i x hx hw) hw⟩
theorem Keep.push {a b : AH} (h : Keep a b) (x : Blk) (hx : x.wr = true) : Keep a (b.push x) := by
  refine ⟨by have := h.len; simp; omega, fun i y hy hw => ?_, fun i y hy hw => ?_⟩
  · have h2 := h.ro i y hy hw
    have := AH.get_lt h2
    rw [AH.get_push, if_neg (by omega)]; exact h2
  · rcases AH.push_inv hy with ⟨_, hy⟩ | ⟨_, rfl⟩
    · exact h.back i y hy hw
    · rw [hx] at hw; cases hw
theorem Keep.set {a : AH} {i : Nat} {b x : Blk} (hb : a.get i = some b) (hw : b.wr = true) (hx : x.wr = true) : Keep a (a.set i x) := by
  refine ⟨by simp, fun j y hy hwy => ?_, fun j y hy hwy => ?_⟩
  · rw [AH.get_set, if_neg]
    · exact hy
    · rintro ⟨rfl, _⟩
      rw [hb] at hy
      injection hy with hy
      subst hy
      rw [hw] at hwy; cases hwy
  · rcases AH.set_inv hy with ⟨_, rfl⟩ | ⟨_, hy⟩
    · rw [hx] at hwy; cases hwy
    · exact hy

/-- Nothing below n is frozen. -/
def Unfrozen (fz : Nat × Nat) (n : Nat) : Prop := ∀ o, o < n → ¬ (fz.1 ≤ o ∧ o < fz.2)
theorem Unfrozen.mono {fz : Nat × Nat} {n m : Nat} (h : Unfrozen fz n) (hm : m ≤ n) : Unfrozen fz m := fun o ho => h o (by omega)
theorem unfrozen0 (n : Nat) : Unfrozen (0, 0) n := fun o _ => by simp

/-- A row of a world: its cells at a place. -/
def RowAt (w : World) (l : Loc) (ty : TypeId) (z : Nat) (cells : List Value) : Prop :=
  ∃ pre tail fz, pre.length = l.off ∧ l.ext * z ≤ tail.length ∧ w.heap[l.blk]? = some (.cells ⟨pre ++ cells ++ tail⟩ ty fz) ∧ Unfrozen fz (pre ++ cells ++ tail).length
/-- A map of a world. -/
def MapAt (w : World) (g : Nat) (es : List (Value × Value)) : Prop :=
  ∃ (entries : Array MapEntry) (clock : Nat), w.heap[g]? = some (.map entries clock) ∧ entries.toList.map (fun e => (e.key, e.val)) = es ∧ (∀ e ∈ entries.toList, e.born < clock) ∧ entries.toList.Pairwise (fun a b => a.born < b.born)
def mapC (σ : Nat → Loc) (p : Value × Value) : Value × Value := (cS σ p.1, cT σ p.2)
def scP (n : Nat) (p : Value × Value) : Bool := scS n p.1 && scT n p.2

theorem RowAt.lt {w : World} {l : Loc} {ty : TypeId} {z : Nat} {cells : List Value} (h : RowAt w l ty z cells) : l.blk < w.heap.size := by
  obtain ⟨_, _, _, _, _, h, _⟩ := h
  exact (Array.getElem?_eq_some_iff.1 h).1
theorem RowAt.cell {w : World} {l : Loc} {ty : TypeId} {z : Nat} {cells : List Value} (h : RowAt w l ty z cells) {j : Nat} {v : Value} (hj : cells[j]? = some v) : w.cell? ⟨l.blk, l.off + j, none⟩ = some v := by
  obtain ⟨pre, tail, fz, h1, _, h, _⟩ := h
  simp only [World.cell?, h]
  have hlt := (List.getElem?_eq_some_iff.1 hj).1
  have : (pre ++ cells ++ tail)[l.off + j]? = some v := by
    rw [List.append_assoc, List.getElem?_append_right (by omega), List.getElem?_append_left (by omega)]
    rw [h1, Nat.add_sub_cancel_left]; exact hj
  simpa using this
theorem RowAt.of_heap {w w' : World} {l : Loc} {ty : TypeId} {z : Nat} {cells : List Value} (h : RowAt w l ty z cells) (he : w'.heap[l.blk]? = w.heap[l.blk]?) : RowAt w' l ty z cells := by
  obtain ⟨pre, tail, fz, h1, h2, h3, h4⟩ := h
  exact ⟨pre, tail, fz, h1, h2, he.trans h3, h4⟩
theorem MapAt.of_heap {w w' : World} {g : Nat} {es : List (Value × Value)} (h : MapAt w g es) (he : w'.heap[g]? = w.heap[g]?) : MapAt w' g es := by
  obtain ⟨entries, clock, h1, h2⟩ := h
  exact ⟨entries, clock, he.trans h1, h2⟩
theorem MapAt.lt {w : World} {g : Nat} {es : List (Value × Value)} (h : MapAt w g es) : g < w.heap.size := by
  obtain ⟨_, _, h, _⟩ := h
  exact (Array.getElem?_eq_some_iff.1 h).1

/-- How the executor's blocks lie in a world. -/
structure Rel (P : Program) (W0 : World) (S : Nat → Prop) (σ : Nat → Loc) (H : AH) (w : World) : Prop where
  fr : Fr S W0 w
  sc : ∀ (i : Nat) (b : Blk), H.get i = some b → b.cells.all (scS H.size) = true
  pl : ∀ (i : Nat) (b : Blk), H.get i = some b → b.pl = true → b.cells.all (scS 0) = true
  lt : ∀ (i : Nat) (b : Blk), H.get i = some b → b.act = true → (σ i).blk < w.heap.size
  sp : ∀ (i : Nat) (b : Blk), H.get i = some b → b.live = true → (σ i).spot = none
  ro : ∀ (i : Nat) (b : Blk), H.get i = some b → b.live = true → b.wr = false → ∀ j v, b.cells[j]? = some v → w.cell? ⟨(σ i).blk, (σ i).off + j, none⟩ = some (cS σ v)
  wb : ∀ (i : Nat) (b : Blk), H.get i = some b → b.live = true → b.wr = true → (S (σ i).blk ∨ W0.heap.size ≤ (σ i).blk) ∧ RowAt w (σ i) b.ty (esz P b.ty) (b.cells.map (cS σ))
  mp : ∀ (i : Nat) (b : Blk) (es : List (Value × Value)), H.get i = some b → b.mp = some es → b.wr = true ∧ (S (σ i).blk ∨ W0.heap.size ≤ (σ i).blk) ∧ es.all (scP H.size) = true ∧ MapAt w (σ i).blk (es.map (mapC σ))
  lm : ∀ (i : Nat) (b : Blk), H.get i = some b → b.live = true → b.mp = none
  inj : ∀ (i j : Nat) (bi bj : Blk), H.get i = some bi → H.get j = some bj → bi.act = true → bj.act = true → bi.wr = true → i ≠ j → (σ i).blk ≠ (σ j).blk

theorem act_live {b : Blk} (h : b.live = true) : b.act = true := by simp [Blk.act, h]
theorem act_mp {b : Blk} {es : List (Value × Value)} (h : b.mp = some es) : b.act = true := by simp [Blk.act, h]
theorem act_dead {b : Blk} (h : b.live = false) (hm : b.mp = none) : b.act = false := by simp [Blk.act, h, hm]

theorem mapC_ext {n : Nat} {σ σ' : Nat → Loc} (h : Ext n σ σ') {es : List (Value × Value)} (hs : es.all (scP n) = true) : es.map (mapC σ') = es.map (mapC σ) :=
  List.map_congr_left fun p hp => by
    have := List.all_eq_true.1 hs p hp
    simp only [scP, Bool.and_eq_true] at this
    simp only [mapC, cS_ext h _ this.1, cT_ext h _ this.2]
theorem all_scP_mono {n m : Nat} (h : n ≤ m) {es : List (Value × Value)} (hs : es.all (scP n) = true) : es.all (scP m) = true :=
  List.all_eq_true.2 fun p hp => by
    have := List.all_eq_true.1 hs p hp
    simp only [scP, Bool.and_eq_true] at this ⊢
    exact ⟨scS_mono h _ this.1, scT_mono h _ this.2⟩

section
variable {P : Program} {W0 w : World} {S : Nat → Prop} {σ : Nat → Loc} {H : AH}

theorem Rel.cell (h : Rel P W0 S σ H w) {i : Nat} {b : Blk} (hi : H.get i = some b) (hl : b.live = true) {j : Nat} {v : Value} (hj : b.cells[j]? = some v) :
    w.cell? ⟨(σ i).blk, (σ i).off + j, none⟩ = some (cS σ v) := by
  cases hw : b.wr with
  | false => exact h.ro i b hi hl hw j v hj
  | true =>
    obtain ⟨_, hb⟩ := h.wb i b hi hl hw
    exact hb.cell (by rw [List.getElem?_map, hj]; rfl)

theorem Rel.sc' (h : Rel P W0 S σ H w) {i : Nat} {b : Blk} (hi : H.get i = some b) : ∀ v ∈ b.cells, scS H.size v = true := fun v hv => List.all_eq_true.1 (h.sc i b hi) v hv

/-- No block names a block that is not there. -/
def Scoped (H : AH) : Prop := ∀ (i : Nat) (b : Blk), H.get i = some b → b.cells.all (scS H.size) = true
/-- Rows that are known have plain addresses. -/
def Spots (σ : Nat → Loc) (H : AH) : Prop := ∀ (i : Nat) (b : Blk), H.get i = some b → b.live = true → (σ i).spot = none
/-- The cells of a block stand in the world. -/
def Known (σ : Nat → Loc) (H : AH) (w : World) (i : Nat) : Prop := ∀ b, H.get i = some b → b.live = true → ∀ j v, b.cells[j]? = some v → w.cell? ⟨(σ i).blk, (σ i).off + j, none⟩ = some (cS σ v)
theorem Rel.known (h : Rel P W0 S σ H w) (i : Nat) : Known σ H w i := fun _ hi hl _ _ hj => h.cell hi hl hj
theorem Scoped.mem (h : Scoped H) {i : Nat} {b : Blk} (hi : H.get i = some b) : ∀ v ∈ b.cells, scS H.size v = true := fun v hv => List.all_eq_true.1 (h i b hi) v hv

theorem ld_some {i off n : Nat} {l : List Value} (h : ld H i off n = some l) : ∃ b, H.get i = some b ∧ b.live = true ∧ l.length = n ∧ (∀ j, j < n → b.cells[off + j]? = l[j]?) ∧ l = (b.cells.drop off).take n := by
  unfold ld at h
  split at h
  · rename_i b hb
    cases hl : (b.live && Nat.beq ((b.cells.drop off).take n).length n) with
    | false => rw [hl, cond_false] at h; cases h
    | true =>
      rw [hl, cond_true] at h
      simp only [Bool.and_eq_true, Nat.beq_eq] at hl
      injection h with h
      refine ⟨b, hb, hl.1, h ▸ hl.2, fun j hj => ?_, h.symm⟩
      rw [← h, List.getElem?_take_of_lt hj, List.getElem?_drop]
  · cases h

theorem ld_sc (h : Scoped H) {i off n : Nat} {l : List Value} (hl : ld H i off n = some l) : l.all (scS H.size) = true := by
  obtain ⟨b, hb, _, _, _, rfl⟩ := ld_some hl
  exact List.all_eq_true.2 fun v hv => h.mem hb v (List.mem_of_mem_drop (List.mem_of_mem_take hv))
theorem ld_pl (h : Rel P W0 S σ H w) {i off n : Nat} {l : List Value} {b : Blk} (hl : ld H i off n = some l) (hb : H.get i = some b) (hp : b.pl = true) : l.all (scS 0) = true := by
  obtain ⟨b', hb', _, _, _, rfl⟩ := ld_some hl
  rw [hb] at hb'
  injection hb' with hb'; subst hb'
  exact List.all_eq_true.2 fun v hv => List.all_eq_true.1 (h.pl i b hb hp) v (List.mem_of_mem_drop (List.mem_of_mem_take hv))

theorem add_at (b o : Nat) (j : Nat) : (⟨b, o, none⟩ : Addr).add j = ⟨b, o + j, none⟩ := by
  unfold Addr.add; split <;> simp_all

theorem ld_cells {j : Nat} (h : Known σ H w j) {off n : Nat} {l : List Value} (hl : ld H j off n = some l) : ∀ k u, l[k]? = some u → w.cell? ⟨(σ j).blk, (σ j).off + off + k, none⟩ = some (cS σ u) := by
  intro k u hk
  obtain ⟨b, hb, hlv, hlen, hj, _⟩ := ld_some hl
  have hkn : k < n := by have := (List.getElem?_eq_some_iff.1 hk).1; omega
  rw [Nat.add_assoc]
  exact h b hb hlv _ _ ((hj k hkn).trans hk)

theorem ld_run {i : Nat} (h : Known σ H w i) {off n : Nat} {l : List Value} (hl : ld H i off n = some l) :
    (loadCells ⟨(σ i).blk, (σ i).off + off, none⟩ n).run P w = .ok (l.map (cS σ)).toArray w := by
  obtain ⟨b, hb, hlv, hlen, _⟩ := ld_some hl
  have := run_loadCells_list (P := P) w ⟨(σ i).blk, (σ i).off + off, none⟩ (l.map (cS σ)) (fun j v hv => by
    rw [add_at]
    rw [List.getElem?_map] at hv
    cases hlj : l[j]? with
    | none => rw [hlj] at hv; cases hv
    | some u =>
      rw [hlj] at hv
      injection hv with hv
      rw [← hv]
      exact ld_cells h hl j u hlj)
  rw [List.length_map, hlen] at this
  exact this

def up (σ : Nat → Loc) (n : Nat) (l : Loc) : Nat → Loc := fun i => if i = n then l else σ i
theorem up_ext (σ : Nat → Loc) (n : Nat) (l : Loc) : Ext n σ (up σ n l) := fun i hi => by simp [up]; omega
theorem up_at (σ : Nat → Loc) (n : Nat) (l : Loc) : up σ n l n = l := by simp [up]
theorem up_ne (σ : Nat → Loc) {n i : Nat} (l : Loc) (h : i ≠ n) : up σ n l i = σ i := by simp [up, h]

/-- A new block: a row, or a map. -/
theorem Rel.push (h : Rel P W0 S σ H w) {w' : World} {T : Nat → Prop} (hf : Fr T w w') (hT : ∀ (i : Nat) (b : Blk), H.get i = some b → b.act = true → ¬ T (σ i).blk) (hTS : ∀ k, T k → S k ∨ W0.heap.size ≤ k)
    (l : Loc) (x : Blk) (hx : x.wr = true) (hg : ∀ (i : Nat) (b : Blk), H.get i = some b → b.act = true → (σ i).blk ≠ l.blk) (hgS : S l.blk ∨ W0.heap.size ≤ l.blk) (hsp : l.spot = none)
    (hl : x.cells.all (scS H.size) = true) (hp : x.pl = true → x.cells.all (scS 0) = true)
    (hrow : x.live = true → RowAt w' l x.ty (esz P x.ty) (x.cells.map (cS σ)))
    (hmap : ∀ es, x.mp = some es → es.all (scP H.size) = true ∧ MapAt w' l.blk (es.map (mapC σ))) (hlm : x.live = true → x.mp = none := by intro _; rfl) :
    Rel P W0 S (up σ H.size l) (H.push x) w' := by
  have hext := up_ext σ H.size l
  have hsame : ∀ (i : Nat) (b : Blk), H.get i = some b → b.act = true → w'.heap[(σ i).blk]? = w.heap[(σ i).blk]? := fun i b hi ha => hf.block _ (h.lt i b hi ha) (hT i b hi ha)
  refine ⟨h.fr.trans hf hTS, ?_, ?_, ?_, ?_, ?_, ?_, ?_, ?_, ?_⟩
  · intro i b hi
    rcases AH.push_inv hi with ⟨_, hi⟩ | ⟨_, rfl⟩
    · exact all_scS_mono (by simp) _ (h.sc i b hi)
    · exact all_scS_mono (by simp) _ hl
  · intro i b hi hb
    rcases AH.push_inv hi with ⟨_, hi⟩ | ⟨_, rfl⟩
    · exact h.pl i b hi hb
    · exact hp hb
  · intro i b hi ha
    rcases AH.push_inv hi with ⟨hlt, hi⟩ | ⟨rfl, rfl⟩
    · rw [up_ne _ _ (by omega)]
      exact Nat.lt_of_lt_of_le (h.lt i b hi ha) hf.size
    · rw [up_at]
      simp only [Blk.act, Bool.or_eq_true, Option.isSome_iff_exists] at ha
      rcases ha with ha | ⟨es, ha⟩
      · exact (hrow ha).lt
      · exact (hmap es ha).2.lt
  · intro i b hi hb
    rcases AH.push_inv hi with ⟨hlt, hi⟩ | ⟨rfl, rfl⟩
    · rw [up_ne _ _ (by omega)]; exact h.sp i b hi hb
    · rw [up_at]; exact hsp
  · intro i b hi hlv hw j v hj
    rcases AH.push_inv hi with ⟨hlt, hi⟩ | ⟨rfl, rfl⟩
    · rw [up_ne _ _ (by omega), cS_ext hext v (h.sc' hi v (List.mem_of_getElem? hj))]
      rw [World.cell?_of_block (w := w) (hsame i b hi (act_live hlv))]
      exact h.ro i b hi hlv hw j v hj
    · rw [hx] at hw; cases hw
  · intro i b hi hlv hw
    rcases AH.push_inv hi with ⟨hlt, hi⟩ | ⟨rfl, rfl⟩
    · rw [up_ne _ _ (by omega), map_cS_ext hext _ (h.sc' hi)]
      obtain ⟨h1, h2⟩ := h.wb i b hi hlv hw
      exact ⟨h1, h2.of_heap (hsame i b hi (act_live hlv))⟩
    · rw [up_at, map_cS_ext hext _ (fun v hv => List.all_eq_true.1 hl v hv)]
      exact ⟨hgS, hrow hlv⟩
  · intro i b es hi hm
    rcases AH.push_inv hi with ⟨hlt, hi⟩ | ⟨rfl, rfl⟩
    · obtain ⟨h1, h2, h3, h4⟩ := h.mp i b es hi hm
      rw [up_ne _ _ (by omega), mapC_ext hext h3]
      exact ⟨h1, h2, all_scP_mono (by simp) h3, h4.of_heap (hsame i b hi (act_mp hm))⟩
    · obtain ⟨h3, h4⟩ := hmap es hm
      rw [up_at, mapC_ext hext h3]
      exact ⟨hx, hgS, all_scP_mono (by simp) h3, h4⟩
  · intro i b hi hb
    rcases AH.push_inv hi with ⟨_, hi⟩ | ⟨_, rfl⟩
    · exact h.lm i b hi hb
    · exact hlm hb
  · intro i j bi bj hi hj hai haj hw hne
    rcases AH.push_inv hi with ⟨hlti, hi2⟩ | ⟨ei, _⟩ <;> rcases AH.push_inv hj with ⟨hltj, hj2⟩ | ⟨ej, _⟩
    · rw [up_ne _ _ (by omega), up_ne _ _ (by omega)]; exact h.inj i j bi bj hi2 hj2 hai haj hw hne
    · rw [up_ne _ _ (show i ≠ H.size by omega), ej, up_at]; exact hg i bi hi2 hai
    · rw [up_ne _ _ (show j ≠ H.size by omega), ei, up_at]; exact (hg j bj hj2 haj).symm
    · exact absurd (ei.trans ej.symm) hne

theorem Rel.alloc (h : Rel P W0 S σ H w) (l : List Value) (t : TypeId) (pl : Bool) (hl : l.all (scS H.size) = true) (hp : pl = true → l.all (scS 0) = true) :
    Rel P W0 S (up σ H.size ⟨w.heap.size, 0, 0, none⟩) (H.push (row l t pl)) (w.alloc (.cells ⟨l.map (cS σ)⟩ t)) :=
  h.push (T := fun _ => False) ((Fr.refl _ w).alloc _) (fun _ _ _ _ hh => hh) (fun _ hh => hh.elim) ⟨w.heap.size, 0, 0, none⟩ _ rfl (fun i b hi ha => by have := h.lt i b hi ha; exact Nat.ne_of_lt this) (.inr h.fr.size) rfl hl hp
    (fun _ => ⟨[], [], (0, 0), rfl, by simp, by show (w.heap.push _)[w.heap.size]? = _; simp, unfrozen0 _⟩) (fun es hm => by cases hm)

theorem scal_all {l : List Value} (h : l.all isScal = true) (n : Nat) : l.all (scS n) = true :=
  List.all_eq_true.2 fun v hv => isScal_sc (List.all_eq_true.1 h v hv) n

/-- A block is given up. -/
theorem Rel.kill (h : Rel P W0 S σ H w) {i : Nat} {b : Blk} (hi : H.get i = some b) : Rel P W0 S σ (H.set i b.kill) w := by
  have key : ∀ (j : Nat) (b' : Blk), (H.set i b.kill).get j = some b' → b'.act = true → j ≠ i ∧ H.get j = some b' := by
    intro j b' hj ha
    rcases AH.set_inv hj with ⟨_, rfl⟩ | h2
    · cases ha
    · exact h2
  refine ⟨h.fr, ?_, ?_, fun j b' hj ha => h.lt j b' (key j b' hj ha).2 ha, fun j b' hj hl => h.sp j b' (key j b' hj (act_live hl)).2 hl, fun j b' hj hl => h.ro j b' (key j b' hj (act_live hl)).2 hl,
    fun j b' hj hl => h.wb j b' (key j b' hj (act_live hl)).2 hl, fun j b' es hj hm => h.mp j b' es (key j b' hj (act_mp hm)).2 hm, fun j b' hj hl => h.lm j b' (key j b' hj (act_live hl)).2 hl,
    fun j k bj bk hj hk haj hak => h.inj j k bj bk (key j bj hj haj).2 (key k bk hk hak).2 haj hak⟩
  · intro j b' hj
    rcases AH.set_inv hj with ⟨_, rfl⟩ | ⟨_, hj⟩
    · exact h.sc i b hi
    · exact h.sc j b' hj
  · intro j b' hj hp
    rcases AH.set_inv hj with ⟨_, rfl⟩ | ⟨_, hj⟩
    · exact h.pl i b hi hp
    · exact h.pl j b' hj hp
theorem kill_get {i : Nat} {b : Blk} {j : Nat} {b' : Blk} (hj : (H.set i b.kill).get j = some b') (ha : b'.act = true) : j ≠ i ∧ H.get j = some b' := by
  rcases AH.set_inv hj with ⟨_, rfl⟩ | h2
  · cases ha
  · exact h2

/-- A block of ours becomes another one, in its place. -/
theorem Rel.write (h : Rel P W0 S σ H w) {i : Nat} {b x : Blk} (hi : H.get i = some b) (ha : b.act = true) (hw : b.wr = true) (hx : x.wr = true) (hgS : S (σ i).blk ∨ W0.heap.size ≤ (σ i).blk) (hspt : x.live = true → (σ i).spot = none)
    (hl : x.cells.all (scS H.size) = true) (hp : x.pl = true → x.cells.all (scS 0) = true) {w' : World} (hfr : Fr (fun k => k = (σ i).blk) w w')
    (hrow : x.live = true → RowAt w' (σ i) x.ty (esz P x.ty) (x.cells.map (cS σ)))
    (hmap : ∀ es, x.mp = some es → es.all (scP H.size) = true ∧ MapAt w' (σ i).blk (es.map (mapC σ))) (hlm : x.live = true → x.mp = none := by intro _; rfl) :
    Rel P W0 S σ (H.set i x) w' := by
  have hil := AH.get_lt hi
  have hsame : ∀ (j : Nat) (b' : Blk), j ≠ i → H.get j = some b' → b'.act = true → w'.heap[(σ j).blk]? = w.heap[(σ j).blk]? := fun j b' hne hj ha' =>
    hfr.block _ (h.lt j b' hj ha') (fun e => h.inj i j b b' hi hj ha ha' hw (Ne.symm hne) e.symm)
  refine ⟨h.fr.trans hfr (fun k hk => by subst hk; exact hgS), ?_, ?_, ?_, ?_, ?_, ?_, ?_, ?_, ?_⟩
  · intro j b' hj
    rcases AH.set_inv hj with ⟨_, rfl⟩ | ⟨_, hj⟩
    · exact hl
    · exact h.sc j b' hj
  · intro j b' hj hb
    rcases AH.set_inv hj with ⟨_, rfl⟩ | ⟨_, hj⟩
    · exact hp hb
    · exact h.pl j b' hj hb
  · intro j b' hj hb
    rcases AH.set_inv hj with ⟨rfl, rfl⟩ | ⟨_, hj⟩
    · exact Nat.lt_of_lt_of_le (h.lt j b hi ha) hfr.size
    · exact Nat.lt_of_lt_of_le (h.lt j b' hj hb) hfr.size
  · intro j b' hj hb
    rcases AH.set_inv hj with ⟨rfl, rfl⟩ | ⟨_, hj⟩
    · exact hspt hb
    · exact h.sp j b' hj hb
  · intro j b' hj hlj hwj k v hk
    rcases AH.set_inv hj with ⟨rfl, rfl⟩ | ⟨hne, hj⟩
    · rw [hx] at hwj; cases hwj
    · rw [World.cell?_of_block (w := w) (hsame j b' hne hj (act_live hlj))]
      exact h.ro j b' hj hlj hwj k v hk
  · intro j b' hj hlj hwj
    rcases AH.set_inv hj with ⟨rfl, rfl⟩ | ⟨hne, hj⟩
    · exact ⟨hgS, hrow hlj⟩
    · obtain ⟨g1, g2⟩ := h.wb j b' hj hlj hwj
      exact ⟨g1, g2.of_heap (hsame j b' hne hj (act_live hlj))⟩
  · intro j b' es hj hm
    rcases AH.set_inv hj with ⟨rfl, rfl⟩ | ⟨hne, hj⟩
    · obtain ⟨h3, h4⟩ := hmap es hm
      exact ⟨hx, hgS, h3, h4⟩
    · obtain ⟨g1, g2, g3, g4⟩ := h.mp j b' es hj hm
      exact ⟨g1, g2, g3, g4.of_heap (hsame j b' hne hj (act_mp hm))⟩
  · intro j b' hj hb
    rcases AH.set_inv hj with ⟨_, rfl⟩ | ⟨_, hj⟩
    · exact hlm hb
    · exact h.lm j b' hj hb
  · intro j k bj bk hj hk haj hak hwj hne
    rcases AH.set_inv hj with ⟨ej, _⟩ | ⟨hnej, hj2⟩ <;> rcases AH.set_inv hk with ⟨ek, _⟩ | ⟨hnek, hk2⟩
    · exact absurd (ej.trans ek.symm) hne
    · rw [ej]; exact h.inj i k b bk hi hk2 ha hak hw (fun e => hnek e.symm)
    · rw [ek]; exact h.inj j i bj b hj2 hi haj ha hwj hnej
    · exact h.inj j k bj bk hj2 hk2 haj hak hwj hne

theorem sizeB_run {t : TypeId} {n : Nat} (h : sizeB P t = some n) (w : World) : (sizeOf t).run P w = .ok n w := by
  unfold sizeB at h
  cases hi : P.info? t with
  | none => simp [hi] at h
  | some i => simp [hi] at h; simp [sizeOf, typeInfo, hi, h]

theorem isAgg_run {t : TypeId} {d : TypeDesc} (h : P.underlying t = some d) (w : World) : (isAgg t).run P w = .ok (isAggD d) w := by
  unfold isAgg
  rw [Sem.run_bind, run_underlying h w]
  cases d <;> rfl

theorem part_run {t : TypeId} {cs : Array Value} {off : Nat} {v : Value} (h : partB P t cs off = some v) (w : World) : (part t cs off).run P w = .ok v w := by
  unfold partB at h
  split at h
  · rename_i d n hd hn
    have hs : sizeB P t = some n := hn
    unfold part
    rw [Sem.run_bind, isAgg_run hd w]
    cases ha : isAggD d with
    | true =>
      simp only [ha, cond_true] at h
      injection h with h
      simp [sizeB_run hs w, h]
    | false =>
      simp only [ha, cond_false] at h
      simp [h]
  · cases h

theorem all_toArray {n : Nat} {l : List Value} (h : l.all (scS n) = true) : scV n (.agg l.toArray) = true := by
  simpa [scV, scT] using h

theorem aload_run (hsc : Scoped H) {t : TypeId} {p v : Value} (h : ∀ a, p = .pointer (some a) → Known σ H w a.block) (ha : aload P H t p = some v) :
    (Instr.loadAt t (cV σ p)).run P w = .ok (cV σ v) w ∧ scV H.size v = true := by
  unfold aload at ha
  split at ha
  · rename_i i off
    have h := h _ rfl
    split at ha
    · rename_i d n hd hn
      have e : cV σ (.pointer (some ⟨i, off, none⟩)) = .pointer (some ⟨(σ i).blk, (σ i).off + off, none⟩) := rfl
      rw [e]
      cases hagg : isAggD d with
      | true =>
        simp only [hagg, cond_true] at ha
        split at ha
        · rename_i l hl
          injection ha with ha
          subst ha
          refine ⟨?_, all_toArray (ld_sc hsc hl)⟩
          simp only [Instr.loadAt, Instr.sureAddr, Sem.run_bind, Sem.run_pure, Result.andThen_ok, loadVar, isAgg_run hd w, hagg, if_true, sizeB_run hn w, ld_run h hl]
          simp [cV, cT]
        · cases ha
      | false =>
        simp only [hagg, cond_false] at ha
        split at ha
        · rename_i b hb
          cases hlv : b.live with
          | false => rw [hlv, cond_false] at ha; cases ha
          | true =>
            rw [hlv, cond_true] at ha
            have hs := hsc.mem hb v (List.mem_of_getElem? ha)
            refine ⟨?_, scV_of_scS hs⟩
            have hc := h b hb hlv _ _ ha
            simp only [Instr.loadAt, Instr.sureAddr, Sem.run_bind, Sem.run_pure, Result.andThen_ok, loadVar, isAgg_run hd w, hagg, Bool.false_eq_true, if_false, run_load]
            rw [hc, cV_of_scS hs]
        · cases ha
    · cases ha
  · cases ha

theorem astore_run (h : Rel P W0 S σ H w) {t : TypeId} {p v : Value} {H' : AH} (ha : astore P H t p v = some H') :
    ∃ w', (Instr.storeAt t (cV σ p) (cV σ v)).run P w = .ok () w' ∧ Rel P W0 S σ H' w' ∧ H'.size = H.size ∧ Keep H H' := by
  unfold astore at ha
  split at ha
  · rename_i i off
    split at ha
    · rename_i n b hn hb
      cases hc : (Nat.beq v.cells.size n && Nat.ble (off + n) b.cells.length && b.wr && b.live && v.cells.toList.all (scS H.size) && (!b.pl || v.cells.toList.all (scS 0))) with
      | false => rw [hc, cond_false] at ha; cases ha
      | true =>
        rw [hc, cond_true] at ha
        simp only [Bool.and_eq_true, Nat.beq_eq, Nat.ble_eq, Bool.or_eq_true, Bool.not_eq_true'] at hc
        obtain ⟨⟨⟨⟨⟨h1, h2⟩, h3⟩, h4⟩, h5⟩, h6⟩ := hc
        injection ha with ha
        subst ha
        obtain ⟨g1, pre, tl, fz, g2, g3, g4, g5⟩ := h.wb i b hb h4 h3
        have hcells := cV_cells σ v H.size h5
        have hvl : v.cells.toList.length = n := by rw [← h1]; simp
        have hgot : ∀ j, j < (v.cells.toList.map (cS σ)).length → (w.cell? ⟨(σ i).blk, (σ i).off + off + j, none⟩).isSome = true := by
          intro j hj
          rw [List.length_map, hvl] at hj
          rw [Nat.add_assoc, h.cell hb h4 (j := off + j) (v := b.cells[off + j]'(by omega)) (List.getElem?_eq_getElem _)]; rfl
        have hfz : ∀ j, j < (v.cells.toList.map (cS σ)).length → w.frozen? ⟨(σ i).blk, (σ i).off + off + j, none⟩ = false := by
          intro j hj
          rw [List.length_map, hvl] at hj
          simp only [World.frozen?, g4]
          have := g5 ((σ i).off + off + j) (by simp; omega)
          simp only [Bool.and_eq_false_iff, decide_eq_false_iff_not]
          by_cases hf : fz.1 ≤ (σ i).off + off + j
          · exact .inr (fun h2 => this ⟨hf, h2⟩)
          · exact .inl hf
        have hst := run_storeCells_cells (P := P) (σ i).blk ((σ i).off + off) (v.cells.toList.map (cS σ)) 0 w (by simpa using hgot) (by simpa using hfz) (by
          intro u hu
          obtain ⟨x, hx, rfl⟩ := List.mem_map.1 hu
          exact cS_one σ x H.size (List.all_eq_true.1 h5 x hx))
        rw [Nat.add_zero] at hst
        have e : cV σ (.pointer (some ⟨i, off, none⟩)) = .pointer (some ⟨(σ i).blk, (σ i).off + off, none⟩) := rfl
        have hsz : (cV σ v).cells.size = n := by
          have := congrArg List.length hcells
          simp at this
          rw [this]; simpa using hvl
        have hrun : (Instr.storeAt t (.pointer (some ⟨(σ i).blk, (σ i).off + off, none⟩)) (cV σ v)).run P w = (storeCells ⟨(σ i).blk, (σ i).off + off, none⟩ (v.cells.toList.map (cS σ))).run P w := by
          simp only [Instr.storeAt, Instr.sureAddr, Sem.run_bind, Sem.run_pure, Result.andThen_ok, storeVar, sizeB_run hn w, hsz, ne_eq, not_true, if_false, hcells]
        rw [e]
        refine ⟨_, hrun.trans hst, h.write hb (act_live h4) h3 rfl g1 (fun _ => h.sp i b hb h4) ?_ ?_ (Fr.setCells _ _ _ _) (fun _ => ?_) (fun es hm => by cases hm), by simp, Keep.set hb h3 rfl⟩
        · have h0 := h.sc i b hb
          simp only [List.all_append, Bool.and_eq_true]
          refine ⟨⟨?_, h5⟩, ?_⟩
          · exact List.all_eq_true.2 fun u hu => List.all_eq_true.1 h0 u (List.mem_of_mem_take hu)
          · exact List.all_eq_true.2 fun u hu => List.all_eq_true.1 h0 u (List.mem_of_mem_drop hu)
        · intro hp
          have hp' : b.pl = true := hp
          have h0 := h.pl i b hb hp'
          rw [hp'] at h6
          simp only [List.all_append, Bool.and_eq_true]
          refine ⟨⟨?_, h6.resolve_left (by simp)⟩, ?_⟩
          · exact List.all_eq_true.2 fun u hu => List.all_eq_true.1 h0 u (List.mem_of_mem_take hu)
          · exact List.all_eq_true.2 fun u hu => List.all_eq_true.1 h0 u (List.mem_of_mem_drop hu)
        · have hh := heap_setCells (σ i).blk b.ty fz (v.cells.toList.map (cS σ)) ((σ i).off + off) w _ g4 (by simp; omega)
          refine ⟨pre, tl, fz, g2, g3, ?_, ?_⟩
          · rw [hh]
            congr 2
            congr 1
            rw [List.length_map, ← g2]
            have e1 : (pre ++ b.cells.map (cS σ) ++ tl).take (pre.length + off) = pre ++ (b.cells.take off).map (cS σ) := by
              rw [List.append_assoc, List.take_length_add_append, List.take_append_of_le_length (by simp; omega), List.map_take]
            have e2 : (pre ++ b.cells.map (cS σ) ++ tl).drop (pre.length + off + v.cells.toList.length) = (b.cells.drop (off + v.cells.toList.length)).map (cS σ) ++ tl := by
              rw [List.append_assoc, Nat.add_assoc, List.drop_length_add_append, List.drop_append_of_le_length (by rw [List.length_map]; omega), List.map_drop]
            rw [e1, e2]
            simp only [List.map_append, List.append_assoc]
          · refine g5.mono ?_
            simp only [List.length_append, List.length_map, List.length_take, List.length_drop]
            omega
    · cases ha
  · cases ha
end
end Go.RX
