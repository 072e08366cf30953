/- An executor of the translated code over a small memory of its own: blocks have numbers of their own; what it computes, the machine computes in whatever memory. This text: the memory, and how its values read in a world. -/
import Derived.Test.YtnidbincddpaaaaT
import Derived.WalkKit
import Derived.Outline
import Derived.Below
import Derived.OwnWalk
import Derived.Laws.Rows
import Derived.Laws.CopyRow
import Derived.Deep.Draws
namespace Go.RX
open Go

/-- A block that is known. wr: it is ours alone. live: a row of cells. pl: its cells name no block. mp: a map, its entries in their order. -/
structure Blk where
  cells : List Value
  ty : TypeId
  wr : Bool
  live : Bool
  pl : Bool
  mp : Option (List (Value × Value))
@[reducible] def row (l : List Value) (t : TypeId) (pl : Bool) : Blk := ⟨l, t, true, true, pl, none⟩
/-- Cells that may be read alone. -/
@[reducible] def held (l : List Value) (t : TypeId) (pl : Bool) : Blk := ⟨l, t, false, true, pl, none⟩
@[reducible] def Blk.kill (b : Blk) : Blk := ⟨b.cells, b.ty, b.wr, false, b.pl, none⟩
/-- A block of which nothing is known. -/
@[reducible] def dead : Blk := ⟨[], 0, true, false, false, none⟩
def Blk.act (b : Blk) : Bool := b.live || b.mp.isSome

/-- The blocks: how many there are, and each by its number. -/
structure AH where
  size : Nat
  t : Tr Blk
noncomputable def AH.get (H : AH) (i : Nat) : Option Blk := cond (Nat.ble (Nat.add i 1) H.size) (H.t.get i) none
noncomputable def AH.set (H : AH) (i : Nat) (b : Blk) : AH := ⟨H.size, H.t.set i b⟩
noncomputable def AH.push (H : AH) (b : Blk) : AH := ⟨Nat.add H.size 1, H.t.set H.size b⟩
def AH.nil : AH := ⟨0, .e⟩
noncomputable def AH.of (l : List Blk) : AH := List.rec (motive := fun _ => AH → AH) (fun H => H) (fun b _ ih H => ih (H.push b)) l .nil

theorem ble_lt (i n : Nat) : Nat.ble (Nat.add i 1) n = decide (i < n) := by
  rw [Bool.eq_iff_iff, Nat.ble_eq, decide_eq_true_iff]; exact Iff.rfl
theorem AH.get_lt {H : AH} {i : Nat} {b : Blk} (h : H.get i = some b) : i < H.size := by
  unfold AH.get at h
  rw [ble_lt] at h
  by_cases hi : i < H.size
  · exact hi
  · simp [hi] at h
theorem AH.get_none {H : AH} {i : Nat} (h : H.size ≤ i) : H.get i = none := by
  unfold AH.get
  rw [ble_lt, decide_eq_false (by omega)]
  rfl
@[simp] theorem AH.size_set (H : AH) (i : Nat) (b : Blk) : (H.set i b).size = H.size := rfl
@[simp] theorem AH.size_push (H : AH) (b : Blk) : (H.push b).size = H.size + 1 := rfl
@[simp] theorem AH.size_nil : AH.nil.size = 0 := rfl
theorem AH.get_nil (i : Nat) : AH.nil.get i = none := AH.get_none (Nat.zero_le _)
theorem AH.get_set (H : AH) (i j : Nat) (b : Blk) : (H.set i b).get j = if i = j ∧ i < H.size then some b else H.get j := by
  unfold AH.get AH.set
  simp only [ble_lt, Tr.get_set]
  by_cases hj : j < H.size
  · by_cases h : i = j
    · subst h; simp [hj]
    · simp [h]
  · by_cases h : i = j
    · subst h; simp [hj]
    · simp [h]
theorem AH.get_push (H : AH) (j : Nat) (b : Blk) : (H.push b).get j = if j = H.size then some b else H.get j := by
  unfold AH.get AH.push
  have e : ∀ k, decide (j < Nat.add k 1) = decide (j < k + 1) := fun _ => rfl
  simp only [ble_lt, Tr.get_set, e]
  by_cases h : j = H.size
  · subst h; simp
  · have h' : ¬ H.size = j := fun e => h e.symm
    by_cases hj : j < H.size
    · simp [h, h', hj, show j < H.size + 1 by omega]
    · simp [h, hj, show ¬ j < H.size + 1 by omega]
theorem AH.push_inv {H : AH} {b b' : Blk} {i : Nat} (h : (H.push b).get i = some b') : (i < H.size ∧ H.get i = some b') ∨ (i = H.size ∧ b' = b) := by
  rw [AH.get_push] at h
  split at h
  · rename_i e; injection h with h; exact .inr ⟨e, h.symm⟩
  · exact .inl ⟨AH.get_lt h, h⟩
theorem AH.set_inv {H : AH} {x y : Blk} {i j : Nat} (h : (H.set i x).get j = some y) : (j = i ∧ y = x) ∨ (j ≠ i ∧ H.get j = some y) := by
  rw [AH.get_set] at h
  split at h
  · rename_i e; injection h with h; exact .inl ⟨e.1.symm, h.symm⟩
  · rename_i e
    by_cases hij : j = i
    · subst hij
      exact absurd ⟨rfl, AH.get_lt h⟩ e
    · exact .inr ⟨hij, h⟩

theorem AH.of_go (l : List Blk) : ∀ (H : AH) (i : Nat), (List.rec (motive := fun _ => AH → AH) (fun H => H) (fun b _ ih H => ih (H.push b)) l H).get i = if i < H.size then H.get i else l[i - H.size]? := by
  induction l with
  | nil =>
    intro H i
    by_cases h : i < H.size
    · rw [if_pos h]
    · rw [if_neg h]; simp; exact AH.get_none (by omega)
  | cons b l ih =>
    intro H i
    show (List.rec (motive := fun _ => AH → AH) (fun H => H) (fun b _ ih H => ih (H.push b)) l (H.push b)).get i = _
    rw [ih, AH.size_push, AH.get_push]
    by_cases h : i < H.size
    · rw [if_pos (by omega), if_neg (by omega), if_pos h]
    · by_cases h2 : i = H.size
      · subst h2; simp
      · rw [if_neg (by omega), if_neg h]
        have : i - H.size = (i - (H.size + 1)) + 1 := by omega
        rw [this]; simp
theorem AH.of_size_go (l : List Blk) : ∀ (H : AH), (List.rec (motive := fun _ => AH → AH) (fun H => H) (fun b _ ih H => ih (H.push b)) l H).size = H.size + l.length := by
  induction l with
  | nil => intro H; rfl
  | cons b l ih =>
    intro H
    show (List.rec (motive := fun _ => AH → AH) (fun H => H) (fun b _ ih H => ih (H.push b)) l (H.push b)).size = _
    rw [ih, AH.size_push, List.length_cons]; omega
theorem AH.get_of (l : List Blk) (i : Nat) : (AH.of l).get i = l[i]? := by
  unfold AH.of; rw [AH.of_go]; simp
theorem AH.size_of (l : List Blk) : (AH.of l).size = l.length := by
  unfold AH.of; rw [AH.of_size_go]; simp

/-- Where a block lies: its number, where the known cells begin, how many elements lie behind them; what its address bears beside (of a row without cells that came in). -/
structure Loc where
  blk : Nat
  off : Nat
  ext : Nat
  spot : Option Nat

def cA (σ : Nat → Loc) (a : Addr) : Addr := ⟨(σ a.block).blk, (σ a.block).off + a.off, match a.spot with | none => none | some _ => (σ a.block).spot⟩
/-- A slice. Its address bears no mark: behind its elements as many more lie as behind the block's cells. Mark 0: just what its capacity says. Mark k + 1: it has no element, and lies at the end of the block's cells; it was cut k cells further on. -/
def cL (σ : Nat → Loc) (a : Addr) (n c : Nat) : Value :=
  match a.spot with
  | none => .slice (some ⟨(σ a.block).blk, (σ a.block).off + a.off, none⟩) n (c + (σ a.block).ext)
  | some 0 => .slice (some ⟨(σ a.block).blk, (σ a.block).off + a.off, (σ a.block).spot⟩) n c
  | some (k + 1) => .slice (some ⟨(σ a.block).blk, (σ a.block).off + (if (σ a.block).ext = 0 then a.off - k else a.off), none⟩) n (c + (σ a.block).ext)
def c0 (σ : Nat → Loc) : Value → Value
  | .pointer (some a) => .pointer (some (cA σ a))
  | .slice (some a) n c => cL σ a n c
  | .map (some r) => .map (some (σ r).blk)
  | v => v
def cUp (c : Value → Value) : Value → Value
  | .agg cs => .agg (cs.map c)
  | .iface t v => .iface t (c v)
  | .func f a b => .func f (a.map c) (b.map c)
  | v => c v
def c1 (σ : Nat → Loc) : Value → Value := cUp (c0 σ)
def c2 (σ : Nat → Loc) : Value → Value := cUp (c1 σ)
def cS (σ : Nat → Loc) : Value → Value
  | .pointer (some a) => .pointer (some (cA σ a))
  | .slice (some a) n c => cL σ a n c
  | .map (some r) => .map (some (σ r).blk)
  | .iface t v => .iface t (c2 σ v)
  | .func f a b => .func f (a.map (c2 σ)) (b.map (c2 σ))
  | v => v
def cT (σ : Nat → Loc) : Value → Value
  | .agg cs => .agg (cs.map (cS σ))
  | v => cS σ v
def cV (σ : Nat → Loc) : Value → Value
  | .tuple vs => .tuple (vs.map (cT σ))
  | v => cT σ v

/-- All blocks that are named are below n. -/
def s0 (n : Nat) : Value → Bool
  | .pointer (some a) => Nat.ble (Nat.add a.block 1) n
  | .slice (some a) _ _ => Nat.ble (Nat.add a.block 1) n
  | .map (some r) => Nat.ble (Nat.add r 1) n
  | .agg _ => false
  | .tuple _ => false
  | .iface _ _ => false
  | .func _ a b => a.toList.isEmpty && b.toList.isEmpty
  | _ => true
def sUp (s : Value → Bool) : Value → Bool
  | .agg cs => cs.toList.all s
  | .iface _ v => s v
  | .func _ a b => a.toList.all s && b.toList.all s
  | v => s v
def s1 (n : Nat) : Value → Bool := sUp (s0 n)
def s2 (n : Nat) : Value → Bool := sUp (s1 n)
def scS (n : Nat) : Value → Bool
  | .pointer (some a) => Nat.ble (Nat.add a.block 1) n
  | .slice (some a) _ _ => Nat.ble (Nat.add a.block 1) n
  | .map (some r) => Nat.ble (Nat.add r 1) n
  | .iface _ v => s2 n v
  | .func _ a b => a.toList.all (s2 n) && b.toList.all (s2 n)
  | .agg _ => false
  | .tuple _ => false
  | _ => true
def scT (n : Nat) : Value → Bool
  | .agg cs => cs.toList.all (scS n)
  | v => scS n v
def scV (n : Nat) : Value → Bool
  | .tuple vs => vs.toList.all (scT n)
  | v => scT n v

/-- A value that is one word, and no address. -/
def isScal : Value → Bool
  | .int .. => true
  | .bool _ => true
  | .string _ => true
  | .float .. => true
  | _ => false
theorem isScal_sc {v : Value} (h : isScal v = true) (n : Nat) : scS n v = true := by
  cases v <;> first | rfl | (simp [isScal] at h)

/-- Which blocks two maps of numbers read alike. -/
def Ext (n : Nat) (σ σ' : Nat → Loc) : Prop := ∀ i, i < n → σ' i = σ i
theorem Ext.refl (n : Nat) (σ : Nat → Loc) : Ext n σ σ := fun _ _ => rfl
theorem Ext.trans {n m : Nat} {a b c : Nat → Loc} (h : Ext n a b) (k : Ext m b c) (hnm : n ≤ m) : Ext n a c := fun i hi => (k i (by omega)).trans (h i hi)
theorem Ext.mono {n m : Nat} {a b : Nat → Loc} (h : Ext m a b) (hnm : n ≤ m) : Ext n a b := fun i hi => h i (by omega)

/-- A reading of values, and what it asks of them. -/
structure Reads (c : (Nat → Loc) → Value → Value) (s : Nat → Value → Bool) : Prop where
  ext : ∀ {n σ σ'}, Ext n σ σ' → ∀ v, s n v = true → c σ' v = c σ v
  mono : ∀ {n m}, n ≤ m → ∀ v, s n v = true → s m v = true
  const : ∀ {σ} v, s 0 v = true → c σ v = v

theorem ble_lt' {i n : Nat} : Nat.ble (Nat.add i 1) n = true ↔ i < n := by rw [ble_lt, decide_eq_true_iff]

theorem cA_ext {n : Nat} {σ σ' : Nat → Loc} (h : Ext n σ σ') {a : Addr} (ha : a.block < n) : cA σ' a = cA σ a := by simp only [cA, h _ ha]
theorem cL_ext {n : Nat} {σ σ' : Nat → Loc} (h : Ext n σ σ') {a : Addr} (ha : a.block < n) (m c : Nat) : cL σ' a m c = cL σ a m c := by simp only [cL, h _ ha]

theorem reads0 : Reads c0 s0 := by
  refine ⟨?_, ?_, ?_⟩
  · intro n σ σ' h v hv
    cases v with
    | pointer a => cases a with
      | none => rfl
      | some a => simp only [s0, ble_lt'] at hv; simp only [c0, cA_ext h hv]
    | slice a l c => cases a with
      | none => rfl
      | some a => simp only [s0, ble_lt'] at hv; simp only [c0, cL_ext h hv]
    | map r => cases r with
      | none => rfl
      | some r => simp only [s0, ble_lt'] at hv; simp only [c0, h _ hv]
    | _ => rfl
  · intro n m h v hv
    cases v with
    | pointer a => cases a with
      | none => rfl
      | some a => simp only [s0, ble_lt'] at hv ⊢; omega
    | slice a l c => cases a with
      | none => rfl
      | some a => simp only [s0, ble_lt'] at hv ⊢; omega
    | map r => cases r with
      | none => rfl
      | some r => simp only [s0, ble_lt'] at hv ⊢; omega
    | _ => exact hv
  · intro σ v hv
    cases v with
    | pointer a => cases a with
      | none => rfl
      | some a => simp only [s0, ble_lt'] at hv; omega
    | slice a l c => cases a with
      | none => rfl
      | some a => simp only [s0, ble_lt'] at hv; omega
    | map r => cases r with
      | none => rfl
      | some r => simp only [s0, ble_lt'] at hv; omega
    | _ => rfl

theorem amap_congr {f g : Value → Value} (cs : Array Value) (h : ∀ v ∈ cs.toList, f v = g v) : cs.map f = cs.map g := by
  apply Array.toList_inj.1
  rw [Array.toList_map, Array.toList_map]
  exact List.map_congr_left h
theorem amap_id {f : Value → Value} (cs : Array Value) (h : ∀ v ∈ cs.toList, f v = v) : cs.map f = cs := by
  apply Array.toList_inj.1
  rw [Array.toList_map]
  conv => rhs; rw [← List.map_id cs.toList]
  exact List.map_congr_left h

theorem Reads.up {c : (Nat → Loc) → Value → Value} {s : Nat → Value → Bool} (h : Reads c s) : Reads (fun σ => cUp (c σ)) (fun n => sUp (s n)) := by
  refine ⟨?_, ?_, ?_⟩
  · intro n σ σ' he v hv
    cases v with
    | agg cs => simp only [cUp, sUp] at hv ⊢; rw [amap_congr cs fun v hx => h.ext he v (List.all_eq_true.1 hv v hx)]
    | iface t v => simp only [cUp, sUp] at hv ⊢; rw [h.ext he v hv]
    | func f a b =>
      simp only [cUp, sUp, Bool.and_eq_true] at hv ⊢
      rw [amap_congr a fun v hx => h.ext he v (List.all_eq_true.1 hv.1 v hx), amap_congr b fun v hx => h.ext he v (List.all_eq_true.1 hv.2 v hx)]
    | _ => exact h.ext he _ hv
  · intro n m hnm v hv
    cases v with
    | agg cs => exact List.all_eq_true.2 fun v hx => h.mono hnm v (List.all_eq_true.1 hv v hx)
    | iface t v => exact h.mono hnm v hv
    | func f a b =>
      simp only [sUp, Bool.and_eq_true] at hv ⊢
      exact ⟨List.all_eq_true.2 fun v hx => h.mono hnm v (List.all_eq_true.1 hv.1 v hx), List.all_eq_true.2 fun v hx => h.mono hnm v (List.all_eq_true.1 hv.2 v hx)⟩
    | _ => exact h.mono hnm _ hv
  · intro σ v hv
    cases v with
    | agg cs => simp only [cUp, sUp] at hv ⊢; rw [amap_id cs fun v hx => h.const v (List.all_eq_true.1 hv v hx)]
    | iface t v => simp only [cUp, sUp] at hv ⊢; rw [h.const v hv]
    | func f a b =>
      simp only [cUp, sUp, Bool.and_eq_true] at hv ⊢
      rw [amap_id a fun v hx => h.const v (List.all_eq_true.1 hv.1 v hx), amap_id b fun v hx => h.const v (List.all_eq_true.1 hv.2 v hx)]
    | _ => exact h.const _ hv
theorem reads1 : Reads c1 s1 := reads0.up
theorem reads2 : Reads c2 s2 := reads1.up

theorem readsS : Reads cS scS := by
  refine ⟨?_, ?_, ?_⟩
  · intro n σ σ' h v hv
    cases v with
    | pointer a => cases a with
      | none => rfl
      | some a => simp only [scS, ble_lt'] at hv; simp only [cS, cA_ext h hv]
    | slice a l c => cases a with
      | none => rfl
      | some a => simp only [scS, ble_lt'] at hv; simp only [cS, cL_ext h hv]
    | map r => cases r with
      | none => rfl
      | some r => simp only [scS, ble_lt'] at hv; simp only [cS, h _ hv]
    | iface t v => simp only [cS, scS] at hv ⊢; rw [reads2.ext h v hv]
    | func f a b =>
      simp only [cS, scS, Bool.and_eq_true] at hv ⊢
      rw [amap_congr a fun v hx => reads2.ext h v (List.all_eq_true.1 hv.1 v hx), amap_congr b fun v hx => reads2.ext h v (List.all_eq_true.1 hv.2 v hx)]
    | _ => rfl
  · intro n m hnm v hv
    cases v with
    | pointer a => cases a with
      | none => rfl
      | some a => simp only [scS, ble_lt'] at hv ⊢; omega
    | slice a l c => cases a with
      | none => rfl
      | some a => simp only [scS, ble_lt'] at hv ⊢; omega
    | map r => cases r with
      | none => rfl
      | some r => simp only [scS, ble_lt'] at hv ⊢; omega
    | iface t v => exact reads2.mono hnm v hv
    | func f a b =>
      simp only [scS, Bool.and_eq_true] at hv ⊢
      exact ⟨List.all_eq_true.2 fun v hx => reads2.mono hnm v (List.all_eq_true.1 hv.1 v hx), List.all_eq_true.2 fun v hx => reads2.mono hnm v (List.all_eq_true.1 hv.2 v hx)⟩
    | _ => exact hv
  · intro σ v hv
    cases v with
    | pointer a => cases a with
      | none => rfl
      | some a => simp only [scS, ble_lt'] at hv; omega
    | slice a l c => cases a with
      | none => rfl
      | some a => simp only [scS, ble_lt'] at hv; omega
    | map r => cases r with
      | none => rfl
      | some r => simp only [scS, ble_lt'] at hv; omega
    | iface t v => simp only [cS, scS] at hv ⊢; rw [reads2.const v hv]
    | func f a b =>
      simp only [cS, scS, Bool.and_eq_true] at hv ⊢
      rw [amap_id a fun v hx => reads2.const v (List.all_eq_true.1 hv.1 v hx), amap_id b fun v hx => reads2.const v (List.all_eq_true.1 hv.2 v hx)]
    | _ => rfl

theorem cS_ext {n : Nat} {σ σ' : Nat → Loc} (h : Ext n σ σ') : ∀ v, scS n v = true → cS σ' v = cS σ v := readsS.ext h
theorem map_cS_ext {n : Nat} {σ σ' : Nat → Loc} (h : Ext n σ σ') : ∀ l : List Value, (∀ v ∈ l, scS n v = true) → l.map (cS σ') = l.map (cS σ) := fun _ hl =>
  List.map_congr_left fun v hv => cS_ext h v (hl v hv)
theorem amap_cS_ext {n : Nat} {σ σ' : Nat → Loc} (h : Ext n σ σ') (cs : Array Value) (hl : cs.toList.all (scS n) = true) : cs.map (cS σ') = cs.map (cS σ) :=
  amap_congr cs fun v hv => cS_ext h v (List.all_eq_true.1 hl v hv)
theorem readsT : Reads cT scT := by
  refine ⟨?_, ?_, ?_⟩
  · intro n σ σ' h v hv
    cases v with
    | agg cs => simp only [cT, scT] at hv ⊢; rw [amap_cS_ext h cs hv]
    | _ => simp only [cT, scT] at hv ⊢; exact readsS.ext h _ hv
  · intro n m hnm v hv
    cases v with
    | agg cs => exact List.all_eq_true.2 fun v hx => readsS.mono hnm v (List.all_eq_true.1 hv v hx)
    | _ => simp only [scT] at hv ⊢; exact readsS.mono hnm _ hv
  · intro σ v hv
    cases v with
    | agg cs => simp only [cT, scT] at hv ⊢; rw [amap_id cs fun v hx => readsS.const v (List.all_eq_true.1 hv v hx)]
    | _ => simp only [cT, scT] at hv ⊢; exact readsS.const _ hv
theorem readsV : Reads cV scV := by
  refine ⟨?_, ?_, ?_⟩
  · intro n σ σ' h v hv
    cases v with
    | tuple vs => simp only [cV, scV] at hv ⊢; rw [amap_congr vs fun v hx => readsT.ext h v (List.all_eq_true.1 hv v hx)]
    | _ => simp only [cV, scV] at hv ⊢; exact readsT.ext h _ hv
  · intro n m hnm v hv
    cases v with
    | tuple vs => exact List.all_eq_true.2 fun v hx => readsT.mono hnm v (List.all_eq_true.1 hv v hx)
    | _ => simp only [scV] at hv ⊢; exact readsT.mono hnm _ hv
  · intro σ v hv
    cases v with
    | tuple vs => simp only [cV, scV] at hv ⊢; rw [amap_id vs fun v hx => readsT.const v (List.all_eq_true.1 hv v hx)]
    | _ => simp only [cV, scV] at hv ⊢; exact readsT.const _ hv
theorem cT_ext {n : Nat} {σ σ' : Nat → Loc} (h : Ext n σ σ') (v : Value) (hv : scT n v = true) : cT σ' v = cT σ v := readsT.ext h v hv
theorem cV_ext {n : Nat} {σ σ' : Nat → Loc} (h : Ext n σ σ') (v : Value) (hv : scV n v = true) : cV σ' v = cV σ v := readsV.ext h v hv

theorem scS_mono {n m : Nat} (h : n ≤ m) (v : Value) (hv : scS n v = true) : scS m v = true := readsS.mono h v hv
theorem all_scS_mono {n m : Nat} (h : n ≤ m) (l : List Value) (hl : l.all (scS n) = true) : l.all (scS m) = true :=
  List.all_eq_true.2 fun v hv => scS_mono h v (List.all_eq_true.1 hl v hv)
theorem scT_mono {n m : Nat} (h : n ≤ m) (v : Value) (hv : scT n v = true) : scT m v = true := readsT.mono h v hv
theorem scV_mono {n m : Nat} (h : n ≤ m) (v : Value) (hv : scV n v = true) : scV m v = true := readsV.mono h v hv

/-- What names no block reads the same everywhere. -/
theorem cS_const {σ : Nat → Loc} (v : Value) (hv : scS 0 v = true) : cS σ v = v := readsS.const v hv
theorem map_cS_const {σ : Nat → Loc} (l : List Value) (hl : l.all (scS 0) = true) : l.map (cS σ) = l := by
  conv => rhs; rw [← List.map_id l]
  exact List.map_congr_left fun v hv => cS_const v (List.all_eq_true.1 hl v hv)
theorem amap_cS_const {σ : Nat → Loc} (cs : Array Value) (hl : cs.toList.all (scS 0) = true) : cs.map (cS σ) = cs := amap_id cs fun v hv => cS_const v (List.all_eq_true.1 hl v hv)
theorem cT_const {σ : Nat → Loc} (v : Value) (hv : scT 0 v = true) : cT σ v = v := readsT.const v hv
theorem cV_const {σ : Nat → Loc} (v : Value) (hv : scV 0 v = true) : cV σ v = v := readsV.const v hv

theorem cL_slice (σ : Nat → Loc) (a : Addr) (n c : Nat) : ∃ b m, cL σ a n c = .slice (some b) n m := by
  unfold cL
  split <;> exact ⟨_, _, rfl⟩
theorem cS_one (σ : Nat → Loc) (v : Value) (n : Nat) (hv : scS n v = true) : (cS σ v).oneCell' = true := by
  cases v with
  | pointer a => cases a <;> rfl
  | slice a l c => cases a with
    | none => rfl
    | some a => obtain ⟨b, m, h⟩ := cL_slice σ a l c; simp only [cS, h]; rfl
  | map r => cases r <;> rfl
  | agg => simp [scS] at hv
  | tuple => simp [scS] at hv
  | _ => rfl
theorem cV_cells (σ : Nat → Loc) (v : Value) (n : Nat) (hv : v.cells.toList.all (scS n) = true) : (cV σ v).cells.toList = v.cells.toList.map (cS σ) := by
  cases v with
  | agg cs => simp [cV, cT, Value.cells]
  | tuple vs => simp [Value.cells, scS] at hv
  | pointer a => cases a <;> rfl
  | slice a l c => cases a with
    | none => rfl
    | some a => obtain ⟨b, m, h⟩ := cL_slice σ a l c; simp only [cV, cT, cS, h, Value.cells]; simp [cS, h]
  | map r => cases r <;> rfl
  | _ => rfl
theorem cV_of_scS {σ : Nat → Loc} {n : Nat} {v : Value} (h : scS n v = true) : cV σ v = cS σ v := by
  cases v <;> first | rfl | (simp [scS] at h)
theorem cT_of_scS {σ : Nat → Loc} {n : Nat} {v : Value} (h : scS n v = true) : cT σ v = cS σ v := by
  cases v <;> first | rfl | (simp [scS] at h)
theorem cV_of_scT {σ : Nat → Loc} {n : Nat} {v : Value} (h : scT n v = true) : cV σ v = cT σ v := by
  cases v <;> first | rfl | (simp [scT, scS] at h)
theorem scV_of_scS {n : Nat} {v : Value} (h : scS n v = true) : scV n v = true := by
  cases v <;> first | exact h | (simp [scS] at h)
theorem scT_of_scS {n : Nat} {v : Value} (h : scS n v = true) : scT n v = true := by
  cases v <;> first | exact h | (simp [scS] at h)
theorem scV_of_scT {n : Nat} {v : Value} (h : scT n v = true) : scV n v = true := by
  cases v <;> first | exact h | (simp [scT, scS] at h)

/-- What lies in an interface or in a function reads as it reads elsewhere. -/
theorem c1_cS {σ : Nat → Loc} {n : Nat} {v : Value} (h1 : s1 n v = true) (h : scS n v = true) : c1 σ v = cS σ v := by
  have up0 : ∀ u, s0 n u = true → c2 σ u = c0 σ u := by
    intro u hu
    cases u with
    | func f a b =>
      simp only [s0, Bool.and_eq_true, List.isEmpty_iff] at hu
      have ha : a = #[] := by apply Array.toList_inj.1; rw [hu.1]
      have hb : b = #[] := by apply Array.toList_inj.1; rw [hu.2]
      subst ha hb
      simp [c2, c1, cUp, c0]
    | agg cs => cases hu
    | tuple cs => cases hu
    | iface t v => cases hu
    | pointer a => cases a <;> rfl
    | slice a l c => cases a <;> rfl
    | map r => cases r <;> rfl
    | _ => rfl
  cases v with
  | agg cs => cases h
  | tuple cs => cases h
  | iface t v => simp only [s1, sUp] at h1; simp only [c1, cUp, cS, up0 v h1]
  | func f a b =>
    simp only [s1, sUp, Bool.and_eq_true] at h1
    simp only [c1, cUp, cS]
    rw [amap_congr a fun v hx => (up0 v (List.all_eq_true.1 h1.1 v hx)).symm, amap_congr b fun v hx => (up0 v (List.all_eq_true.1 h1.2 v hx)).symm]
  | pointer a => cases a <;> rfl
  | slice a l c => cases a <;> rfl
  | map r => cases r <;> rfl
  | _ => rfl
theorem c2_cV {σ : Nat → Loc} {n : Nat} {v : Value} (h2 : s2 n v = true) (h : scT n v = true) : c2 σ v = cV σ v := by
  have up1 : ∀ u, s1 n u = true → c2 σ u = c1 σ u := by
    intro u hu
    cases u with
    | func f a b =>
      simp only [s1, sUp, Bool.and_eq_true] at hu
      have g : ∀ u, s0 n u = true → c1 σ u = c0 σ u := by
        intro u hu
        cases u with
        | func f a b =>
          simp only [s0, Bool.and_eq_true, List.isEmpty_iff] at hu
          have ha : a = #[] := by apply Array.toList_inj.1; rw [hu.1]
          have hb : b = #[] := by apply Array.toList_inj.1; rw [hu.2]
          subst ha hb
          simp [c1, cUp, c0]
        | agg cs => cases hu
        | iface t v => cases hu
        | pointer a => cases a <;> rfl
        | slice a l c => cases a <;> rfl
        | map r => cases r <;> rfl
        | _ => rfl
      show Value.func f (a.map (c1 σ)) (b.map (c1 σ)) = Value.func f (a.map (c0 σ)) (b.map (c0 σ))
      rw [amap_congr a fun v hx => g v (List.all_eq_true.1 hu.1 v hx), amap_congr b fun v hx => g v (List.all_eq_true.1 hu.2 v hx)]
    | agg cs =>
      simp only [s1, sUp] at hu
      simp only [c2, c1, cUp]
      congr 1
      refine amap_congr cs fun v hx => ?_
      have := List.all_eq_true.1 hu v hx
      cases v with
      | func f a b =>
        simp only [s0, Bool.and_eq_true, List.isEmpty_iff] at this
        have ha : a = #[] := by apply Array.toList_inj.1; rw [this.1]
        have hb : b = #[] := by apply Array.toList_inj.1; rw [this.2]
        subst ha hb
        simp [cUp, c0]
      | agg cs => cases this
      | iface t v => cases this
      | pointer a => cases a <;> rfl
      | slice a l c => cases a <;> rfl
      | map r => cases r <;> rfl
      | _ => rfl
    | iface t v =>
      simp only [s1, sUp] at hu
      simp only [c2, c1, cUp]
      congr 1
      cases v with
      | func f a b =>
        simp only [s0, Bool.and_eq_true, List.isEmpty_iff] at hu
        have ha : a = #[] := by apply Array.toList_inj.1; rw [hu.1]
        have hb : b = #[] := by apply Array.toList_inj.1; rw [hu.2]
        subst ha hb
        simp [c0]
      | agg cs => cases hu
      | iface t v => cases hu
      | pointer a => cases a <;> rfl
      | slice a l c => cases a <;> rfl
      | map r => cases r <;> rfl
      | _ => rfl
    | pointer a => cases a <;> rfl
    | slice a l c => cases a <;> rfl
    | map r => cases r <;> rfl
    | _ => rfl
  cases v with
  | agg cs =>
    simp only [s2, sUp] at h2
    simp only [c2, cUp, cV, cT]
    congr 1
    exact amap_congr cs fun v hx => c1_cS (List.all_eq_true.1 h2 v hx) (List.all_eq_true.1 h v hx)
  | tuple cs => cases h
  | iface t v =>
    simp only [s2, sUp] at h2
    simp only [c2, cUp, cV, cT, cS]
    congr 1
    exact (up1 v h2).symm
  | func f a b =>
    simp only [s2, sUp, Bool.and_eq_true] at h2
    simp only [c2, cUp, cV, cT, cS]
    rw [amap_congr a fun v hx => (up1 v (List.all_eq_true.1 h2.1 v hx)).symm, amap_congr b fun v hx => (up1 v (List.all_eq_true.1 h2.2 v hx)).symm]
    rfl
  | pointer a => cases a <;> rfl
  | slice a l c => cases a <;> rfl
  | map r => cases r <;> rfl
  | _ => rfl
end Go.RX
