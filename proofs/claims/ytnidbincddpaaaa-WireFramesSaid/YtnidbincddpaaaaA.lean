/- What holds a block of memory that a call writes and a row of bytes that grows: the frames and the words of the writer. -/
import Derived.Test.YtnidbincddpaaaaRows
import Derived.WalkKit
import Derived.Outline
import Derived.Below
import Derived.OwnWalk
import Derived.Laws.Rows
import Derived.Lib.Hide
import Derived.Deep.Draws
import Derived.Maps.AppendAt
import Derived.Deep.AppendLies
namespace Go.Proofs.Ytnidbincddpaaaa
open Go.RowKit

/-- w' is w but for blocks of S and new ones. -/
structure Fr (S : Nat → Prop) (w w' : World) : Prop where
  os : w'.os = w.os
  tape : w'.tape = w.tape
  output : w'.output = w.output
  size : w.heap.size ≤ w'.heap.size
  block : ∀ k, k < w.heap.size → ¬ S k → w'.heap[k]? = w.heap[k]?

theorem Fr.refl (S : Nat → Prop) (w : World) : Fr S w w := ⟨rfl, rfl, rfl, Nat.le_refl _, fun _ _ _ => rfl⟩
theorem Fr.trans {S S' : Nat → Prop} {a b c : World} (h : Fr S a b) (k : Fr S' b c) (hs : ∀ k, S' k → S k ∨ a.heap.size ≤ k) : Fr S a c :=
  ⟨k.os.trans h.os, k.tape.trans h.tape, k.output.trans h.output, Nat.le_trans h.size k.size, fun i hi hn =>
    (k.block i (Nat.lt_of_lt_of_le hi h.size) (fun h2 => (hs i h2).elim hn (fun h3 => by omega))).trans (h.block i hi hn)⟩
theorem Fr.mono {S S' : Nat → Prop} {a b : World} (h : Fr S a b) (hs : ∀ k, S k → S' k ∨ a.heap.size ≤ k) : Fr S' a b :=
  ⟨h.os, h.tape, h.output, h.size, fun i hi hn => h.block i hi (fun h2 => (hs i h2).elim hn (fun h3 => by omega))⟩
theorem Fr.alloc {S : Nat → Prop} {a w : World} (h : Fr S a w) (o : Obj) : Fr S a (w.alloc o) :=
  h.trans (S' := fun _ => False) ⟨rfl, rfl, rfl, by simp, fun k hk _ => Below.heap_alloc _ _ _ hk⟩ (fun _ hk => hk.elim)
theorem Fr.drew {S : Nat → Prop} {a w : World} (h : Fr S a w) : Fr S a w.drew := ⟨h.os, h.tape, h.output, h.size, h.block⟩
theorem Fr.drewN {S : Nat → Prop} {a w : World} (h : Fr S a w) (n : Nat) : Fr S a (w.drewN n) := ⟨h.os, h.tape, h.output, h.size, h.block⟩
theorem Fr.setCell {S : Nat → Prop} {a w : World} (h : Fr S a w) {p : Addr} (hp : S p.block ∨ a.heap.size ≤ p.block) (u : Value) : Fr S a (w.setCell p u) :=
  h.trans (S' := fun k => k = p.block) ⟨rfl, rfl, rfl, by simp [World.setCell], fun k _ hn => Below.heap_setCell _ _ _ _ hn⟩ (fun k hk => by subst hk; exact hp)
theorem Fr.grown {S : Nat → Prop} {a w w' : World} {row : Option Nat} (h : Fr S a w) (hg : w.grownBy w' row) (hr : ∀ k, row = some k → S k ∨ a.heap.size ≤ k) : Fr S a w' :=
  h.trans (S' := fun k => row = some k) ⟨hg.os, hg.tape, hg.output, hg.size, fun k hk hn => hg.block k hk (fun e => hn e.symm)⟩ hr
theorem Fr.below {S : Nat → Prop} {w w' : World} (h : Fr S w w') {B : Nat} (hB : B ≤ w.heap.size) (hs : ∀ k, S k → B ≤ k) : Below B w w' :=
  ⟨h.os, h.tape, h.output, h.size, fun k hk => h.block k (by omega) (fun h2 => by have := hs k h2; omega)⟩
theorem Fr.of_below {w w' : World} (h : Below w.heap.size w w') (S : Nat → Prop) : Fr S w w' := ⟨h.os, h.tape, h.output, h.size, fun k hk _ => h.block k hk⟩
theorem Fr.cell {S : Nat → Prop} {w w' : World} (h : Fr S w w') {p : Addr} {v : Value} (hc : w.cell? p = some v) (hn : ¬ S p.block) : w'.cell? p = some v :=
  (World.cell?_of_block (h.block p.block (World.block_lt_of_cell? w p hc) hn)).trans hc
theorem Fr.blk {S : Nat → Prop} {w w' : World} (h : Fr S w w') {k : Nat} {o : Obj} (hc : w.heap[k]? = some o) (hn : ¬ S k) : w'.heap[k]? = some o :=
  (h.block k (Array.getElem?_eq_some_iff.1 hc).1 hn).trans hc
theorem Fr.keep {S : Nat → Prop} {w w' : World} (h : Fr S w w') {k : Nat} (hk : k < w.heap.size) (hn : ¬ S k) : w'.heap[k]? = w.heap[k]? := h.block k hk hn

/-- What a writer's call may turn: its own block and the row that it writes into. -/
def Foot (g : Nat) (v : Value) (k : Nat) : Prop := k = g ∨ v.ownBlock = some k

/-- A writer's call: from v to v'. -/
structure Wrote (w w' : World) (g : Nat) (v v' : Value) : Prop where
  fr : Fr (Foot g v) w w'
  own : ∀ k, v'.ownBlock = some k → v.ownBlock = some k ∨ w.heap.size ≤ k

theorem Wrote.refl (w : World) (g : Nat) (v : Value) : Wrote w w g v v := ⟨Fr.refl _ _, fun _ h => .inl h⟩
theorem Wrote.trans {w w1 w2 : World} {g : Nat} {v v1 v2 : Value} (h : Wrote w w1 g v v1) (k : Wrote w1 w2 g v1 v2) : Wrote w w2 g v v2 := by
  refine ⟨h.fr.trans k.fr (fun i hi => ?_), fun i hi => ?_⟩
  · rcases hi with rfl | hi
    · exact .inl (.inl rfl)
    · rcases h.own i hi with h2 | h2
      · exact .inl (.inr h2)
      · exact .inr h2
  · rcases k.own i hi with h2 | h2
    · exact h.own i h2
    · exact .inr (Nat.le_trans h.fr.size h2)
theorem Wrote.alloc {w w1 : World} {g : Nat} {v v1 : Value} (h : Wrote w w1 g v v1) (o : Obj) : Wrote w (w1.alloc o) g v v1 := ⟨h.fr.alloc o, h.own⟩
theorem Wrote.drew {w w1 : World} {g : Nat} {v v1 : Value} (h : Wrote w w1 g v v1) : Wrote w w1.drew g v v1 := ⟨h.fr.drew, h.own⟩
theorem Wrote.drewN {w w1 : World} {g : Nat} {v v1 : Value} (h : Wrote w w1 g v v1) (n : Nat) : Wrote w (w1.drewN n) g v v1 := ⟨h.fr.drewN n, h.own⟩

/-- The row at cell 0 of block g (a struct of cells cs, its first cell v): bs has been written into it. -/
def BAt (w : World) (g : Nat) (T : TypeId) (v : Value) (rest : List Value) (bs : List Int) : Prop :=
  w.heap[g]? = some (.cells ⟨v :: rest⟩ T (0, 0)) ∧ w.ownsRow (g + 1) 5 1 v bs.length (bs.map (Value.int .u8))

theorem BAt.lt {w : World} {g : Nat} {T : TypeId} {v : Value} {rest : List Value} {bs : List Int} (h : BAt w g T v rest bs) : g < w.heap.size := (Array.getElem?_eq_some_iff.1 h.1).1
theorem BAt.cell {w : World} {g : Nat} {T : TypeId} {v : Value} {rest : List Value} {bs : List Int} (h : BAt w g T v rest bs) : w.cell? ⟨g, 0, none⟩ = some v := by simp [World.cell?, h.1]
theorem BAt.frozen {w : World} {g : Nat} {T : TypeId} {v : Value} {rest : List Value} {bs : List Int} (h : BAt w g T v rest bs) (o : Nat) : w.frozen? ⟨g, o, none⟩ = false := by simp [World.frozen?, h.1]
theorem BAt.row {w : World} {g : Nat} {T : TypeId} {v : Value} {rest : List Value} {bs : List Int} (h : BAt w g T v rest bs) : w.ownsRow (g + 1) 5 1 v bs.length (bs.map (Value.int .u8)) := h.2
theorem BAt.alloc {w : World} {g : Nat} {T : TypeId} {v : Value} {rest : List Value} {bs : List Int} (h : BAt w g T v rest bs) (o : Obj) : BAt (w.alloc o) g T v rest bs :=
  ⟨(Below.heap_alloc _ _ _ h.lt).trans h.1, h.2.alloc o⟩
theorem BAt.drew {w : World} {g : Nat} {T : TypeId} {v : Value} {rest : List Value} {bs : List Int} (h : BAt w g T v rest bs) : BAt w.drew g T v rest bs := h
theorem BAt.drewN {w : World} {g : Nat} {T : TypeId} {v : Value} {rest : List Value} {bs : List Int} (h : BAt w g T v rest bs) (n : Nat) : BAt (w.drewN n) g T v rest bs := h

/-- One append into the row: what the store of the new row leaves. -/
theorem BAt.put {w w1 : World} {g : Nat} {T : TypeId} {v v' : Value} {rest : List Value} {bs : List Int} {o : Obj} {x : Int} (h : BAt w g T v rest bs)
    (hown : w1.ownsRow (g + 1) 5 1 v' (bs.length + 1) (bs.map (Value.int .u8) ++ [Value.int .u8 x])) (hg : (w.alloc o).grownBy w1 v.ownBlock) (hat : v'.ownBlock = v.ownBlock ∨ v'.ownBlock = some (w.heap.size + 1)) :
    BAt (w1.setCell ⟨g, 0, none⟩ v') g T v' rest (bs ++ [x]) ∧ Wrote w (w1.setCell ⟨g, 0, none⟩ v') g v v' := by
  have hgl := h.lt
  have hne : some g ≠ v.ownBlock := fun e => by have := h.2.lt g e.symm; omega
  have hb : w1.heap[g]? = some (.cells ⟨v :: rest⟩ T (0, 0)) := (hg.block g (by simp; omega) hne).trans ((Below.heap_alloc _ _ _ hgl).trans h.1)
  refine ⟨⟨?_, ?_⟩, ⟨((Fr.refl _ w).alloc o).grown hg (fun k hk => .inl (.inr hk)) |>.setCell (.inl (.inl rfl)) _, fun k hk => ?_⟩⟩
  · have h2 : (w1.setCell ⟨g, 0, none⟩ v').heap[g]? = (w1.heap[g]?).map fun
      | .cells c elem frozen => .cells (c.setIfInBounds 0 v') elem frozen
      | o => o := by
        simp [World.setCell, Array.getElem?_modify]
        rfl
    rw [h2, hb]
    simp
  · have := ownsRow_setCell_below hown (a := ⟨g, 0, none⟩) (by simp) v'
    simpa using this
  · rcases hat with h2 | h2
    · exact .inl (h2 ▸ hk)
    · rw [h2] at hk
      simp at hk
      omega

theorem Try.info5 : (Try.prog.info? 5).map (fun i => (i.zero, i.size, i.bytes)) = some (some (.int .u8 0), 1, 1) := by kernel_rfl

/-- The byte number k (from the highest one on) of the lowest n bytes of a number. -/
def byteAt (x : Int) (n k : Nat) : Int := x / 2 ^ (8 * (n - 1 - k)) % 256
def be (x : Int) (n : Nat) : List Int := (List.range n).map (byteAt x n)
theorem be_len (x : Int) (n : Nat) : (be x n).length = n := by simp [be]

set_option maxHeartbeats 1000000 in
set_option maxRecDepth 100000 in
theorem put_any (g : Nat) (T : TypeId) (v : Value) (rest : List Value) (bs : List Int) (x : Int) (n : Nat) (w : World) (hw : BAt w g T v rest bs) (hn0 : 1 ≤ n) (hn : n ≤ 8) (hbs : bs.length ≤ 1000000) (_hx0 : 0 ≤ x) (_hx : x < 18446744073709551616) :
    Calls Try.prog 94 #[.pointer (some ⟨g, 0, none⟩), .int .u64 x, .int .i64 n] w fun e w' =>
      e = .returned (.tuple #[]) ∧ ∃ v', BAt w' g T v' rest (bs ++ be x n) ∧ Wrote w w' g v v' := by
  obtain ⟨i0, hi, hz0, hz1, hz2⟩ := info_parts Try.info5
  go_enter Try.func94, Try.ntmps94
  go_wp2
  go_loopw [8] (fun i wr => ∃ k : Nat, k ≤ n ∧ i = .int .i64 k ∧ ∃ v1, BAt wr g T v1 rest (bs ++ (be x n).take k) ∧ Wrote w wr g v v1) (fun i _ => n - (intOf i).toNat)
  case atStart => exact ⟨0, Nat.zero_le _, rfl, v, by simpa using hw, Wrote.refl _ _ _⟩
  case round =>
    obtain ⟨k, hk, rfl, v1, hB, hT⟩ := hrel
    have hc := hB.cell
    have hf := hB.frozen 0
    have hgl := hB.lt
    by_cases hlt : k < n
    · have hlen : (bs ++ (be x n).take k).length = bs.length + k := by
        rw [List.length_append, List.length_take, be_len]; omega
      have hlen1 : bs.length + k ≤ 1000008 := by omega
      have hown := hB.row
      rw [hlen] at hown
      have HB := Lib.hid hB
      have HL := Lib.hid hlen
      clear hB hlen
      go_wp2_with ((at_builtin; refine wpList_append_own_at _ rfl _ _ 71 rfl (g + 1) 5 i0 (.int .u8 0) 1 1 Try.underlying71 hi hz0 hz1 hz2 rfl (by decide) _ _ _ rfl (hown.alloc _) ⟨wr.heap.size, 0, none⟩ 1 1 [.int .u8 (x / 2 ^ (8 * (n - 1 - k)) % 256)] rfl rfl ?c1 ?c2 ?c3 ?c4 ?c5 ?_))
      case c1 => exact cell_one_new _ _ _
      case c2 => intro u hu; simp at hu; subst hu; rfl
      case c3 => unfold maxLen; omega
      case c4 => omega
      case c5 => simp; omega
      intro v' w1 hown' hgrow _ hat
      obtain ⟨b', cap', rfl, _⟩ := hown'.form (by omega)
      have hB2 := HB.out
      have hL := HL.out
      have R := hB2.put (x := byteAt x n k) (by rw [hL]; simpa [byteAt] using hown') hgrow hat
      have hc1 : w1.cell? ⟨g, 0, none⟩ = some v1 := hgrow.cell ((World.cell?_alloc_past _ _ _ hgl).trans hc) (fun e => by have := hown.lt g e.symm; omega)
      have hf1 : w1.frozen? ⟨g, 0, none⟩ = false := by
        rw [hgrow.frozen_far _ (by simp; omega) (fun e => by have := hown.lt g e.symm; omega)]
        exact (World.frozen?_alloc_past _ _ _ hgl).trans hf
      have HR := Lib.hid R
      clear R hB2 hL hown' hgrow hat hc hown
      go_wp2
      go_roundw
      case rel =>
        refine ⟨k + 1, by omega, by simp, _, ?_, hT.trans HR.out.2⟩
        have e : (be x n).take (k + 1) = (be x n).take k ++ [byteAt x n k] := by
          rw [List.take_succ_eq_append_getElem (by rw [be_len]; exact hlt)]
          simp [be]
        rw [e, ← List.append_assoc]
        exact HR.out.1
      case measure => simp [intOf]; omega
    · have hkn : k = n := by omega
      subst hkn
      go_wp2
      go_end0
      refine ⟨rfl, v1, ?_, hT⟩
      rw [List.take_of_length_le (by rw [be_len]; omega)] at hB
      exact hB
end Go.Proofs.Ytnidbincddpaaaa
