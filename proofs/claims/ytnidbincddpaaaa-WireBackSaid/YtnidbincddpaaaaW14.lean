/- What the entries of the table tell, where what they ask is known. -/
import Derived.Test.YtnidbincddpaaaaW13
namespace Go.RX
open Go Go.Proofs Go.RowKit

/-- More blocks, the old ones as they were. -/
structure More (H H' : AH) : Prop where
  get : ∀ (i : Nat) (b : Blk), H.get i = some b → H'.get i = some b
theorem More.refl (H : AH) : More H H := ⟨fun _ _ h => h⟩
theorem More.trans {a b c : AH} (h : More a b) (k : More b c) : More a c := ⟨fun i x hx => k.get i x (h.get i x hx)⟩
theorem More.push (H : AH) (b : Blk) : More H (H.push b) := ⟨fun i x hx => by
  rw [AH.get_push, if_neg (by have := AH.get_lt hx; omega)]; exact hx⟩
theorem More.rowC {H H' : AH} (h : More H H') {t : TypeId} {p : Option Addr} {l : List Value} (hr : rowC H t p = some l) : rowC H' t p = some l := by
  rcases rowC_cases hr with ⟨rfl, rfl⟩ | ⟨i, wr, pl, rfl, hi⟩
  · rfl
  · unfold Go.RX.rowC
    simp only
    rw [h.get _ _ hi]
    show (bif true && (Nat.beq t t && (Nat.beq 0 0 && (true && true))) then some l else none) = some l
    rw [show Nat.beq t t = true from Nat.beq_eq.mpr rfl]; rfl
theorem More.listC {H H' : AH} (h : More H H') {p : Option Addr} {n c : Nat} {L : List Value} (hr : listC H p n c = some L) : listC H' p n c = some L := by
  rcases listC_cases hr with ⟨rfl, rfl, rfl, rfl⟩ | ⟨i, wr, pl, rfl, hi, hs⟩ | ⟨i, t2, wr, pl, rfl, hi, rfl, rfl, rfl⟩
  · rfl
  · unfold Go.RX.listC
    simp only
    rw [h.get _ _ hi]
    show (bif Nat.beq 2 2 && (Nat.beq 0 0 && srcOK L n c) then some L else none) = _
    rw [hs]; rfl
  · unfold Go.RX.listC
    simp only
    rw [h.get _ _ hi]
    rfl

/-- A call that lies in a memory. -/
structure CallIn (H : AH) (c : Cl) (p : Option Addr) (n : Nat) : Prop where
  is : IsCall c.kind.toNat c
  fit : Fit c
  row : rowC H 47 p = some (flat c.shape.pts)
  len : n = c.shape.pts.length
  nil : p = none → n = 0
  kind : p ≠ none → c.kind = 1
@[reducible] def Cl.val (c : Cl) (p : Option Addr) (n : Nat) : Value := .agg ⟨c.cells (.slice p n n)⟩
theorem CallIn.more {H H' : AH} {c : Cl} {p : Option Addr} {n : Nat} (h : CallIn H c p n) (hm : More H H') : CallIn H' c p n := ⟨h.is, h.fit, hm.rowC h.row, h.len, h.nil, h.kind⟩

def encB (c : Cl) : ByteArray := ⟨⟨encC c.kind.toNat c⟩⟩
theorem callS_say {H : AH} {c : Cl} {p : Option Addr} {n : Nat} (h : CallIn H c p n) (k : Out → AH → Res) : callS [c.val p n] H k = k (.ret (.tuple #[.string (encB c), .int .i64 0])) H := by
  have e : callS [c.val p n] H k = (match rowC H 47 p with
      | some l => bif asks (CallAsk (c.cells (.slice p n n)) p n n l) then k (.ret (.tuple #[.string ⟨⟨encC (Cl.of (c.cells (.slice p n n)) (pairsOf l)).kind.toNat (Cl.of (c.cells (.slice p n n)) (pairsOf l))⟩⟩, .int .i64 0])) H else none
      | none => none) := rfl
  rw [e, h.row]
  simp only [pairsOf_flat, Cl.of_cells]
  rw [asks_true, cond_true]
  · rfl
  · refine ⟨?_, ?_, ?_, ?_, h.nil, ?_⟩ <;> rw [pairsOf_flat, Cl.of_cells]
    · exact h.len
    · exact h.is
    · exact h.kind
theorem sameS_say {H : AH} {c d : Cl} {p q : Option Addr} {n m : Nat} (h : CallIn H c p n) (hd : CallIn H d q m) (k : Out → AH → Res) : sameS [c.val p n, d.val q m] H k = k (.ret (.bool (sameB c d))) H := by
  have e : sameS [c.val p n, d.val q m] H k = (match rowC H 47 p, rowC H 47 q with
      | some l1, some l2 => bif asks (SameAsk (c.cells (.slice p n n)) (d.cells (.slice q m m)) (.slice p n n) (.slice q m m) n m l1 l2) then k (.ret (.bool (sameB (Cl.of (c.cells (.slice p n n)) (pairsOf l1)) (Cl.of (d.cells (.slice q m m)) (pairsOf l2))))) H else none
      | _, _ => none) := rfl
  rw [e, h.row, hd.row]
  simp only [pairsOf_flat, Cl.of_cells]
  rw [asks_true, cond_true]
  unfold SameAsk
  rw [pairsOf_flat, pairsOf_flat, Cl.of_cells, Cl.of_cells]
  have := h.is.pts
  exact ⟨rfl, rfl, ⟨h.len, hd.len, by rw [h.len]; omega⟩, rfl, rfl⟩
/-- The numbers are numbers of 64 bits. -/
def Nums (L : List Value) : Prop := ∀ i, okI (nthV L i)
theorem callOfS_say {H : AH} {p : Option Addr} {n c : Nat} {L : List Value} (h : listC H p n c = some L) (hL : Nums L) (x : Int) :
    ∃ (a : Cl) (q : Option Addr) (m : Nat) (H' : AH), a = ofK L (modN x 9 + 1) (nPt x L) ∧ CallIn H' a q m ∧ More H H' ∧ ∀ k, callOfS [.int .i64 x, .slice p n c] H k = k (.ret (a.val q m)) H' := by
  have hk := modN_le x 9
  have e : ∀ k, callOfS [.int .i64 x, .slice p n c] H k = (match listC H p n c with
    | some L => 
        (bif asks (nPt x L = 0) then k (.ret (.agg ⟨(ofK L (modN x 9 + 1) 0).cells (slN 0 0)⟩)) H
         else k (.ret (.agg ⟨(ofK L 1 (nPt x L)).cells (slI H.size (nPt x L) (nPt x L))⟩)) (H.push (ptB (nPts L (nPt x L) 6) true true)))
    | none => none) := fun k => rfl
  by_cases h0 : nPt x L = 0
  · have his := ofK_is L (kd := modN x 9 + 1) (n := 0) ⟨by omega, by omega⟩ (by omega)
    have hp : (ofK L (modN x 9 + 1) 0).shape.pts = [] := by
      have : modN x 9 = 0 ∨ modN x 9 = 1 ∨ modN x 9 = 2 ∨ modN x 9 = 3 ∨ modN x 9 = 4 ∨ modN x 9 = 5 ∨ modN x 9 = 6 ∨ modN x 9 = 7 ∨ modN x 9 = 8 ∨ modN x 9 = 9 := by omega
      rcases this with h | h | h | h | h | h | h | h | h | h <;> (rw [h]; rfl)
    refine ⟨ofK L (modN x 9 + 1) 0, none, 0, H, by rw [h0], ⟨by rw [his.kind]; exact his, ofK_fit hL ⟨by omega, by omega⟩ (by omega), by rw [hp]; rfl, by rw [hp]; rfl, fun _ => rfl, fun h => absurd rfl h⟩, .refl H, fun k => ?_⟩
    rw [e, h]
    simp only
    rw [asks_true h0, cond_true]
  · have hm : modN x 9 = 0 := by
      unfold nPt at h0
      split at h0
      · assumption
      · exact absurd rfl h0
    have h8 : nPt x L ≤ 8 := by
      unfold nPt
      rw [if_pos hm]
      exact fromN_le _ _
    have his := ofK_is L (kd := 1) (n := nPt x L) ⟨by omega, by omega⟩ h8
    have hpt : (ofK L 1 (nPt x L)).shape.pts = nPts L (nPt x L) 6 := rfl
    refine ⟨ofK L 1 (nPt x L), some ⟨H.size, 0, none⟩, nPt x L, H.push (ptB (nPts L (nPt x L) 6) true true), by rw [hm], ⟨his, ofK_fit hL ⟨by omega, by omega⟩ h8, ?_, by rw [hpt, nPts_len], fun h => (by cases h), fun _ => rfl⟩, .push _ _, fun k => ?_⟩
    · rw [hpt]
      unfold Go.RX.rowC
      simp only
      rw [AH.get_push, if_pos rfl]
      rfl
    · rw [e, h]
      simp only
      rw [asks_false h0, cond_false]
end Go.RX
