/- States told anew: blocks get other numbers, are cut at their heads, or are forgotten. -/
import Derived.Test.YtnidbincddpaaaaE13
namespace Go.RX
open Go Go.RowKit

/-- Where a block of the new state comes from: block src, from cell sh on; or (fin): it is the end of src, where a slice was cut at e, k cells behind its own begin. -/
structure View where
  src : Nat
  sh : Nat
  fin : Option (Nat × Nat)

def vS (V : Nat → View) : Value → Value
  | .pointer (some a) => .pointer (some ⟨(V a.block).src, a.off + (V a.block).sh, a.spot⟩)
  | .slice (some a) n c => (match (V a.block).fin with
    | none => .slice (some ⟨(V a.block).src, a.off + (V a.block).sh, a.spot⟩) n c
    | some (e, k) => .slice (some ⟨(V a.block).src, e, some (k + 1)⟩) n c)
  | .map (some r) => .map (some (V r).src)
  | v => v
def vT (V : Nat → View) : Value → Value
  | .agg cs => .agg (cs.map (vS V))
  | v => vS V v
def vV (V : Nat → View) : Value → Value
  | .tuple vs => .tuple (vs.map (vT V))
  | v => vT V v
/-- What may be told anew. -/
def okS (V : Nat → View) (n : Nat) : Value → Bool
  | .pointer (some a) => decide (a.block < n) && a.spot.isNone && (V a.block).fin.isNone
  | .slice (some a) l c => decide (a.block < n) && (match (V a.block).fin with
    | none => (match a.spot with | none => true | some 0 => true | _ => false)
    | some _ => a.spot.isNone && decide (a.off = 0) && decide (l = 0) && decide (c = 0))
  | .map (some r) => decide (r < n) && (V r).fin.isNone
  | .iface _ v => s2 0 v
  | .func _ a b => a.toList.all (s2 0) && b.toList.all (s2 0)
  | .agg _ => false
  | .tuple _ => false
  | _ => true
def okT (V : Nat → View) (n : Nat) : Value → Bool
  | .agg cs => cs.toList.all (okS V n)
  | v => okS V n v
def okV (V : Nat → View) (n : Nat) : Value → Bool
  | .tuple vs => vs.toList.all (okT V n)
  | v => okT V n v

def vL (V : Nat → View) (σ : Nat → Loc) (i : Nat) : Loc :=
  match (V i).fin with
  | none => ⟨(σ (V i).src).blk, (σ (V i).src).off + (V i).sh, (σ (V i).src).ext, (σ (V i).src).spot⟩
  | some (e, k) => if (σ (V i).src).ext = 0 then ⟨(σ (V i).src).blk, (σ (V i).src).off + (e - k), 0, none⟩ else ⟨(σ (V i).src).blk, (σ (V i).src).off + e, (σ (V i).src).ext, none⟩

theorem vL_blk (V : Nat → View) (σ : Nat → Loc) (i : Nat) : (vL V σ i).blk = (σ (V i).src).blk := by
  unfold vL
  split
  · rfl
  · split <;> rfl

theorem okS_sc {V : Nat → View} {n : Nat} {v : Value} (h : okS V n v = true) : scS n v = true := by
  cases v with
  | pointer a => cases a with
    | none => rfl
    | some a => simp only [okS, Bool.and_eq_true, decide_eq_true_eq] at h; exact ble_lt'.2 h.1.1
  | slice a l c => cases a with
    | none => rfl
    | some a => simp only [okS, Bool.and_eq_true, decide_eq_true_eq] at h; exact ble_lt'.2 h.1
  | map r => cases r with
    | none => rfl
    | some r => simp only [okS, Bool.and_eq_true, decide_eq_true_eq] at h; exact ble_lt'.2 h.1
  | iface t v => exact reads2.mono (Nat.zero_le _) v h
  | func f a b =>
    simp only [okS, Bool.and_eq_true] at h
    simp only [scS, Bool.and_eq_true]
    exact ⟨List.all_eq_true.2 fun v hv => reads2.mono (Nat.zero_le _) v (List.all_eq_true.1 h.1 v hv), List.all_eq_true.2 fun v hv => reads2.mono (Nat.zero_le _) v (List.all_eq_true.1 h.2 v hv)⟩
  | agg cs => cases h
  | tuple cs => cases h
  | _ => rfl
theorem okT_sc {V : Nat → View} {n : Nat} {v : Value} (h : okT V n v = true) : scT n v = true := by
  cases v with
  | agg cs => exact List.all_eq_true.2 fun v hv => okS_sc (List.all_eq_true.1 h v hv)
  | _ => simp only [okT] at h; simp only [scT]; exact okS_sc h
theorem okV_sc {V : Nat → View} {n : Nat} {v : Value} (h : okV V n v = true) : scV n v = true := by
  cases v with
  | tuple vs => exact List.all_eq_true.2 fun v hv => okT_sc (List.all_eq_true.1 h v hv)
  | _ => simp only [okV] at h; simp only [scV]; exact okT_sc h

theorem vS_read {V : Nat → View} {n : Nat} {σ : Nat → Loc} {v : Value} (h : okS V n v = true) : cS σ (vS V v) = cS (vL V σ) v := by
  cases v with
  | pointer a => cases a with
    | none => rfl
    | some a =>
      obtain ⟨b, o, sp⟩ := a
      simp only [okS, Bool.and_eq_true, Option.isNone_iff_eq_none] at h
      obtain ⟨⟨_, rfl⟩, hf⟩ := h
      simp only [vS, cS, cA, vL, hf]
      congr 3
      omega
  | slice a l c => cases a with
    | none => rfl
    | some a =>
      obtain ⟨b, o, sp⟩ := a
      simp only [okS, Bool.and_eq_true] at h
      obtain ⟨_, h⟩ := h
      cases hf : (V b).fin with
      | none =>
        rw [hf] at h
        simp only at h
        cases sp with
        | none =>
          simp only [vS, hf, cS, cL, vL]
          congr 3
          omega
        | some k =>
          cases k with
          | zero =>
            simp only [vS, hf, cS, cL, vL]
            congr 3
            omega
          | succ k => cases h
      | some ek =>
        obtain ⟨e, k⟩ := ek
        rw [hf] at h
        simp only [Bool.and_eq_true, Option.isNone_iff_eq_none, decide_eq_true_eq] at h
        obtain ⟨⟨⟨rfl, rfl⟩, rfl⟩, rfl⟩ := h
        simp only [vS, hf, cS, cL, vL]
        by_cases he : (σ (V b).src).ext = 0
        · simp only [he, if_true, Nat.add_zero]
        · simp only [he, if_false, Nat.add_zero]
  | map r => cases r with
    | none => rfl
    | some r => simp only [vS, cS, vL_blk]
  | iface t v => simp only [okS] at h; simp only [vS, cS]; rw [reads2.const v h, reads2.const v h]
  | func f a b =>
    simp only [okS, Bool.and_eq_true] at h
    simp only [vS, cS]
    rw [amap_id a fun v hx => reads2.const v (List.all_eq_true.1 h.1 v hx), amap_id b fun v hx => reads2.const v (List.all_eq_true.1 h.2 v hx), amap_id a fun v hx => reads2.const v (List.all_eq_true.1 h.1 v hx), amap_id b fun v hx => reads2.const v (List.all_eq_true.1 h.2 v hx)]
  | agg cs => cases h
  | tuple cs => cases h
  | _ => rfl
theorem vT_read {V : Nat → View} {n : Nat} {σ : Nat → Loc} {v : Value} (h : okT V n v = true) : cT σ (vT V v) = cT (vL V σ) v := by
  cases v with
  | agg cs =>
    simp only [vT, cT, Array.map_map]
    congr 1
    exact amap_congr cs fun v hv => vS_read (List.all_eq_true.1 h v hv)
  | pointer a => cases a with
    | none => rfl
    | some a => exact vS_read (V := V) (n := n) (v := .pointer (some a)) h
  | slice a l c => cases a with
    | none => rfl
    | some a =>
      have := vS_read (σ := σ) (V := V) (n := n) (v := .slice (some a) l c) h
      simp only [vT]
      have e : ∀ σ, cT σ (vS V (.slice (some a) l c)) = cS σ (vS V (.slice (some a) l c)) := by
        intro σ; simp only [vS]; split <;> rfl
      rw [e, this]; rfl
  | map r => cases r with
    | none => rfl
    | some a => exact vS_read (V := V) (n := n) (v := .map (some a)) h
  | tuple vs => cases h
  | iface t v => exact vS_read (V := V) (n := n) (v := .iface t v) h
  | func f a b => exact vS_read (V := V) (n := n) (v := .func f a b) h
  | _ => rfl
theorem vV_read {V : Nat → View} {n : Nat} {σ : Nat → Loc} {v : Value} (h : okV V n v = true) : cV σ (vV V v) = cV (vL V σ) v := by
  cases v with
  | tuple vs =>
    simp only [vV, cV, Array.map_map]
    congr 1
    exact amap_congr vs fun v hv => vT_read (List.all_eq_true.1 h v hv)
  | agg cs => exact vT_read (V := V) (n := n) (v := .agg cs) h
  | pointer a => cases a with
    | none => rfl
    | some a => exact vT_read (V := V) (n := n) (v := .pointer (some a)) h
  | slice a l c => cases a with
    | none => rfl
    | some a =>
      have := vT_read (σ := σ) (V := V) (n := n) (v := .slice (some a) l c) h
      simp only [vV]
      have e : ∀ σ, cV σ (vT V (.slice (some a) l c)) = cT σ (vT V (.slice (some a) l c)) := by
        intro σ; simp only [vT, vS]; split <;> rfl
      rw [e, this]; rfl
  | map r => cases r with
    | none => rfl
    | some a => exact vT_read (V := V) (n := n) (v := .map (some a)) h
  | iface t v => exact vT_read (V := V) (n := n) (v := .iface t v) h
  | func f a b => exact vT_read (V := V) (n := n) (v := .func f a b) h
  | _ => rfl

def okP (V : Nat → View) (n : Nat) (p : Value × Value) : Bool := okS V n p.1 && okT V n p.2
def vP (V : Nat → View) (p : Value × Value) : Value × Value := (vS V p.1, vT V p.2)
theorem vP_read {V : Nat → View} {n : Nat} {σ : Nat → Loc} {es : List (Value × Value)} (h : es.all (okP V n) = true) : (es.map (vP V)).map (mapC σ) = es.map (mapC (vL V σ)) := by
  rw [List.map_map]
  refine List.map_congr_left fun p hp => ?_
  have := List.all_eq_true.1 h p hp
  simp only [okP, Bool.and_eq_true] at this
  simp only [Function.comp, mapC, vP, vS_read this.1, vT_read this.2]

/-- A block of the new state, and the old one. -/
structure Seen (V : Nat → View) (H : AH) (n i : Nat) (b' : Blk) : Prop where
  ok : b'.cells.all (okS V n) = true
  pl : b'.pl = true → b'.cells.all (scS 0) = true
  lm : b'.live = true → b'.mp = none
  live : b'.live = true → ∃ b, H.get (V i).src = some b ∧ b.live = true ∧ b.wr = b'.wr ∧ b.ty = b'.ty ∧ (match (V i).fin with
    | none => (V i).sh ≤ b.cells.length ∧ b.cells.drop (V i).sh = b'.cells.map (vS V)
    | some (e, k) => b'.wr = true ∧ b'.cells = [] ∧ e ≤ b.cells.length ∧ k ≤ e)
  mp : ∀ es, b'.mp = some es → b'.wr = true ∧ (V i).fin = none ∧ es.all (okP V n) = true ∧ ∃ b, H.get (V i).src = some b ∧ b.mp = some (es.map (vP V))
/-- A block that is forgotten. -/
theorem Seen.dead {V : Nat → View} {H : AH} {n i : Nat} : Seen V H n i dead := ⟨rfl, (by rintro ⟨⟩), (by rintro ⟨⟩), (by rintro ⟨⟩), fun _ h => by cases h⟩
/-- A row that is told anew. -/
theorem Seen.row {V : Nat → View} {H : AH} {n i : Nat} {l : List Value} {t : TypeId} {pl : Bool} {b : Blk} (hf : (V i).fin = none) (hb : H.get (V i).src = some b) (hl : b.live = true) (hw : b.wr = true) (ht : b.ty = t) (hc : b.cells.drop (V i).sh = l.map (vS V)) (hs : (V i).sh ≤ b.cells.length) (ok : l.all (okS V n) = true) (hp : pl = true → l.all (scS 0) = true) :
    Seen V H n i (row l t pl) := ⟨ok, hp, fun _ => rfl, fun _ => ⟨b, hb, hl, hw, ht, by rw [hf]; exact ⟨hs, hc⟩⟩, fun _ h => by cases h⟩

theorem Fits.view (P : Program) {m : Nat} {tm tm' : Tm} {H H' : AH} (V : Nat → View) (hV : ∀ i, i < m → V i = ⟨i, 0, none⟩)
    (hB : ∀ i b', H'.get i = some b' → Seen V H H'.size i b') (hinj : ∀ (i j : Nat) (bi bj : Blk), H'.get i = some bi → H'.get j = some bj → bi.act = true → bj.act = true → bi.wr = true → i ≠ j → (V i).src ≠ (V j).src)
    (ht : ∀ t v', tm'.get t = some v' → okV V H'.size v' = true ∧ tm.get t = some (vV V v')) : Fits P m tm H tm' H' := by
  intro W0 S σ w hR hs
  have hact : ∀ (i : Nat) (b' : Blk), H'.get i = some b' → b'.act = true → ∃ b, H.get (V i).src = some b ∧ b.act = true ∧ (b'.wr = true → b.wr = true) := by
    intro i b' hi ha
    have hb := hB i b' hi
    simp only [Blk.act, Bool.or_eq_true, Option.isSome_iff_exists] at ha
    rcases ha with ha | ⟨es, ha⟩
    · obtain ⟨b, h1, h2, h3, _⟩ := hb.live ha
      exact ⟨b, h1, act_live h2, fun hw => h3.trans hw⟩
    · obtain ⟨_, _, _, b, h1, h2⟩ := hb.mp es ha
      exact ⟨b, h1, act_mp h2, fun _ => (hR.mp _ b _ h1 h2).1⟩
  refine ⟨vL V σ, fun i hi => by simp only [vL, hV i hi]; rfl, ⟨hR.fr, ?_, ?_, ?_, ?_, ?_, ?_, ?_, ?_, ?_⟩, fun t v' hv => ?_⟩
  · intro i b' hi
    exact List.all_eq_true.2 fun v hv => okS_sc (List.all_eq_true.1 (hB i b' hi).ok v hv)
  · intro i b' hi hp
    exact (hB i b' hi).pl hp
  · intro i b' hi ha
    obtain ⟨b, h1, h2, _⟩ := hact i b' hi ha
    rw [vL_blk]
    exact hR.lt _ b h1 h2
  · intro i b' hi hl
    obtain ⟨b, h1, h2, _⟩ := (hB i b' hi).live hl
    unfold vL
    split
    · exact hR.sp _ b h1 h2
    · split <;> rfl
  · intro i b' hi hl hw j v hj
    have hb := hB i b' hi
    obtain ⟨b, h1, h2, h3, h4, h5⟩ := hb.live hl
    cases hf : (V i).fin with
    | none =>
      rw [hf] at h5
      have hbj : b.cells[(V i).sh + j]? = some (vS V v) := by
        rw [← List.getElem?_drop, h5.2, List.getElem?_map, hj]; rfl
      have := hR.cell h1 h2 hbj
      rw [vS_read (List.all_eq_true.1 hb.ok v (List.mem_of_getElem? hj))] at this
      simp only [vL, hf]
      rw [Nat.add_assoc]
      exact this
    | some ek =>
      obtain ⟨e, k⟩ := ek
      rw [hf] at h5
      rw [h5.1] at hw; cases hw
  · intro i b' hi hl hw
    have hb := hB i b' hi
    obtain ⟨b, h1, h2, h3, h4, h5⟩ := hb.live hl
    obtain ⟨g1, pre, tl, fz, g2, g3, g4, g5⟩ := hR.wb _ b h1 h2 (h3.trans hw)
    rw [h4] at g3 g4
    refine ⟨by rw [vL_blk]; exact g1, ?_⟩
    cases hf : (V i).fin with
    | none =>
      rw [hf] at h5
      obtain ⟨hsh, hc⟩ := h5
      have hcm : b'.cells.map (cS (vL V σ)) = (b.cells.drop (V i).sh).map (cS σ) := by
        rw [hc, List.map_map]
        exact List.map_congr_left fun v hv => (vS_read (List.all_eq_true.1 hb.ok v hv)).symm
      refine ⟨pre ++ (b.cells.take (V i).sh).map (cS σ), tl, fz, ?_, ?_, ?_, ?_⟩
      · simp only [vL, hf, List.length_append, List.length_map, List.length_take, g2]; omega
      · simp only [vL, hf]; exact g3
      · rw [vL_blk, g4, hcm]
        have e : pre ++ (b.cells.take (V i).sh).map (cS σ) ++ (b.cells.drop (V i).sh).map (cS σ) = pre ++ b.cells.map (cS σ) := by
          rw [List.append_assoc, ← List.map_append, List.take_append_drop]
        rw [e]
      · have e : pre ++ (b.cells.take (V i).sh).map (cS σ) ++ (b.cells.drop (V i).sh).map (cS σ) = pre ++ b.cells.map (cS σ) := by
          rw [List.append_assoc, ← List.map_append, List.take_append_drop]
        rw [hcm, e]; exact g5
    | some ek =>
      obtain ⟨e, k⟩ := ek
      rw [hf] at h5
      obtain ⟨_, hc, he, hk⟩ := h5
      rw [hc, List.map_nil]
      have htot : (pre ++ b.cells.map (cS σ) ++ tl).length = (σ (V i).src).off + b.cells.length + tl.length := by simp [g2]; omega
      by_cases hx : (σ (V i).src).ext = 0
      · refine ⟨(pre ++ b.cells.map (cS σ) ++ tl).take ((σ (V i).src).off + (e - k)), (pre ++ b.cells.map (cS σ) ++ tl).drop ((σ (V i).src).off + (e - k)), fz, ?_, ?_, ?_, ?_⟩
        · simp only [vL, hf, hx, if_true, List.length_take, htot]; omega
        · simp only [vL, hf, hx, if_true, Nat.zero_mul]; exact Nat.zero_le _
        · rw [vL_blk, g4, List.append_nil, List.take_append_drop]
        · rw [List.append_nil, List.take_append_drop]; exact g5
      · refine ⟨(pre ++ b.cells.map (cS σ) ++ tl).take ((σ (V i).src).off + e), (pre ++ b.cells.map (cS σ) ++ tl).drop ((σ (V i).src).off + e), fz, ?_, ?_, ?_, ?_⟩
        · simp only [vL, hf, hx, if_false, List.length_take, htot]; omega
        · simp only [vL, hf, hx, if_false, List.length_drop, htot]; omega
        · rw [vL_blk, g4, List.append_nil, List.take_append_drop]
        · rw [List.append_nil, List.take_append_drop]; exact g5
  · intro i b' es hi hm
    have hb := hB i b' hi
    obtain ⟨hw, hf, hok, b, h1, h2⟩ := hb.mp es hm
    obtain ⟨g1, g2, g3, g4⟩ := hR.mp _ b _ h1 h2
    rw [vP_read hok] at g4
    rw [vL_blk]
    refine ⟨hw, g2, List.all_eq_true.2 fun p hp => ?_, g4⟩
    have := List.all_eq_true.1 hok p hp
    simp only [okP, Bool.and_eq_true] at this
    simp only [scP, Bool.and_eq_true]
    exact ⟨okS_sc this.1, okT_sc this.2⟩
  · intro i b' hi hl
    exact (hB i b' hi).lm hl
  · intro i j bi bj hi hj hai haj hw hne
    obtain ⟨ci, h1, h2, h3⟩ := hact i bi hi hai
    obtain ⟨cj, k1, k2, _⟩ := hact j bj hj haj
    rw [vL_blk, vL_blk]
    exact hR.inj _ _ ci cj h1 k1 h2 k2 (h3 hw) (hinj i j bi bj hi hj hai haj hw hne)
  · obtain ⟨h1, h2⟩ := ht t v' hv
    exact ⟨okV_sc h1, _, h2, vV_read h1⟩
end Go.RX
