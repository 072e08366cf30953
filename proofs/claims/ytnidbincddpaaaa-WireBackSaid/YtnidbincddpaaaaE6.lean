/- Aggregates that are built, and rows that grow. -/
import Derived.Test.YtnidbincddpaaaaE5
import Derived.Deep.Upon
namespace Go.RX
open Go Go.RowKit

section
variable {P : Program} {W0 w : World} {S : Nat → Prop} {σ : Nat → Loc} {H : AH}

theorem foldl_set_map (f : Value → Value) (off : Nat) : ∀ (l : List Value) (i : Nat) (cs : Array Value),
    ((l.map f).zipIdx i).foldl (fun cs (c, j) => cs.setIfInBounds (off + j) c) (cs.map f) = ((l.zipIdx i).foldl (fun cs (c, j) => cs.setIfInBounds (off + j) c) cs).map f := by
  intro l
  induction l with
  | nil => intro i cs; rfl
  | cons v r ih =>
    intro i cs
    simp only [List.map_cons, List.zipIdx_cons, List.foldl_cons]
    rw [← ih (i + 1) (cs.setIfInBounds (off + i) v)]
    congr 1
    apply Array.toList_inj.1
    simp

theorem fill_conc {n : Nat} (place : Nat → Option (Nat × Nat)) : ∀ (parts : List (Nat × Value)) (cells cs : Array Value), Instr.fill place cells parts = some cs →
    (∀ p ∈ parts, p.2.cells.toList.all (scS n) = true) → Instr.fill place (cells.map (cS σ)) (parts.map fun p => (p.1, cV σ p.2)) = some (cs.map (cS σ)) := by
  intro parts
  induction parts with
  | nil => intro cells cs h _; simp [Instr.fill] at h ⊢; rw [h]
  | cons p r ih =>
    intro cells cs h hs
    obtain ⟨i, v⟩ := p
    have hv := hs (i, v) (by simp)
    have hc := cV_cells σ v n hv
    have hsz : (cV σ v).cells.size = v.cells.size := by
      have := congrArg List.length hc
      simpa using this
    unfold Instr.fill at h
    simp only [List.map_cons]
    unfold Instr.fill
    split at h
    · cases h
    · rename_i off size hp
      simp only
      rw [hsz, Array.size_map]
      split at h
      · cases h
      · rename_i hcond
        rw [if_neg hcond]
        have := ih _ _ h (fun q hq => hs q (by simp [hq]))
        rw [← this]
        congr 1
        rw [← Array.foldl_toList, ← Array.foldl_toList, Array.toList_zipIdx, Array.toList_zipIdx, hc]
        exact foldl_set_map (cS σ) off v.cells.toList 0 cells

theorem foldl_set_size (off : Nat) : ∀ (l : List (Value × Nat)) (cs : Array Value), (l.foldl (fun cs (c, j) => cs.setIfInBounds (off + j) c) cs).size = cs.size := by
  intro l
  induction l with
  | nil => intro cs; rfl
  | cons x l ih => intro cs; rw [List.foldl_cons, ih]; simp

theorem foldl_set_sc {n : Nat} (off : Nat) : ∀ (l : List (Value × Nat)) (cs : Array Value), (∀ p ∈ l, scS n p.1 = true) → cs.toList.all (scS n) = true →
    (l.foldl (fun cs (c, j) => cs.setIfInBounds (off + j) c) cs).toList.all (scS n) = true := by
  intro l
  induction l with
  | nil => intro cs _ h; exact h
  | cons x l ih =>
    intro cs hl h
    rw [List.foldl_cons]
    refine ih _ (fun p hp => hl p (by simp [hp])) ?_
    obtain ⟨c, j⟩ := x
    refine List.all_eq_true.2 fun u hu => ?_
    simp only [Array.toList_setIfInBounds] at hu
    rcases List.mem_or_eq_of_mem_set hu with hu | rfl
    · exact List.all_eq_true.1 h u hu
    · exact hl (u, j) (by simp)

theorem fill_sc {n : Nat} (place : Nat → Option (Nat × Nat)) : ∀ (parts : List (Nat × Value)) (cells cs : Array Value), Instr.fill place cells parts = some cs →
    (∀ p ∈ parts, p.2.cells.toList.all (scS n) = true) → cells.toList.all (scS n) = true → cs.toList.all (scS n) = true := by
  intro parts
  induction parts with
  | nil => intro cells cs h _ hc; simp only [Instr.fill, Option.some.injEq] at h; rw [← h]; exact hc
  | cons p r ih =>
    intro cells cs h hs hc
    obtain ⟨i, v⟩ := p
    have hv := hs (i, v) (by simp)
    unfold Instr.fill at h
    split at h
    · cases h
    · rename_i off size hp
      split at h
      · cases h
      · refine ih _ _ h (fun q hq => hs q (by simp [hq])) ?_
        rw [← Array.foldl_toList, Array.toList_zipIdx]
        refine foldl_set_sc off _ _ (fun q hq => ?_) hc
        have := List.mem_zipIdx hq
        obtain ⟨_, _, h3⟩ := this
        have : q.1 ∈ v.cells.toList := by rw [h3]; exact List.getElem_mem _
        exact List.all_eq_true.1 hv _ this

theorem fill_size (place : Nat → Option (Nat × Nat)) : ∀ (parts : List (Nat × Value)) (cells cs : Array Value), Instr.fill place cells parts = some cs → cs.size = cells.size := by
  intro parts
  induction parts with
  | nil => intro cells cs h; simp only [Instr.fill, Option.some.injEq] at h; rw [h]
  | cons p r ih =>
    intro cells cs h
    obtain ⟨i, v⟩ := p
    unfold Instr.fill at h
    split at h
    · cases h
    · split at h
      · cases h
      · rw [ih _ _ h, ← Array.foldl_toList, foldl_set_size]

theorem esz_of {e : TypeId} {ie : TypeInfo} (hi : P.info? e = some ie) : esz P e = ie.size := by simp [esz, hi]

theorem bytes_conc (x : ByteArray) (τ : Nat → Loc) : (x.data.toList.map fun b => Value.int .u8 b.toNat).map (cS τ) = x.data.toList.map fun b => Value.int .u8 b.toNat := by
  simp [cS]
theorem bytes_sc (x : ByteArray) (n : Nat) : (x.data.toList.map fun b => Value.int .u8 b.toNat).all (scS n) = true := by
  refine List.all_eq_true.2 fun u hu => ?_
  obtain ⟨b, _, rfl⟩ := List.mem_map.1 hu
  rfl

/-- What an append takes. -/
theorem asrc_run (h : Rel P W0 S σ H w) {t' : TypeId} {z : Value} {s : Nat} {x : Value} {new : List Value} {m : Nat} {pl : Bool} (ha : asrc P H t' z s x = some (new, m, pl)) :
    Src P s t' (cV σ x) m (new.map (cS σ)) w ∧ new.all (scS H.size) = true ∧ (pl = true → new.all (scS 0) = true) ∧ new.length = m * s := by
  unfold asrc at ha
  split at ha
  · rename_i b hu
    split at ha
    · split at ha
      · rename_i hs
        subst hs
        injection ha with ha
        injection ha with e1 e2
        injection e2 with e2 e3
        subst e1 e2 e3
        rw [bytes_conc]
        exact ⟨Src.ofString w hu b, bytes_sc b _, fun _ => bytes_sc b _, by simp⟩
      · cases ha
    · cases ha
  · rename_i e c hu
    injection ha with ha
    injection ha with e1 e2
    injection e2 with e2 e3
    subst e1 e2 e3
    exact ⟨Src.ofNil w hu c, rfl, fun _ => rfl, by simp⟩
  · rename_i e a n c hu
    split at ha
    · rename_i hn
      subst hn
      injection ha with ha
      injection ha with e1 e2
      injection e2 with e2 e3
      subst e1 e2 e3
      obtain ⟨b, k, hb⟩ := cL_slice σ a 0 c
      have e1 : cV σ (.slice (some a) 0 c) = .slice (some b) 0 k := hb
      rw [e1]
      exact ⟨Src.ofSlice w hu b 0 k [] (by simp) (fun _ _ h => by simp at h) (fun _ h => by cases h), rfl, fun _ => rfl, by simp⟩
    · cases hr : reachB H a with
      | false => rw [hr, cond_false] at ha; cases ha
      | true =>
        rw [hr, cond_true] at ha
        split at ha
        · rename_i l b hl hb
          injection ha with ha
          injection ha with e1 e2
          injection e2 with e2 e3
          subst e1 e2 e3
          obtain ⟨k, hk, _⟩ := reach_spot h.sp hr n c
          have e1 : cV σ (.slice (some a) n c) = .slice (some ⟨(σ a.block).blk, (σ a.block).off + a.off, none⟩) n k := hk
          have hlen : l.length = n * s := by obtain ⟨_, _, _, h4, _⟩ := ld_some hl; exact h4
          rw [e1]
          refine ⟨Src.ofSlice w hu _ n k _ (by simpa using hlen) (fun j u hj => ?_) (fun u hu => ?_), ld_sc h.sc hl, ld_pl h hl hb, hlen⟩
          · rw [add_at]
            rw [List.getElem?_map] at hj
            cases hlj : l[j]? with
            | none => rw [hlj] at hj; cases hj
            | some v =>
              rw [hlj] at hj
              injection hj with hj
              rw [← hj]
              exact ld_cells (h.known _) hl j v hlj
          · obtain ⟨v, hv, rfl⟩ := List.mem_map.1 hu
            exact cS_one σ v H.size (List.all_eq_true.1 (ld_sc h.sc hl) v hv)
        · cases ha
  · cases ha

/-- A new row behind an append that made one. -/
theorem grown_push {H1 : AH} (h : Rel P W0 S σ H1 w) {e : TypeId} {ie : TypeInfo} (hi : P.info? e = some ie) {z : Value} (hz : z.cells.size = ie.size) {l : List Value} {pl : Bool} (hl : l.all (scS H1.size) = true) (hp : pl = true → l.all (scS 0) = true) (k : Nat) {vs : List Value} (hvs : vs = l.map (cS σ)) :
    Rel P W0 S (up σ H1.size ⟨w.heap.size, 0, k, none⟩) (H1.push (row l e pl)) (w.drew.alloc (.cells (vs.toArray ++ Builtin.zeroCells z.cells k) e)) := by
  refine h.push (T := fun _ => False) ((Fr.refl _ w).drew.alloc _) (fun _ _ _ _ hh => hh) (fun _ hh => hh.elim) ⟨w.heap.size, 0, k, none⟩ _ rfl (fun i b hi ha => by have := h.lt i b hi ha; exact Nat.ne_of_lt this) (.inr h.fr.size) rfl hl hp
    (fun _ => ⟨[], (Builtin.zeroCells z.cells k).toList, (0, 0), rfl, ?_, ?_, unfrozen0 _⟩) (fun es hm => by cases hm)
  · rw [Array.length_toList, size_zeroCells, hz, esz_of hi]; exact Nat.le_refl _
  · show ((w.drew.heap.push _)[w.heap.size]? = _)
    have : w.drew.heap.size = w.heap.size := rfl
    rw [← this, Array.getElem?_push_size]
    congr 2
    apply Array.toList_inj.1
    simp [hvs]

theorem aappend_run (h : Rel P W0 S σ H w) {t t' : TypeId} {sl x v : Value} {H' : AH} (ha : aappend P H t t' sl x = some (v, H')) (hs : scV H.size sl = true) (T : TypeId) :
    ∃ σ' w', Ext H.size σ σ' ∧ Keep H H' ∧ Rel P W0 S σ' H' w' ∧ scV H'.size v = true ∧ (Builtin.append_ #[t, t'] T #[cV σ sl, cV σ x]).run P w = .ok (cV σ' v) w' := by
  unfold aappend at ha
  split at ha
  · rename_i e hu
    split at ha
    · rename_i ie hi
      split at ha
      · rename_i z hz
        split at ha
        · rename_i hsz
          obtain ⟨hzs, hp⟩ := hsz
          split at ha
          · rename_i new m pl hsrc
            obtain ⟨g1, g2, g3, g4⟩ := asrc_run h hsrc
            split at ha
            · rename_i hm
              subst hm
              split at ha
              · rename_i a n c
                split at ha
                · rename_i hnc
                  injection ha with ha
                  injection ha with e1 e2
                  subst e1 e2
                  refine ⟨σ, w, Ext.refl _ _, Keep.refl _, h, hs, ?_⟩
                  have hnew : new = [] := List.eq_nil_of_length_eq_zero (by simpa using g4)
                  subst hnew
                  cases a with
                  | none => exact run_append_nothing w t t' T e ie hu hi none n c hnc _ g1
                  | some a =>
                    obtain ⟨b, k, hb⟩ := cL_slice σ a n c
                    have hk : n ≤ k := by
                      unfold cL at hb
                      split at hb <;> (injection hb with _ _ hb; omega)
                    have e1 : cV σ (.slice (some a) n c) = .slice (some b) n k := hb
                    rw [e1]
                    exact run_append_nothing w t t' T e ie hu hi (some b) n k hk _ g1
                · cases ha
              · cases ha
            · rename_i hm
              split at ha
              · split at ha
                · rename_i hb
                  injection ha with ha
                  injection ha with e1 e2
                  subst e1 e2
                  have hr := run_append_grow_src w t t' T e ie z hu hi hz none 0 0 [] (run_firstCells_none w.drew ie.size 0 0 0) (cV σ x) m _ g1 (by omega) (by omega) (growslice_fits (by omega) (by rw [Nat.zero_add]; omega))
                  rw [List.nil_append, Nat.zero_add] at hr
                  refine ⟨_, _, up_ext _ _ _, (Keep.refl _).push _ rfl, grown_push h hi hzs g2 g3 (grownCap w m 0 e - m) rfl, by rw [scV_sl]; simp, ?_⟩
                  have e1 : cV σ (.slice none 0 0) = .slice none 0 0 := rfl
                  rw [e1, hr]
                  have := grownCap_ge w m 0 e
                  simp only [cV, cT, cS, cL, up_at, Nat.add_zero]
                  congr 2
                  omega
                · cases ha
              · rename_i a n c
                split at ha
                · rename_i old b hld hbi
                  split at ha
                  · rename_i hcond
                    obtain ⟨c2, c3, c4, c5, c6, c7, c8⟩ := hcond
                    injection ha with ha
                    injection ha with e1 e2
                    subst e1 e2
                    obtain ⟨b', hb', c1, hol, _, hold⟩ := ld_some hld
                    rw [hbi] at hb'
                    injection hb' with hb'; subst hb'
                    obtain ⟨w1, pre, tl, fz, w2, w3, w4, w5⟩ := h.wb _ b hbi c1 c2
                    have hsp := h.sp _ b hbi c1
                    rw [esz_of (by rw [c3]; exact hi)] at w3
                    have hk := h.kill hbi
                    have hosc := ld_sc h.sc hld
                    have hopl := ld_pl h hld hbi
                    have hlen : (H.set a.block b.kill).size = H.size := rfl
                    have hallsc : (old ++ new).all (scS H.size) = true := by rw [List.all_append, hosc, g2]; rfl
                    have hallpl : (b.pl && pl) = true → (old ++ new).all (scS 0) = true := fun hp => by
                      simp only [Bool.and_eq_true] at hp
                      rw [List.all_append, hopl hp.1, g3 hp.2]; rfl
                    have hkp : Keep H ((H.set a.block b.kill).push (row (old ++ new) e (b.pl && pl))) := Keep.push (Keep.set (x := b.kill) hbi c2 c2) _ rfl
                    -- the slice in the machine
                    obtain ⟨A, C, hA, hC, hAo⟩ : ∃ A C, cL σ a n c = .slice (some ⟨(σ a.block).blk, A, none⟩) n C ∧ (n ≤ C ∧ C ≤ c + (σ a.block).ext) ∧ (0 < C ∨ n ≠ 0 → A = (σ a.block).off + a.off) := by
                      unfold endB at c8
                      unfold cL
                      split at c8
                      · rename_i k hk'
                        simp only [Bool.and_eq_true, Nat.beq_eq] at c8
                        obtain ⟨n0, c0⟩ := c8
                        simp only [hk']
                        by_cases he : (σ a.block).ext = 0
                        · exact ⟨_, _, rfl, by omega, fun hh => by omega⟩
                        · exact ⟨_, _, rfl, by omega, fun _ => by rw [if_neg he]⟩
                      · rename_i hns
                        cases hk' : a.spot with
                        | none => exact ⟨_, _, rfl, by omega, fun _ => rfl⟩
                        | some k =>
                          cases k with
                          | zero => simp only [hsp]; exact ⟨_, _, rfl, by omega, fun _ => rfl⟩
                          | succ k => exact absurd hk' (hns k)
                    have e1 : cV σ (.slice (some a) n c) = .slice (some ⟨(σ a.block).blk, A, none⟩) n C := hA
                    rw [e1]
                    have hcs : (c + (σ a.block).ext) * ie.size = c * ie.size + (σ a.block).ext * ie.size := Nat.add_mul _ _ _
                    have hCs : C * ie.size ≤ (c + (σ a.block).ext) * ie.size := Nat.mul_le_mul_right _ hC.2
                    have htot : (pre ++ b.cells.map (cS σ) ++ tl).length = pre.length + b.cells.length + tl.length := by simp; omega
                    have hnC : n * ie.size ≤ C * ie.size := Nat.mul_le_mul_right _ hC.1
                    have hnc : n * ie.size ≤ c * ie.size := Nat.mul_le_mul_right _ c6
                    by_cases hroom : n + m ≤ C
                    · -- in its place
                      have hAeq := hAo (by omega)
                      subst hAeq
                      have hnm : (n + m) * ie.size ≤ C * ie.size := Nat.mul_le_mul_right _ hroom
                      rw [Nat.add_mul] at hnm
                      have hnl : (new.map (cS σ)).length = m * ie.size := by rw [List.length_map]; exact g4
                      have hin : ∀ j, j < (new.map (cS σ)).length → (σ a.block).off + a.off + n * ie.size + j < (pre ++ b.cells.map (cS σ) ++ tl).length := by
                        intro j hj
                        rw [hnl] at hj
                        rw [htot, w2]; omega
                      have hr := run_append_room_src w t t' T e ie hu hi (σ a.block).blk ((σ a.block).off + a.off) n C (cV σ x) m _ g1 hroom (fun j hj => by
                          simp only [World.cell?, w4]
                          have := hin j hj
                          simp only [Option.isSome_none, Bool.false_eq_true, if_false]
                          rw [Array.getElem?_eq_getElem (by simpa using this)]; rfl) (fun j hj => by
                          simp only [World.frozen?, w4]
                          have := w5 _ (hin j hj)
                          simp only [Bool.and_eq_false_iff, decide_eq_false_iff_not]
                          by_cases hf : fz.1 ≤ (σ a.block).off + a.off + n * ie.size + j
                          · exact .inr (fun h2 => this ⟨hf, h2⟩)
                          · exact .inl hf)
                      refine ⟨up σ H.size ⟨(σ a.block).blk, (σ a.block).off + a.off, C - (n + m), none⟩, w.setCells (σ a.block).blk ((σ a.block).off + a.off + n * ie.size) (new.map (cS σ)), up_ext _ _ _, hkp, ?_, by rw [scV_sl]; simp, ?_⟩
                      · refine hk.push (T := fun k => k = (σ a.block).blk) (Fr.setCells _ _ _ _) (fun i b' hi' ha' he => ?_) (fun k hk => by subst hk; exact w1) ⟨(σ a.block).blk, (σ a.block).off + a.off, C - (n + m), none⟩ _ rfl (fun i b' hi' ha' he => ?_) w1 rfl hallsc hallpl (fun _ => ?_) (fun es hm => by cases hm)
                        · obtain ⟨hne, hi2⟩ := kill_get hi' ha'
                          exact h.inj _ i b b' hbi hi2 (act_live c1) ha' c2 (Ne.symm hne) he.symm
                        · obtain ⟨hne, hi2⟩ := kill_get hi' ha'
                          exact h.inj _ i b b' hbi hi2 (act_live c1) ha' c2 (Ne.symm hne) he.symm
                        · have hh := heap_setCells (σ a.block).blk b.ty fz (new.map (cS σ)) ((σ a.block).off + a.off + n * ie.size) w _ w4 (by rw [hnl, htot, w2]; omega)
                          refine ⟨pre ++ (b.cells.take a.off).map (cS σ), (pre ++ b.cells.map (cS σ) ++ tl).drop ((σ a.block).off + a.off + n * ie.size + (new.map (cS σ)).length), fz, ?_, ?_, ?_, ?_⟩
                          · rw [List.length_append, List.length_map, List.length_take, w2]
                            show _ = (σ a.block).off + a.off
                            omega
                          · show (C - (n + m)) * _ ≤ _
                            rw [esz_of hi, List.length_drop, hnl, htot, w2, Nat.sub_mul, Nat.add_mul]
                            omega
                          · show (w.setCells _ _ _).heap[_]? = some (Obj.cells _ e fz)
                            rw [hh, c3]
                            congr 2
                            congr 1
                            have e3 : (pre ++ b.cells.map (cS σ) ++ tl).take ((σ a.block).off + a.off + n * ie.size) = pre ++ (b.cells.take a.off).map (cS σ) ++ old.map (cS σ) := by
                              rw [← w2, List.append_assoc, Nat.add_assoc, List.take_length_add_append, List.take_append_of_le_length (by rw [List.length_map]; omega), List.append_assoc, ← List.map_append, hold, ← List.take_add, List.map_take]
                            rw [e3]
                            simp only [List.map_append, List.append_assoc]
                          · refine w5.mono ?_
                            simp only [List.length_append, List.length_drop, htot, hnl, List.length_map, List.length_take, hol, g4]
                            rw [w2]
                            omega
                      · rw [hr]
                        simp only [cV, cT, cS, cL, up_at, Nat.add_zero]
                        congr 2
                        omega
                    · -- elsewhere
                      have holds : (Builtin.firstCells ie.size n (.slice (some ⟨(σ a.block).blk, A, none⟩) n C)).run P w.drew = .ok (old.map (cS σ)).toArray w.drew := by
                        refine run_firstCells_some w.drew ie.size n _ n C _ (by simpa using hol) (fun j u hj => ?_)
                        have hjl : j < n * ie.size := by have := (List.getElem?_eq_some_iff.1 hj).1; rw [List.length_map, hol] at this; exact this
                        have hn0 : n ≠ 0 := fun e => by subst e; simp at hjl
                        rw [add_at, hAo (.inr hn0)]
                        rw [List.getElem?_map] at hj
                        cases hlj : old[j]? with
                        | none => rw [hlj] at hj; cases hj
                        | some v =>
                          rw [hlj] at hj
                          injection hj with hj
                          rw [← hj]
                          exact ld_cells (h.known _) hld j v hlj
                      have hr := run_append_grow_src w t t' T e ie z hu hi hz (some ⟨(σ a.block).blk, A, none⟩) n C _ holds (cV σ x) m _ g1 (by omega) (by omega) (growslice_fits (by omega) (by omega))
                      refine ⟨_, _, up_ext _ _ _, hkp, grown_push hk hi hzs (l := old ++ new) hallsc hallpl (grownCap w (n + m) C e - (n + m)) (by rw [List.map_append]), by rw [scV_sl]; simp, ?_⟩
                      rw [hr]
                      have := grownCap_ge w (n + m) C e
                      simp only [cV, cT, cS, cL, up_at, Nat.add_zero]
                      congr 2
                      omega
                  · cases ha
                · cases ha
              · cases ha
          · cases ha
        · cases ha
      · cases ha
    · cases ha
  · cases ha
end
end Go.RX
