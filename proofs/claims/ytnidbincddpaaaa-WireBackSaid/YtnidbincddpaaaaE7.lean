/- Each operation of the executor is the machine's. -/
import Derived.Test.YtnidbincddpaaaaE6
import Derived.WalkSmall
namespace Go.RX
open Go Go.RowKit

/-- The temporaries of the executor and the machine's. -/
structure AR (N : Nat) (D : List Deferred) (σ : Nat → Loc) (tm : Tm) (n : Nat) (a : Act) : Prop where
  size : a.tmps.size = N
  val : ∀ t v, tm.get t = some v → a.tmps.getD t undef = cV σ v
  sc : ∀ t v, tm.get t = some v → scV n v = true
  df : a.defers = D

theorem AR.ext {N : Nat} {D : List Deferred} {σ σ' : Nat → Loc} {tm : Tm} {n n' : Nat} {a : Act} (h : AR N D σ tm n a) (he : Ext n σ σ') (hn : n ≤ n') : AR N D σ' tm n' a :=
  ⟨h.size, fun t v hv => by rw [cV_ext he _ (h.sc t v hv)]; exact h.val t v hv, fun t v hv => scV_mono hn _ (h.sc t v hv), h.df⟩

noncomputable def putv (N : Nat) (tm : Tm) (dst : Option Tmp) (v : Value) : Option Tm :=
  match dst with
  | none => some tm
  | some d => bif Nat.ble (Nat.add d 1) N then some (tm.set d v) else none

theorem AR.put {N : Nat} {D : List Deferred} {σ : Nat → Loc} {tm tm' : Tm} {n : Nat} {a : Act} {dst : Option Tmp} {v : Value} (h : AR N D σ tm n a) (hp : putv N tm dst v = some tm') (hv : scV n v = true) : AR N D σ tm' n (a.put dst (cV σ v)) := by
  unfold putv at hp
  split at hp
  · injection hp with hp; subst hp; exact h
  · rename_i d
    rw [ble_lt] at hp
    by_cases hd : d < N
    · rw [decide_eq_true hd, cond_true] at hp
      injection hp with hp; subst hp
      refine ⟨by simpa [Act.put] using h.size, fun t u hu => ?_, fun t u hu => ?_, h.df⟩
      · rw [Tr.get_set] at hu
        simp only [Act.put]
        by_cases ht : d = t
        · subst ht
          rw [if_pos rfl] at hu
          injection hu with hu; subst hu
          have : d < a.tmps.size := by rw [h.size]; exact hd
          simp [this]
        · rw [if_neg ht] at hu
          rw [← h.val t u hu]
          simp [Array.getElem?_setIfInBounds_ne ht]
      · rw [Tr.get_set] at hu
        split at hu
        · injection hu with hu; subst hu; exact hv
        · exact h.sc t u hu
    · rw [decide_eq_false hd, cond_false] at hp; cases hp

/-- A slot that is known to be a Bool is told so. -/
theorem AR.known {N : Nat} {D : List Deferred} {σ : Nat → Loc} {tm : Tm} {n : Nat} {a : Act} {d : Nat} {b : Bool} (h : AR N D σ tm n a) (hb : tm.get d = some (.bool b)) : AR N D σ (tm.set d (.bool b)) n a := by
  refine ⟨h.size, fun t u hu => ?_, fun t u hu => ?_, h.df⟩
  · rw [Tr.get_set] at hu
    split at hu
    · rename_i e; subst e; injection hu with hu; subst hu; exact h.val _ _ hb
    · exact h.val t u hu
  · rw [Tr.get_set] at hu
    split at hu
    · injection hu with hu; subst hu; rfl
    · exact h.sc t u hu

section
variable {P : Program} {W0 w : World} {S : Nat → Prop} {σ : Nat → Loc} {H : AH} {N n : Nat} {D : List Deferred} {tm : Tm} {a : Act}

theorem ev_run (h : AR N D σ tm n a) {x : Operand} {v : Value} (he : ev tm x = some v) : a.eval x = cV σ v ∧ scV n v = true := by
  unfold ev at he
  split at he
  · exact ⟨h.val _ _ he, h.sc _ _ he⟩
  · rename_i u
    cases hu : scV 0 u with
    | false => simp [hu] at he
    | true =>
      simp only [hu, cond_true] at he
      injection he with he; subst he
      exact ⟨(cV_const u hu).symm, scV_mono (Nat.zero_le _) _ hu⟩
  · injection he with he; subst he; exact ⟨by simp [Act.eval, cV, cT, cS], rfl⟩
  · cases he

theorem evs_run (h : AR N D σ tm n a) : ∀ {xs : List Operand} {vs : List Value}, evs tm xs = some vs → xs.map a.eval = vs.map (cV σ) ∧ ∀ v ∈ vs, scV n v = true := by
  intro xs
  induction xs with
  | nil => intro vs he; simp [evs] at he; subst he; exact ⟨rfl, by simp⟩
  | cons x r ih =>
    intro vs he
    unfold evs at he
    split at he
    · rename_i v ws hv hws
      injection he with he; subst he
      obtain ⟨h1, h2⟩ := ev_run h hv
      obtain ⟨h3, h4⟩ := ih hws
      refine ⟨by simp [h1, h3], fun u hu => ?_⟩
      rcases List.mem_cons.1 hu with rfl | hu
      · exact h2
      · exact h4 u hu
    · cases he

theorem evo_run (h : AR N D σ tm n a) {x : Option Operand} {v : Option Value} (he : evo tm x = some v) : x.map a.eval = v.map (cV σ) := by
  cases x with
  | none => simp [evo] at he; subst he; rfl
  | some x =>
    unfold evo at he
    split at he
    · rename_i e; cases e
    · rename_i y e
      injection e with e; subst e
      split at he
      · rename_i u hu
        injection he with he; subst he
        simp [(ev_run h hu).1]
      · cases he

theorem merge_eq (c : Bool) (a b : Value) : merge c a b = if c then a else b := by
  unfold merge
  split
  · cases c <;> rfl
  · split
    · rename_i hk; subst hk; cases c <;> rfl
    · cases c <;> rfl
  · cases c <;> rfl

/-- What an operation that yields a value leaves. -/
def Yield (P : Program) (W0 : World) (S : Nat → Prop) (σ : Nat → Loc) (H : AH) (r : Result Next) (v : Value) (H' : AH) : Prop :=
  ∃ σ' w', Ext H.size σ σ' ∧ Keep H H' ∧ Rel P W0 S σ' H' w' ∧ scV H'.size v = true ∧ (r = .ok (.value (cV σ' v)) w' ∨ (r = .ok .skip w' ∧ v = undef))

theorem Yield.pure (h : Rel P W0 S σ H w) {m : Sem Value} {v : Value} (hr : m.run P w = .ok (cV σ v) w ∧ scV H.size v = true) :
    Yield P W0 S σ H ((do Pure.pure (.value (← m)) : Sem Next).run P w) v H :=
  ⟨σ, w, Ext.refl _ _, Keep.refl _, h, hr.2, .inl (by rw [Sem.run_bind, hr.1]; rfl)⟩

theorem mapM_size (w : World) : ∀ (l : List Field) (pl : List (Nat × Nat)), (l.mapM fun f => (sizeB P f.type).map fun n => (f.offset, n)) = some pl →
    (l.mapM fun f => Prod.mk f.offset <$> sizeOf f.type : Sem (List (Nat × Nat))).run P w = .ok pl w := by
  intro l
  induction l with
  | nil => intro pl h; simp at h; subst h; rfl
  | cons f r ih =>
    intro pl h
    rw [List.mapM_cons] at h ⊢
    cases hs : sizeB P f.type with
    | none => simp [hs] at h
    | some n =>
      cases hr : r.mapM (fun f => (sizeB P f.type).map fun n => (f.offset, n)) with
      | none => simp [hs, hr] at h
      | some q =>
        simp [hs, hr] at h
        subst h
        simp [sizeB_run hs w, ih q hr]

theorem places_run {fields : Array Field} {pl : List (Nat × Nat)} (h : places P fields = some pl) (w : World) :
    (fields.mapM fun f => do Pure.pure (f.offset, ← sizeOf f.type) : Sem (Array (Nat × Nat))).run P w = .ok pl.toArray w := by
  unfold places at h
  rw [Array.mapM_eq_mapM_toList]
  simp [mapM_size w _ _ h]

theorem zip_map (l : List Nat) : ∀ vs : List Value, (l.zip vs).map (fun p => (p.1, cV σ p.2)) = l.zip (vs.map (cV σ)) := by
  induction l with
  | nil => intro vs; rfl
  | cons i r ih => intro vs; cases vs with
    | nil => rfl
    | cons v vs => simp [ih]

theorem parts_eq {parts : Array (Nat × Operand)} {vs : List Value} (h : (parts.toList.map (·.2)).map a.eval = vs.map (cV σ)) :
    (parts.map fun (i, x) => (i, a.eval x)).toList = ((parts.toList.map (·.1)).zip vs).map (fun p => (p.1, cV σ p.2)) := by
  rw [zip_map, ← h, Array.toList_map]
  generalize parts.toList = l
  induction l with
  | nil => rfl
  | cons p r ih => simp [ih]

theorem mem_zip_snd {l : List Nat} {vs : List Value} {p : Nat × Value} (h : p ∈ l.zip vs) : p.2 ∈ vs := (List.of_mem_zip h).2

theorem newVar_run (t : TypeId) (v : Value) (w : World) : (newVar t v).run P w = .ok ⟨w.heap.size, 0, none⟩ (w.alloc (.cells v.cells t)) := rfl

theorem abuild_struct {t : TypeId} {parts : Array (Nat × Operand)} {z : Value} {fields : Array Field} {vs : List Value} {pl : List (Nat × Nat)} {cs : Array Value}
    (hz : (P.info? t).bind (·.zero) = some z) (hu : P.underlying t = some (.struct fields)) (hv : (parts.toList.map (·.2)).map a.eval = vs.map (cV σ)) (hp : places P fields = some pl)
    (hf : Instr.fill (pl.toArray[·]?) z.cells ((parts.toList.map (·.1)).zip vs) = some cs) (hz0 : z.cells.toList.all (scS 0) = true) (hvs : vs.all (fun v => v.cells.toList.all (scS n)) = true) (w : World) :
    (Instr.build t (parts.map fun (i, x) => (i, a.eval x))).run P w = .ok (cV σ (.agg cs)) w ∧ scV n (.agg cs) = true := by
  have hmem : ∀ p ∈ (parts.toList.map (·.1)).zip vs, p.2.cells.toList.all (scS n) = true := fun p hp => List.all_eq_true.1 hvs p.2 (mem_zip_snd hp)
  have h1 := fill_conc (σ := σ) _ _ _ _ hf hmem
  have h2 := fill_sc _ _ _ _ hf hmem (all_scS_mono (Nat.zero_le n) _ hz0)
  rw [amap_cS_const _ hz0] at h1
  refine ⟨?_, h2⟩
  have hzr : (zeroValue t).run P w = .ok z w := by
    cases hi : P.info? t with
    | none => simp [hi] at hz
    | some i => simp [hi] at hz; simp [zeroValue, typeInfo, hi, hz]
  simp only [Instr.build, Sem.run_bind, hzr, Result.andThen_ok, run_underlying hu, places_run hp w, parts_eq hv, h1, Sem.run_pure]
  rfl

theorem abuild_array {t : TypeId} {parts : Array (Nat × Operand)} {z : Value} {len e s : Nat} {vs : List Value} {cs : Array Value}
    (hz : (P.info? t).bind (·.zero) = some z) (hu : P.underlying t = some (.array len e)) (hv : (parts.toList.map (·.2)).map a.eval = vs.map (cV σ)) (hs : sizeB P e = some s)
    (hf : Instr.fill (fun i => some (i * s, s)) z.cells ((parts.toList.map (·.1)).zip vs) = some cs) (hz0 : z.cells.toList.all (scS 0) = true) (hvs : vs.all (fun v => v.cells.toList.all (scS n)) = true) (w : World) :
    (Instr.build t (parts.map fun (i, x) => (i, a.eval x))).run P w = .ok (cV σ (.agg cs)) w ∧ scV n (.agg cs) = true := by
  have hmem : ∀ p ∈ (parts.toList.map (·.1)).zip vs, p.2.cells.toList.all (scS n) = true := fun p hp => List.all_eq_true.1 hvs p.2 (mem_zip_snd hp)
  have h1 := fill_conc (σ := σ) _ _ _ _ hf hmem
  have h2 := fill_sc _ _ _ _ hf hmem (all_scS_mono (Nat.zero_le n) _ hz0)
  rw [amap_cS_const _ hz0] at h1
  refine ⟨?_, h2⟩
  have hzr : (zeroValue t).run P w = .ok z w := by
    cases hi : P.info? t with
    | none => simp [hi] at hz
    | some i => simp [hi] at hz; simp [zeroValue, typeInfo, hi, hz]
  simp only [Instr.build, Sem.run_bind, hzr, Result.andThen_ok, run_underlying hu, sizeB_run hs w, parts_eq hv, h1, Sem.run_pure]
  rfl

theorem abuildSlice_run (h : Rel P W0 S σ H w) {t e : TypeId} {len : Nat} {parts : Array (Nat × Operand)} {ie : TypeInfo} {z : Value} {vs : List Value} {cs : Array Value}
    (hu : P.underlying t = some (.slice e)) (hi : P.info? e = some ie) (hz : ie.zero = some z) (hv : (parts.toList.map (·.2)).map a.eval = vs.map (cV σ)) (hlen : ¬ (len * ie.size > 16777216)) (hlen0 : ¬ (len * ie.size = 0))
    (hf : Instr.fill (fun i => some (i * ie.size, ie.size)) ((Array.range (len * ie.size)).map (z.cells[· % z.cells.size]!)) ((parts.toList.map (·.1)).zip vs) = some cs) (hz0 : z.cells.toList.all (scS 0) = true)
    (hvs : vs.all (fun v => v.cells.toList.all (scS H.size)) = true) :
    Yield P W0 S σ H ((do Pure.pure (.value (← Instr.buildSlice t len (parts.map fun (i, x) => (i, a.eval x)))) : Sem Next).run P w) (.slice (some ⟨H.size, 0, none⟩) len len) (H.push (row cs.toList e (cs.toList.all isScal))) := by
  have hmem : ∀ p ∈ (parts.toList.map (·.1)).zip vs, p.2.cells.toList.all (scS H.size) = true := fun p hp => List.all_eq_true.1 hvs p.2 (mem_zip_snd hp)
  have hz1 : ((Array.range (len * ie.size)).map (z.cells[· % z.cells.size]!)).toList.all (scS 0) = true := by
    refine List.all_eq_true.2 fun u hu => ?_
    rw [Array.toList_map] at hu
    obtain ⟨k, _, rfl⟩ := List.mem_map.1 hu
    by_cases hk : k % z.cells.size < z.cells.size
    · rw [getElem!_pos z.cells _ hk]
      exact List.all_eq_true.1 hz0 _ (by simp)
    · rw [getElem!_neg z.cells _ hk]; rfl
  have h1 := fill_conc (σ := σ) _ _ _ _ hf hmem
  have h2 := fill_sc _ _ _ _ hf hmem (all_scS_mono (Nat.zero_le _) _ hz1)
  rw [amap_cS_const _ hz1] at h1
  have hR := h.alloc cs.toList e (cs.toList.all isScal) h2 (fun hp => scal_all hp 0)
  refine ⟨_, _, up_ext _ _ _, (Keep.refl _).push _ rfl, hR, scV_sl.2 (Nat.lt_succ_self _), .inl ?_⟩
  have hs : (sizeOf e).run P w = .ok ie.size w := by simp [sizeOf, typeInfo, hi]
  have hzr : (zeroValue e).run P w = .ok z w := by simp [zeroValue, typeInfo, hi, hz]
  have hl1 : ¬ (len * ie.size > 2 ^ 24) := by simp; omega
  simp only [Instr.buildSlice, Sem.run_bind, run_underlying hu, hs, Result.andThen_ok, if_neg hl1, if_neg hlen0, hzr, Sem.run_pure, parts_eq hv, h1, newRow]
  have e2 : (⟨List.map (cS σ) cs.toList⟩ : Array Value) = cs.map (cS σ) := by
    apply Array.toList_inj.1
    rw [Array.toList_map]
  rw [e2]
  simp only [cV, cT, cS, cL, up_at]
  rfl

theorem amin2_run {most : Bool} {a b v : Value} (h : amin2 most a b = some v) (w : World) : (bif most then Builtin.max2 (cV σ a) (cV σ b) else Builtin.min2 (cV σ a) (cV σ b)).run P w = .ok (cV σ v) w ∧ ∃ k x, v = .int k x := by
  unfold amin2 at h
  split at h
  · rename_i k x k' y
    injection h with h; subst h
    refine ⟨?_, _, _, rfl⟩
    cases most with
    | true =>
      simp only [cond_true, cV, cT, cS, Builtin.max2, Sem.run_pure, ltB_eq]
      by_cases hlt : x < y
      · simp [hlt]
      · simp [hlt]
    | false =>
      simp only [cond_false, cV, cT, cS, Builtin.min2, Sem.run_pure, ltB_eq]
      by_cases hlt : y < x
      · simp [hlt]
      · simp [hlt]
  · cases h

theorem aminmax_go {most : Bool} (w : World) : ∀ (l : List Value) (a v : Value), l.foldlM (amin2 most) a = some v → (∃ k x, a = .int k x) →
    ((l.map (cV σ)).foldlM (fun x y => bif most then Builtin.max2 x y else Builtin.min2 x y) (cV σ a)).run P w = .ok (cV σ v) w ∧ ∃ k x, v = .int k x := by
  intro l
  induction l with
  | nil => intro a v h hk; simp at h; subst h; exact ⟨rfl, hk⟩
  | cons b l ih =>
    intro a v h hk
    rw [List.foldlM_cons] at h
    cases hab : amin2 most a b with
    | none => rw [hab] at h; cases h
    | some u =>
      rw [hab] at h
      obtain ⟨h1, h2⟩ := amin2_run (P := P) (σ := σ) hab w
      obtain ⟨h3, h4⟩ := ih u v h h2
      refine ⟨?_, h4⟩
      rw [List.map_cons, List.foldlM_cons, Sem.run_bind, h1]
      exact h3

theorem aminmax_run {most : Bool} {vs : List Value} {v : Value} (h : aminmax most vs = some v) (t : Array TypeId) (T : TypeId) (w : World) :
    (bif most then Builtin.max_ t T (vs.map (cV σ)).toArray else Builtin.min_ t T (vs.map (cV σ)).toArray).run P w = .ok (cV σ v) w ∧ ∃ k x, v = .int k x := by
  unfold aminmax at h
  split at h
  · cases h
  · rename_i k x r
    obtain ⟨h1, h2⟩ := aminmax_go (P := P) (σ := σ) w r _ v h ⟨k, x, rfl⟩
    refine ⟨?_, h2⟩
    cases most with
    | true => simpa [Builtin.max_] using h1
    | false => simpa [Builtin.min_] using h1
  · cases h

/-- '[]byte(s)': a new row. -/
theorem bytes_run (h : Rel P W0 S σ H w) {src dst e : TypeId} {d : TypeDesc} (hs : P.underlying src = some d) (hd : P.underlying dst = some (.slice e)) (he : P.underlying e = some (.int .u8)) (hz : esz P e = 1) (s : ByteArray) :
    ∃ σ' w', Ext H.size σ σ' ∧ Rel P W0 S σ' (H.push (row (s.data.toList.map fun b => Value.int .u8 b.toNat) e true)) w' ∧ (convert src dst (.string s)).run P w = .ok (cV σ' (.slice (some ⟨H.size, 0, none⟩) s.size s.size)) w' := by
  have hcap := grownCap_ge w s.size 0 e
  obtain ⟨arr, harr⟩ : ∃ arr : Array Value, arr = (s.data.map fun b : UInt8 => Value.int .u8 b.toNat) ++ Array.replicate (grownCap w s.size 0 e - s.size) (Value.int .u8 0) := ⟨_, rfl⟩
  refine ⟨up σ H.size ⟨w.heap.size, 0, grownCap w s.size 0 e - s.size, none⟩, w.drew.alloc (.cells arr e (arr.size, arr.size + 1)), up_ext _ _ _, ?_, ?_⟩
  · refine h.push (T := fun _ => False) ((Fr.refl _ w).drew.alloc _) (fun _ _ _ _ hh => hh) (fun _ hh => hh.elim) ⟨w.heap.size, 0, _, none⟩ _ rfl (fun i b hi ha => by have := h.lt i b hi ha; exact Nat.ne_of_lt this) (.inr h.fr.size) rfl (bytes_sc s _) (fun _ => bytes_sc s _)
      (fun _ => ⟨[], List.replicate (grownCap w s.size 0 e - s.size) (.int .u8 0), (arr.size, arr.size + 1), rfl, ?_, ?_, ?_⟩) (fun es hm => by cases hm)
    · rw [List.length_replicate, hz]; simp
    · show ((w.drew.heap.push _)[w.heap.size]? = _)
      have : w.drew.heap.size = w.heap.size := rfl
      rw [← this, Array.getElem?_push_size, bytes_conc]
      congr 2
      apply Array.toList_inj.1
      simp [harr]
    · intro o ho hf
      have : ([] ++ (s.data.toList.map fun b : UInt8 => Value.int .u8 b.toNat).map (cS σ) ++ List.replicate (grownCap w s.size 0 e - s.size) (Value.int .u8 0)).length = arr.size := by simp [harr]
      rw [this] at ho
      have h2 := hf.1
      simp only at h2
      omega
  · have hk : (convert src dst (.string s)).run P w = (Conv.stringToBytes e s).run P w := by
      simp [convert, run_underlying hs, run_underlying hd, run_underlying he]
    rw [hk]
    have e1 : cV (up σ H.size ⟨w.heap.size, 0, grownCap w s.size 0 e - s.size, none⟩) (.slice (some ⟨H.size, 0, none⟩) s.size s.size) = .slice (some ⟨w.heap.size, 0, none⟩) s.size (grownCap w s.size 0 e) := by
      simp only [cV, cT, cS, cL, up_at, Nat.add_zero]
      congr 1
      omega
    rw [e1]
    have hsh : (w.drew.alloc (Obj.cells arr e)).shape? w.heap.size = some (e, arr.size) := by
      have : (w.drew.alloc (Obj.cells arr e)).heap[w.heap.size]? = some (Obj.cells arr e) := by
        show (w.drew.heap.push _)[w.drew.heap.size]? = _
        exact Array.getElem?_push_size
      simp only [World.shape?, this]
    have hfz : (w.drew.alloc (Obj.cells arr e)).freeze ⟨w.heap.size, arr.size, none⟩ 1 = w.drew.alloc (Obj.cells arr e (arr.size, arr.size + 1)) := by
      have hh : ∀ f : Obj → Obj, f (Obj.cells arr e) = Obj.cells arr e (arr.size, arr.size + 1) → (w.drew.heap.push (Obj.cells arr e)).modify w.drew.heap.size f = w.drew.heap.push (Obj.cells arr e (arr.size, arr.size + 1)) := by
        intro f hf
        apply Array.ext_getElem?
        intro i
        rw [Array.getElem?_modify, Array.getElem?_push, Array.getElem?_push]
        by_cases hi : w.drew.heap.size = i
        · subst hi; simp [hf]
        · rw [if_neg hi, if_neg (Ne.symm hi), if_neg (Ne.symm hi)]
      simp only [World.freeze, Nat.one_ne_zero, if_false]
      exact congrArg (fun h : Array Obj => ({ w.drew with heap := h } : World)) (hh _ (by simp))
    have harr2 : (Array.map (fun b : UInt8 => Value.int IntKind.u8 b.toNat) s.data ++ Array.replicate ((Question.appendCap s.size 0 e).cut (w.tape w.drawn (Question.appendCap s.size 0 e)) - s.size) (Value.int IntKind.u8 0)) = arr := harr.symm
    simp only [grownCap]
    simp [Conv.stringToBytes, markStringish, newRow, Question.forced, harr2, hsh, hfz]

/-- What the machine does at an operation that the executor runs. -/
def OutOK (P : Program) (W0 : World) (S : Nat → Prop) (σ : Nat → Loc) (H : AH) (w : World) (r : Result Next) : AOut → Prop
  | .val v H' => Yield P W0 S σ H r v H'
  | .enter f args H' => H' = H ∧ (∀ v ∈ args, scV H.size v = true) ∧ r = .ok (.enter f (args.map (cV σ)).toArray) w
  | .pan v H' => H' = H ∧ scV H.size v = true ∧ (∀ σ', cV σ' v = v) ∧ r = .halt (.panic v) w

theorem oval_some {v : Option Value} {out : AOut} (h : oval H v = some out) : ∃ u, v = some u ∧ out = .val u H := by
  cases v with
  | none => simp [oval] at h
  | some u => simp only [oval, Option.some.injEq] at h; exact ⟨u, rfl, h.symm⟩


section
variable (P)
/-- Operations that yield a value and change nothing. -/
def light : Op → Bool
  | .move _ | .assign _ | .pick .. | .build .. | .load .. | .nilCheck _ | .binOp .. | .unOp .. | .makeInterface .. | .slice .. | .fieldAddr .. | .field .. | .indexAddr .. | .index .. | .extract .. => true
  | .convert _ dst _ => (match P.underlying dst with | some (.slice _) => false | _ => true)
  | .call { callee := .builtin .len, .. } => true
  | .call { callee := .builtin .min, .. } => true
  | .call { callee := .builtin .max, .. } => true
  | _ => false
end

theorem args_eq {args : Array Operand} {vs : List Value} (h : args.toList.map a.eval = vs.map (cV σ)) : args.map a.eval = (vs.map (cV σ)).toArray := by
  apply Array.toList_inj.1
  rw [Array.toList_map, h]
theorem tys_eq {ts : Array TypeId} {l : List TypeId} (h : ts.toList = l) : ts = l.toArray := by apply Array.toList_inj.1; rw [h]

/-- The blocks that such an operation reads. -/
noncomputable def rdIds (tm : Tm) : Op → List Nat
  | .load _ a => match ev tm a with | some (.pointer (some p)) => [p.block] | _ => []
  | .convert _ _ x => match ev tm x with | some (.slice (some p) _ _) => [p.block] | _ => []
  | _ => []

theorem aop_light (hsc : Scoped H) (hsp : Spots σ H) (hA : AR N D σ tm H.size a) (o : Oper) {op : Op} (hop : o.op = op) (hl : light P op = true) (hk : ∀ i ∈ rdIds tm op, Known σ H w i) {out : AOut} (ha : aop P tm H op = some out) :
    ∃ v, out = .val v H ∧ (execOp a.eval o).run P w = .ok (.value (cV σ v)) w ∧ scV H.size v = true := by
  have stay : ∀ v : Value, scV H.size v = true → (execOp a.eval o).run P w = .ok (.value (cV σ v)) w → ∃ v', AOut.val v H = .val v' H ∧ (execOp a.eval o).run P w = .ok (.value (cV σ v')) w ∧ scV H.size v' = true :=
    fun v hv hr => ⟨v, rfl, hr, hv⟩
  unfold aop at ha
  split at ha
  · -- move
    obtain ⟨u, hu, rfl⟩ := oval_some ha
    obtain ⟨h1, h2⟩ := ev_run hA hu
    exact stay u h2 (by simp only [execOp, hop, h1]; rfl)
  · -- assign
    obtain ⟨u, hu, rfl⟩ := oval_some ha
    obtain ⟨h1, h2⟩ := ev_run hA hu
    exact stay u h2 (by simp only [execOp, hop, h1]; rfl)
  · -- pick
    split at ha
    · rename_i c x y hc hx hy
      injection ha with ha; subst ha
      obtain ⟨c1, _⟩ := ev_run hA hc
      obtain ⟨x1, x2⟩ := ev_run hA hx
      obtain ⟨y1, y2⟩ := ev_run hA hy
      rw [merge_eq]
      have hb : cV σ (.bool c) = .bool c := rfl
      refine stay _ (by split <;> assumption) ?_
      simp only [execOp, hop, c1, x1, y1, hb, asBool]
      cases c <;> simp
    · cases ha
  · cases hl
  · cases hl
  · -- build
    split at ha
    · rename_i z fields vs hz hu hvs
      obtain ⟨h1, h2⟩ := evs_run hA hvs
      split at ha
      · rename_i pl hpl
        split at ha
        · rename_i cs hcs
          cases hc : (z.cells.toList.all (scS 0) && vs.all (fun v => v.cells.toList.all (scS H.size))) with
          | false => rw [hc, cond_false] at ha; cases ha
          | true =>
            rw [hc, cond_true] at ha
            injection ha with ha; subst ha
            simp only [Bool.and_eq_true] at hc
            obtain ⟨h3, h4⟩ := abuild_struct (n := H.size) hz hu h1 hpl hcs hc.1 hc.2 w
            exact stay _ h4 (by simp only [execOp, hop]; rw [Sem.run_bind, h3]; rfl)
        · cases ha
      · cases ha
    · rename_i z len e vs hz hu hvs
      obtain ⟨h1, h2⟩ := evs_run hA hvs
      split at ha
      · rename_i s hs
        split at ha
        · rename_i cs hcs
          cases hc : (z.cells.toList.all (scS 0) && vs.all (fun v => v.cells.toList.all (scS H.size))) with
          | false => rw [hc, cond_false] at ha; cases ha
          | true =>
            rw [hc, cond_true] at ha
            injection ha with ha; subst ha
            simp only [Bool.and_eq_true] at hc
            obtain ⟨h3, h4⟩ := abuild_array (n := H.size) hz hu h1 hs hcs hc.1 hc.2 w
            exact stay _ h4 (by simp only [execOp, hop]; rw [Sem.run_bind, h3]; rfl)
        · cases ha
      · cases ha
    · cases ha
  · cases hl
  · -- load
    split at ha
    · rename_i q hq
      obtain ⟨u, hu, rfl⟩ := oval_some ha
      obtain ⟨h1, h2⟩ := ev_run hA hq
      obtain ⟨h3, h4⟩ := aload_run (P := P) hsc (fun p hp => hk _ (by simp [rdIds, hq, hp])) hu
      exact stay u h4 (by simp only [execOp, hop, h1, Sem.run_bind, h3]; rfl)
    · cases ha
  · cases hl
  · -- nilCheck
    split at ha
    · rename_i b hb
      injection ha with ha; subst ha
      obtain ⟨h1, h2⟩ := ev_run hA hb
      exact stay _ h2 (by simp only [execOp, hop, h1, cV, cT, cS]; rfl)
    · rename_i f b1 b2 hb
      injection ha with ha; subst ha
      obtain ⟨h1, h2⟩ := ev_run hA hb
      exact stay _ h2 (by simp only [execOp, hop, h1, cV, cT, cS]; rfl)
    · cases ha
  · -- binOp
    split at ha
    · rename_i x y hx hy
      obtain ⟨u, hu, rfl⟩ := oval_some ha
      obtain ⟨x1, x2⟩ := ev_run hA hx
      obtain ⟨y1, y2⟩ := ev_run hA hy
      obtain ⟨h3, h4⟩ := abinc_run (σ := σ) hu x2 y2 _ w
      refine stay u h4 ?_
      simp only [execOp, hop, x1, y1]
      rw [Sem.run_bind, h3]; rfl
    · cases ha
  · -- not
    split at ha
    · rename_i b hb
      injection ha with ha; subst ha
      obtain ⟨h1, h2⟩ := ev_run hA hb
      exact stay _ rfl (by simp only [execOp, hop, h1, cV, cT, cS]; rfl)
    · cases ha
  · -- neg
    split at ha
    · rename_i k m hb
      injection ha with ha; subst ha
      obtain ⟨h1, h2⟩ := ev_run hA hb
      exact stay _ rfl (by simp only [execOp, hop, h1, cV, cT, cS]; rfl)
    · cases ha
  · -- convert
    rename_i src dst x
    split at ha
    · rename_i _ _ hd
      simp only [light, hd] at hl; cases hl
    · rename_i v hx _
      obtain ⟨u, hu, rfl⟩ := oval_some ha
      obtain ⟨x1, x2⟩ := ev_run hA hx
      obtain ⟨h3, h4⟩ := aconv_run hsp (fun p n c hp => hk _ (by simp [rdIds, hx, hp])) hu
      exact stay u h4 (by simp only [execOp, hop, x1, Sem.run_bind, h3]; rfl)
    · cases ha
  · -- makeInterface
    split at ha
    · rename_i v hx
      split at ha
      · cases ha
      · rename_i d hni hu
        cases hc : inI H.size v with
        | false => rw [hc, cond_false] at ha; cases ha
        | true =>
          rw [hc, cond_true] at ha
          injection ha with ha; subst ha
          obtain ⟨h1, h2⟩ := ev_run hA hx
          obtain ⟨h3, h4⟩ := inI_c2 (σ := σ) hc
          have h5 : s2 H.size v = true := by simp only [inI, Bool.and_eq_true] at hc; exact hc.2
          refine stay _ h5 ?_
          have e : ∀ t, cV σ (.iface t v) = .iface t (c2 σ v) := fun _ => rfl
          rw [e, h3]
          simp only [execOp, hop, h1, Instr.makeInterface, Sem.run_bind, run_underlying hu, Result.andThen_ok]
          cases d <;> first | rfl | exact absurd rfl (hni _)
      · cases ha
    · cases ha
  · -- slice
    split at ha
    · rename_i x lo hi mx hx hlo hhi hmx
      obtain ⟨u, hu, rfl⟩ := oval_some ha
      obtain ⟨x1, x2⟩ := ev_run hA hx
      obtain ⟨h3, h4⟩ := aslice_run (w := w) hsp hu x2
      exact stay u h4 (by simp only [execOp, hop, x1, evo_run hA hlo, evo_run hA hhi, evo_run hA hmx, Sem.run_bind, h3]; rfl)
    · cases ha
  · -- fieldAddr
    split at ha
    · rename_i i off fields hx hu
      split at ha
      · rename_i fd hf
        split at ha
        · rename_i s hs
          split at ha
          · cases ha
          · rename_i hs0
            injection ha with ha; subst ha
            obtain ⟨x1, x2⟩ := ev_run hA hx
            refine stay _ (scV_ptr.2 (scV_ptr.1 x2)) ?_
            simp only [execOp, hop, x1, cV, cT, cS, cA, Instr.fieldAt, Sem.run_bind, run_underlying hu, Result.andThen_ok, hf, Instr.sureAddr, Sem.run_pure, fieldPlace, sizeB_run hs w, if_neg hs0, add_at, Nat.add_assoc]
        · cases ha
      · cases ha
    · cases ha
  · -- field
    split at ha
    · rename_i x hx
      obtain ⟨u, hu, rfl⟩ := oval_some ha
      obtain ⟨x1, x2⟩ := ev_run hA hx
      obtain ⟨h3, h4⟩ := afield_run (σ := σ) hu x2 w
      exact stay u h4 (by simp only [execOp, hop, x1, Sem.run_bind, h3]; rfl)
    · cases ha
  · -- indexAddr
    split at ha
    · rename_i x ix hx hix
      obtain ⟨u, hu, rfl⟩ := oval_some ha
      obtain ⟨x1, x2⟩ := ev_run hA hx
      obtain ⟨y1, y2⟩ := ev_run hA hix
      obtain ⟨h3, h4⟩ := aindexAddr_run (w := w) hsp hu x2
      exact stay u h4 (by simp only [execOp, hop, x1, y1, Sem.run_bind, h3]; rfl)
    · cases ha
  · -- index
    split at ha
    · rename_i x ix hx hix
      obtain ⟨u, hu, rfl⟩ := oval_some ha
      obtain ⟨x1, x2⟩ := ev_run hA hx
      obtain ⟨y1, y2⟩ := ev_run hA hix
      obtain ⟨h3, h4⟩ := aindex_run (σ := σ) hu x2 w
      exact stay u h4 (by simp only [execOp, hop, x1, y1, Sem.run_bind, h3]; rfl)
    · cases ha
  · -- extract
    split at ha
    · rename_i vs hx
      obtain ⟨u, hu, rfl⟩ := oval_some ha
      obtain ⟨x1, x2⟩ := ev_run hA hx
      have hus : scT H.size u = true := List.all_eq_true.1 x2 u (by have := Array.mem_of_getElem? hu; simpa using this)
      refine stay u (scV_of_scT hus) ?_
      have e : cV σ (.tuple vs) = .tuple (vs.map (cT σ)) := rfl
      simp only [execOp, hop, x1, e, Instr.extract, Array.getElem?_map, hu, Option.map_some, Sem.run_bind, Sem.run_pure, Result.andThen_ok, cV_of_scT hus]
    · cases ha
  · cases hl
  · -- len
    split at ha
    · rename_i v t hv ht
      obtain ⟨u, hu, rfl⟩ := oval_some ha
      obtain ⟨h1, h2⟩ := evs_run hA hv
      obtain ⟨h3, h4⟩ := alen_run (σ := σ) (n := H.size) hu w o.type
      refine stay u h4 ?_
      have e : ([v].map (cV σ)).toArray = #[cV σ v] := rfl
      simp only [execOp, hop, resolve, args_eq h1, tys_eq ht, e, Sem.run_bind, Sem.run_pure, Result.andThen_ok, invoke, builtin, h3]
    · cases ha
  · -- min
    split at ha
    · rename_i vs hv
      obtain ⟨u, hu, rfl⟩ := oval_some ha
      obtain ⟨h1, h2⟩ := evs_run hA hv
      rename_i e args argTypes _
      obtain ⟨h3, k, x, rfl⟩ := aminmax_run (P := P) (σ := σ) hu argTypes o.type w
      refine stay _ rfl ?_
      rw [cond_false] at h3
      simp only [execOp, hop, resolve, args_eq h1, Sem.run_bind, Sem.run_pure, Result.andThen_ok, invoke, builtin, h3]
    · cases ha
  · -- max
    split at ha
    · rename_i vs hv
      obtain ⟨u, hu, rfl⟩ := oval_some ha
      obtain ⟨h1, h2⟩ := evs_run hA hv
      rename_i e args argTypes _
      obtain ⟨h3, k, x, rfl⟩ := aminmax_run (P := P) (σ := σ) hu argTypes o.type w
      refine stay _ rfl ?_
      rw [cond_true] at h3
      simp only [execOp, hop, resolve, args_eq h1, Sem.run_bind, Sem.run_pure, Result.andThen_ok, invoke, builtin, h3]
    · cases ha
  · cases hl
  · cases hl
  · cases hl
  · cases ha

theorem aop_run (hnum : ∀ (f : FuncId) (fn : Func), P.funcs[f]? = some fn → (fn.name == "runtime.NumGoroutine") = false) (h : Rel P W0 S σ H w) (hA : AR N D σ tm H.size a) (o : Oper) {op : Op} (hop : o.op = op) {out : AOut} (ha : aop P tm H op = some out) :
    OutOK P W0 S σ H w ((execOp a.eval o).run P w) out := by
  cases hl : light P op with
  | true =>
    obtain ⟨v, rfl, h1, h2⟩ := aop_light h.sc h.sp hA o hop hl (fun i _ => h.known i) ha
    exact ⟨σ, w, Ext.refl _ _, Keep.refl _, h, h2, .inl h1⟩
  | false =>
  have stay : ∀ v : Value, scV H.size v = true → (execOp a.eval o).run P w = .ok (.value (cV σ v)) w → OutOK P W0 S σ H w ((execOp a.eval o).run P w) (.val v H) :=
    fun v hv hr => ⟨σ, w, Ext.refl _ _, Keep.refl _, h, hv, .inl hr⟩
  unfold aop at ha
  split at ha
  all_goals first | (cases hl; done) | skip
  · -- alloc
    rename_i T
    split at ha
    · rename_i z hz
      cases hc : z.cells.toList.all (scS 0) with
      | false => rw [hc, cond_false] at ha; cases ha
      | true =>
        rw [hc, cond_true] at ha
        injection ha with ha; subst ha
        have hR := h.alloc z.cells.toList T (z.cells.toList.all isScal) (all_scS_mono (Nat.zero_le _) _ hc) (fun _ => hc)
        rw [map_cS_const _ hc] at hR
        refine ⟨_, _, up_ext _ _ _, (Keep.refl _).push _ rfl, hR, scV_ptr.2 (Nat.lt_succ_self _), .inl ?_⟩
        have hzr : (zeroValue T).run P w = .ok z w := by
          cases hi : P.info? T with
          | none => simp [hi] at hz
          | some i => simp [hi] at hz; simp [zeroValue, typeInfo, hi, hz]
        simp only [execOp, hop, Instr.alloc, Sem.run_bind, hzr, Result.andThen_ok, newVar_run, Sem.run_pure, cV, cT, cS, cA, up_at]
    · cases ha
  · -- box
    rename_i T _
    split at ha
    · rename_i v hv
      cases hc : v.cells.toList.all (scS H.size) with
      | false => rw [hc, cond_false] at ha; cases ha
      | true =>
        rw [hc, cond_true] at ha
        injection ha with ha; subst ha
        obtain ⟨h1, h2⟩ := ev_run hA hv
        have hR := h.alloc v.cells.toList T (v.cells.toList.all isScal) hc (fun hp => scal_all hp 0)
        rw [← cV_cells σ v _ hc] at hR
        refine ⟨_, _, up_ext _ _ _, (Keep.refl _).push _ rfl, hR, scV_ptr.2 (Nat.lt_succ_self _), .inl ?_⟩
        have e1 : cV (up σ H.size ⟨w.heap.size, 0, 0, none⟩) (.pointer (some ⟨H.size, 0, none⟩)) = .pointer (some ⟨w.heap.size, 0, none⟩) := by simp only [cV, cT, cS, cA, up_at]
        rw [e1]
        simp only [execOp, hop, h1, Instr.box, Sem.run_bind, Result.andThen_ok, newVar_run, Sem.run_pure]
    · cases ha
  · -- buildSlice
    rename_i T0 len parts
    split at ha
    · rename_i e vs hu hvs
      obtain ⟨h1, h2⟩ := evs_run hA hvs
      split at ha
      · rename_i ie hi
        split at ha
        · cases ha
        · rename_i hlen
          split at ha
          · rename_i hlen0
            split at ha
            · rename_i hp0
              injection ha with ha; subst ha
              have hp : parts = #[] := by apply Array.toList_inj.1; exact List.eq_nil_of_length_eq_zero hp0
              subst hp
              have hR := h.alloc [] e true rfl (fun _ => rfl)
              refine ⟨_, _, up_ext _ _ _, (Keep.refl _).push _ rfl, hR, scV_sl.2 (Nat.lt_succ_self _), .inl ?_⟩
              have hs : (sizeOf e).run P w = .ok ie.size w := by simp [sizeOf, typeInfo, hi]
              have hl1 : ¬ (len * ie.size > 2 ^ 24) := by simp; omega
              simp only [execOp, hop, Instr.buildSlice, Sem.run_bind, run_underlying hu, hs, Result.andThen_ok, if_neg hl1, if_pos hlen0, Sem.run_pure, newRow, cV, cT, cS, cL, up_at]
              rw [hlen0]
              have e2 : (Array.map (fun x => (#[] : Array Value)[x % (#[] : Array Value).size]!) (Array.range 0)) = #[] := by simp
              have e3 : (Array.map (fun x : Nat × Operand => (x.fst, a.eval x.snd)) #[]).toList = [] := by simp
              rw [e2, e3]
              simp only [Instr.fill]
              rfl
            · cases ha
          · rename_i hlen0
            split at ha
            · rename_i z hz
              split at ha
              · rename_i cs hcs
                cases hc : (z.cells.toList.all (scS 0) && vs.all (fun v => v.cells.toList.all (scS H.size))) with
                | false => rw [hc, cond_false] at ha; cases ha
                | true =>
                  rw [hc, cond_true] at ha
                  injection ha with ha; subst ha
                  simp only [Bool.and_eq_true] at hc
                  have := abuildSlice_run h hu hi hz h1 hlen hlen0 hcs hc.1 hc.2
                  simp only [execOp, hop]
                  exact this
              · cases ha
            · cases ha
      · cases ha
    · cases ha
  · -- store
    split at ha
    · rename_i q v hq hv
      split at ha
      · rename_i H' hst
        injection ha with ha; subst ha
        obtain ⟨h1, h2⟩ := ev_run hA hq
        obtain ⟨h3, h4⟩ := ev_run hA hv
        obtain ⟨w', hr, hR, hlen, hkp⟩ := astore_run h hst
        exact ⟨σ, w', Ext.refl _ _, hkp, hR, rfl, .inr ⟨by simp only [execOp, hop, h1, h3, Sem.run_bind, hr]; rfl, rfl⟩⟩
      · cases ha
    · cases ha
  · -- convert
    split at ha
    · rename_i s d e hx hs hd
      split at ha
      · rename_i he
        split at ha
        · rename_i hz
          injection ha with ha; subst ha
          obtain ⟨x1, x2⟩ := ev_run hA hx
          obtain ⟨σ', w', e1, e2, e3⟩ := bytes_run h hs hd he hz.1 s
          refine ⟨σ', w', e1, (Keep.refl _).push _ rfl, e2, scV_sl.2 (Nat.lt_succ_self _), .inl ?_⟩
          have e4 : cV σ (.string s) = .string s := rfl
          simp only [execOp, hop, x1, e4, Sem.run_bind, e3]; rfl
        · cases ha
      · cases ha
    · rename_i v hx _
      obtain ⟨u, hu, rfl⟩ := oval_some ha
      obtain ⟨x1, x2⟩ := ev_run hA hx
      obtain ⟨h3, h4⟩ := aconv_run h.sp (fun _ _ _ _ => h.known _) hu
      exact stay u h4 (by simp only [execOp, hop, x1, Sem.run_bind, h3]; rfl)
    · cases ha
  · -- call
    split at ha
    · rename_i vs hvs
      split at ha
      · rename_i fn hfn
        cases hb : fn.body.isSome with
        | false => rw [hb, cond_false] at ha; cases ha
        | true =>
          rw [hb, cond_true] at ha
          injection ha with ha; subst ha
          obtain ⟨h1, h2⟩ := evs_run hA hvs
          refine ⟨rfl, h2, ?_⟩
          have hbn : fn.body.isNone = false := by cases hq : fn.body <;> simp_all
          simp only [execOp, hop, resolve, args_eq h1, Act.eval, Deferred.ofValue, Sem.run_bind, Sem.run_pure, Result.andThen_ok, invoke, callFunc, run_program, hfn, hnum _ _ hfn, hbn]
          simp
      · cases ha
    · cases ha
  · -- append
    split at ha
    · rename_i s x t t' hv ht
      split at ha
      · rename_i u H' happ
        injection ha with ha; subst ha
        obtain ⟨h1, h2⟩ := evs_run hA hv
        obtain ⟨σ', w', e1, e2, e3, e4, e5⟩ := aappend_run h happ (h2 s (by simp)) o.type
        refine ⟨σ', w', e1, e2, e3, e4, .inl ?_⟩
        have e6 : ([s, x].map (cV σ)).toArray = #[cV σ s, cV σ x] := rfl
        simp only [execOp, hop, resolve, args_eq h1, tys_eq ht, e6, Sem.run_bind, Sem.run_pure, Result.andThen_ok, invoke, builtin, e5]
      · cases ha
    · cases ha
  · -- typeAssert
    split at ha
    · rename_i v hx
      obtain ⟨u, hu, rfl⟩ := oval_some ha
      obtain ⟨h1, h2⟩ := ev_run hA hx
      rename_i e X T ok q
      obtain ⟨h3, h4⟩ := aassert_run (σ := σ) (n := H.size) (X := X) hu w
      exact stay u h4 (by simp only [execOp, hop, h1, Sem.run_bind, h3]; rfl)
    · cases ha
  · -- panic
    split at ha
    · rename_i T u hx
      cases hc : (scT 0 u && s2 0 u) with
      | false => rw [hc, cond_false] at ha; cases ha
      | true =>
        rw [hc, cond_true] at ha
        simp only [Bool.and_eq_true] at hc
        injection ha with ha; subst ha
        obtain ⟨x1, x2⟩ := ev_run hA hx
        have e : ∀ σ', cV σ' (.iface T u) = .iface T u := fun σ' => cV_const _ hc.2
        refine ⟨rfl, x2, e, ?_⟩
        simp only [execOp, hop, x1, e, Sem.run_bind, run_panic_iface]
        rfl
    · cases ha
  · cases ha
end
end Go.RX
