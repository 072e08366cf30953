/- Each operation of the executor is the machine's. -/
import Derived.Test.YtnidbincddpaaaaX8
import Derived.WalkSmall
namespace Go.RX
open Go Go.Proofs.Ytnidbincddpaaaa Go.RowKit

/-- The temporaries of the executor and the machine's. -/
structure AR (N : Nat) (D : List Deferred) (σ : Nat → Loc) (tm : Tm) (n : Nat) (a : Act) : Prop where
  size : a.tmps.size = N
  val : ∀ t, a.tmps.getD t undef = cV σ (get tm t)
  sc : ∀ t, scV n (get tm t) = true
  df : a.defers = D

theorem AR.ext {N : Nat} {D : List Deferred} {σ σ' : Nat → Loc} {tm : Tm} {n n' : Nat} {a : Act} (h : AR N D σ tm n a) (he : Ext n σ σ') (hn : n ≤ n') : AR N D σ' tm n' a :=
  ⟨h.size, fun t => by rw [cV_ext he _ (h.sc t)]; exact h.val t, fun t => scV_mono hn _ (h.sc t), h.df⟩

theorem get_cons (d : Nat) (v : Value) (tm : Tm) (t : Nat) : get ((d, v) :: tm) t = if d = t then v else get tm t := rfl

theorem AR.put {N : Nat} {D : List Deferred} {σ : Nat → Loc} {tm tm' : Tm} {n : Nat} {a : Act} {dst : Option Tmp} {v : Value} (h : AR N D σ tm n a) (hp : putv N tm dst v = some tm') (hv : scV n v = true) : AR N D σ tm' n (a.put dst (cV σ v)) := by
  unfold putv at hp
  split at hp
  · injection hp with hp; subst hp; exact h
  · rename_i d
    split at hp
    · rename_i hd
      injection hp with hp; subst hp
      refine ⟨by simpa [Act.put] using h.size, fun t => ?_, fun t => ?_, h.df⟩
      · rw [get_cons]
        simp only [Act.put]
        by_cases ht : d = t
        · subst ht
          rw [if_pos rfl]
          have : d < a.tmps.size := by rw [h.size]; exact hd
          simp [this]
        · rw [if_neg ht, ← h.val t]
          simp [Array.getElem?_setIfInBounds_ne ht]
      · rw [get_cons]
        split
        · exact hv
        · exact h.sc t
    · cases hp

/-- A slot that is known to be a Bool is told so. -/
theorem AR.known {N : Nat} {D : List Deferred} {σ : Nat → Loc} {tm : Tm} {n : Nat} {a : Act} {d : Nat} {b : Bool} (h : AR N D σ tm n a) (hb : get tm d = .bool b) : AR N D σ ((d, .bool b) :: tm) n a := by
  refine ⟨h.size, fun t => ?_, fun t => ?_, h.df⟩
  · rw [get_cons]
    split
    · rename_i e; subst e; rw [h.val, hb]
    · exact h.val t
  · rw [get_cons]
    split
    · rfl
    · exact h.sc t

section
variable {P : Program} {W0 w : World} {S : Nat → Prop} {σ : Nat → Loc} {H : AH} {N n : Nat} {D : List Deferred} {tm : Tm} {a : Act}

theorem ev_run (h : AR N D σ tm n a) {x : Operand} {v : Value} (he : ev tm x = some v) : a.eval x = cV σ v ∧ scV n v = true := by
  unfold ev at he
  split at he
  · injection he with he; subst he; exact ⟨h.val _, h.sc _⟩
  · rename_i u
    cases hu : scV 0 u with
    | false => simp [hu] at he
    | true =>
      simp only [hu, cond_true] at he
      injection he with he; subst he
      exact ⟨(cV_const u hu).symm, scV_mono (Nat.zero_le _) _ hu⟩
  · injection he with he; subst he; exact ⟨rfl, rfl⟩
  · cases he

theorem evs_run (h : AR N D σ tm n a) : ∀ {xs : List Operand} {vs : List Value}, evs tm xs = some vs → xs.map a.eval = vs.map (cV σ) ∧ ∀ v ∈ vs, scV n v = true := by
  intro xs
  induction xs with
  | nil => intro vs he; simp [evs] at he; subst he; exact ⟨rfl, by simp⟩
  | cons x r ih =>
    intro vs he
    unfold evs at he
    split at he
    · rename_i v ws hv hws
      injection he with he; subst he
      obtain ⟨h1, h2⟩ := ev_run h hv
      obtain ⟨h3, h4⟩ := ih hws
      refine ⟨by simp [h1, h3], fun u hu => ?_⟩
      rcases List.mem_cons.1 hu with rfl | hu
      · exact h2
      · exact h4 u hu
    · cases he

theorem evo_run (h : AR N D σ tm n a) {x : Option Operand} {v : Option Value} (he : evo tm x = some v) : x.map a.eval = v.map (cV σ) := by
  cases x with
  | none => simp [evo] at he; subst he; rfl
  | some x =>
    unfold evo at he
    split at he
    · rename_i e; cases e
    · rename_i y e
      injection e with e; subst e
      split at he
      · rename_i u hu
        injection he with he; subst he
        simp [(ev_run h hu).1]
      · cases he

theorem merge_eq (c : Bool) (a b : Value) : merge c a b = if c then a else b := by
  unfold merge
  split
  · cases c <;> rfl
  · split
    · rename_i hk; subst hk; cases c <;> rfl
    · cases c <;> rfl
  · cases c <;> rfl

/-- What an operation that yields a value leaves. -/
def Yield (P : Program) (W0 : World) (S : Nat → Prop) (σ : Nat → Loc) (H : AH) (r : Result Next) (v : Value) (H' : AH) : Prop :=
  ∃ σ' w', Ext H.length σ σ' ∧ Keep H H' ∧ Rel P W0 S σ' H' w' ∧ scV H'.length v = true ∧ (r = .ok (.value (cV σ' v)) w' ∨ (r = .ok .skip w' ∧ v = undef))

theorem Yield.pure (h : Rel P W0 S σ H w) {m : Sem Value} {v : Value} (hr : m.run P w = .ok (cV σ v) w ∧ scV H.length v = true) :
    Yield P W0 S σ H ((do Pure.pure (.value (← m)) : Sem Next).run P w) v H :=
  ⟨σ, w, Ext.refl _ _, Keep.refl _, h, hr.2, .inl (by rw [Sem.run_bind, hr.1]; rfl)⟩

theorem mapM_size (w : World) : ∀ (l : List Field) (pl : List (Nat × Nat)), (l.mapM fun f => (sizeB P f.type).map fun n => (f.offset, n)) = some pl →
    (l.mapM fun f => Prod.mk f.offset <$> sizeOf f.type : Sem (List (Nat × Nat))).run P w = .ok pl w := by
  intro l
  induction l with
  | nil => intro pl h; simp at h; subst h; rfl
  | cons f r ih =>
    intro pl h
    rw [List.mapM_cons] at h ⊢
    cases hs : sizeB P f.type with
    | none => simp [hs] at h
    | some n =>
      cases hr : r.mapM (fun f => (sizeB P f.type).map fun n => (f.offset, n)) with
      | none => simp [hs, hr] at h
      | some q =>
        simp [hs, hr] at h
        subst h
        simp [sizeB_run hs w, ih q hr]

theorem places_run {fields : Array Field} {pl : List (Nat × Nat)} (h : places P fields = some pl) (w : World) :
    (fields.mapM fun f => do Pure.pure (f.offset, ← sizeOf f.type) : Sem (Array (Nat × Nat))).run P w = .ok pl.toArray w := by
  unfold places at h
  rw [Array.mapM_eq_mapM_toList]
  simp [mapM_size w _ _ h]

theorem zip_map (l : List Nat) : ∀ vs : List Value, (l.zip vs).map (fun p => (p.1, cV σ p.2)) = l.zip (vs.map (cV σ)) := by
  induction l with
  | nil => intro vs; rfl
  | cons i r ih => intro vs; cases vs with
    | nil => rfl
    | cons v vs => simp [ih]

theorem parts_eq {parts : Array (Nat × Operand)} {vs : List Value} (h : (parts.toList.map (·.2)).map a.eval = vs.map (cV σ)) :
    (parts.map fun (i, x) => (i, a.eval x)).toList = ((parts.toList.map (·.1)).zip vs).map (fun p => (p.1, cV σ p.2)) := by
  rw [zip_map, ← h, Array.toList_map]
  generalize parts.toList = l
  induction l with
  | nil => rfl
  | cons p r ih => simp [ih]

theorem mem_zip_snd {l : List Nat} {vs : List Value} {p : Nat × Value} (h : p ∈ l.zip vs) : p.2 ∈ vs := (List.of_mem_zip h).2

theorem newVar_run (t : TypeId) (v : Value) (w : World) : (newVar t v).run P w = .ok ⟨w.heap.size, 0, none⟩ (w.alloc (.cells v.cells t)) := rfl

theorem abuild_struct {t : TypeId} {parts : Array (Nat × Operand)} {z : Value} {fields : Array Field} {vs : List Value} {pl : List (Nat × Nat)} {cs : Array Value}
    (hz : (P.info? t).bind (·.zero) = some z) (hu : P.underlying t = some (.struct fields)) (hv : (parts.toList.map (·.2)).map a.eval = vs.map (cV σ)) (hp : places P fields = some pl)
    (hf : Instr.fill (pl.toArray[·]?) z.cells ((parts.toList.map (·.1)).zip vs) = some cs) (hz0 : z.cells.toList.all (scS 0) = true) (hvs : vs.all (fun v => v.cells.toList.all (scS n)) = true) (w : World) :
    (Instr.build t (parts.map fun (i, x) => (i, a.eval x))).run P w = .ok (cV σ (.agg cs)) w ∧ scV n (.agg cs) = true := by
  have hmem : ∀ p ∈ (parts.toList.map (·.1)).zip vs, p.2.cells.toList.all (scS n) = true := fun p hp => List.all_eq_true.1 hvs p.2 (mem_zip_snd hp)
  have h1 := fill_conc (σ := σ) _ _ _ _ hf hmem
  have h2 := fill_sc _ _ _ _ hf hmem (all_scS_mono (Nat.zero_le n) _ hz0)
  rw [amap_cS_const _ hz0] at h1
  refine ⟨?_, h2⟩
  have hzr : (zeroValue t).run P w = .ok z w := by
    cases hi : P.info? t with
    | none => simp [hi] at hz
    | some i => simp [hi] at hz; simp [zeroValue, typeInfo, hi, hz]
  simp only [Instr.build, Sem.run_bind, hzr, Result.andThen_ok, run_underlying hu, places_run hp w, parts_eq hv, h1, Sem.run_pure]
  rfl

theorem abuild_array {t : TypeId} {parts : Array (Nat × Operand)} {z : Value} {len e s : Nat} {vs : List Value} {cs : Array Value}
    (hz : (P.info? t).bind (·.zero) = some z) (hu : P.underlying t = some (.array len e)) (hv : (parts.toList.map (·.2)).map a.eval = vs.map (cV σ)) (hs : sizeB P e = some s)
    (hf : Instr.fill (fun i => some (i * s, s)) z.cells ((parts.toList.map (·.1)).zip vs) = some cs) (hz0 : z.cells.toList.all (scS 0) = true) (hvs : vs.all (fun v => v.cells.toList.all (scS n)) = true) (w : World) :
    (Instr.build t (parts.map fun (i, x) => (i, a.eval x))).run P w = .ok (cV σ (.agg cs)) w ∧ scV n (.agg cs) = true := by
  have hmem : ∀ p ∈ (parts.toList.map (·.1)).zip vs, p.2.cells.toList.all (scS n) = true := fun p hp => List.all_eq_true.1 hvs p.2 (mem_zip_snd hp)
  have h1 := fill_conc (σ := σ) _ _ _ _ hf hmem
  have h2 := fill_sc _ _ _ _ hf hmem (all_scS_mono (Nat.zero_le n) _ hz0)
  rw [amap_cS_const _ hz0] at h1
  refine ⟨?_, h2⟩
  have hzr : (zeroValue t).run P w = .ok z w := by
    cases hi : P.info? t with
    | none => simp [hi] at hz
    | some i => simp [hi] at hz; simp [zeroValue, typeInfo, hi, hz]
  simp only [Instr.build, Sem.run_bind, hzr, Result.andThen_ok, run_underlying hu, sizeB_run hs w, parts_eq hv, h1, Sem.run_pure]
  rfl

theorem abuildSlice_run (h : Rel P W0 S σ H w) {t e : TypeId} {len : Nat} {parts : Array (Nat × Operand)} {ie : TypeInfo} {z : Value} {vs : List Value} {cs : Array Value}
    (hu : P.underlying t = some (.slice e)) (hi : P.info? e = some ie) (hz : ie.zero = some z) (hv : (parts.toList.map (·.2)).map a.eval = vs.map (cV σ)) (hlen : ¬ (len * ie.size > 16777216 ∨ len * ie.size = 0))
    (hf : Instr.fill (fun i => some (i * ie.size, ie.size)) ((Array.range (len * ie.size)).map (z.cells[· % z.cells.size]!)) ((parts.toList.map (·.1)).zip vs) = some cs) (hz0 : z.cells.toList.all (scS 0) = true)
    (hvs : vs.all (fun v => v.cells.toList.all (scS H.length)) = true) :
    Yield P W0 S σ H ((do Pure.pure (.value (← Instr.buildSlice t len (parts.map fun (i, x) => (i, a.eval x)))) : Sem Next).run P w) (.slice (some ⟨H.length, 0, none⟩) len len) (H ++ [⟨cs.toList, e, true, true⟩]) := by
  have hmem : ∀ p ∈ (parts.toList.map (·.1)).zip vs, p.2.cells.toList.all (scS H.length) = true := fun p hp => List.all_eq_true.1 hvs p.2 (mem_zip_snd hp)
  have hz1 : ((Array.range (len * ie.size)).map (z.cells[· % z.cells.size]!)).toList.all (scS 0) = true := by
    refine List.all_eq_true.2 fun u hu => ?_
    rw [Array.toList_map] at hu
    obtain ⟨k, _, rfl⟩ := List.mem_map.1 hu
    by_cases hk : k % z.cells.size < z.cells.size
    · rw [getElem!_pos z.cells _ hk]
      exact List.all_eq_true.1 hz0 _ (by simp)
    · rw [getElem!_neg z.cells _ hk]; rfl
  have h1 := fill_conc (σ := σ) _ _ _ _ hf hmem
  have h2 := fill_sc _ _ _ _ hf hmem (all_scS_mono (Nat.zero_le _) _ hz1)
  have h3 := fill_size _ _ _ _ hf
  rw [amap_cS_const _ hz1] at h1
  have hcl : cs.toList.length ≤ maxLen := by simp [h3]; unfold maxLen; omega
  have hR := h.alloc cs.toList e h2 hcl
  refine ⟨_, _, up_ext _ _ _, (Keep.refl _).push _ rfl, hR, by simp [scV, scT, scS], .inl ?_⟩
  have hs : (sizeOf e).run P w = .ok ie.size w := by simp [sizeOf, typeInfo, hi]
  have hzr : (zeroValue e).run P w = .ok z w := by simp [zeroValue, typeInfo, hi, hz]
  have hl1 : ¬ (len * ie.size > 2 ^ 24) := by simp; omega
  have hl2 : ¬ (len * ie.size = 0) := by omega
  simp only [Instr.buildSlice, Sem.run_bind, run_underlying hu, hs, Result.andThen_ok, if_neg hl1, if_neg hl2, hzr, Sem.run_pure, parts_eq hv, h1, newRow]
  have e2 : (⟨List.map (cS σ) cs.toList⟩ : Array Value) = cs.map (cS σ) := by
    apply Array.toList_inj.1
    rw [Array.toList_map]
  rw [e2]
  simp only [cV, cT, cS, cA, up_at]
  rfl

/-- What the machine does at an operation that the executor runs. -/
def OutOK (P : Program) (W0 : World) (S : Nat → Prop) (σ : Nat → Loc) (H : AH) (w : World) (r : Result Next) : AOut → Prop
  | .val v H' => Yield P W0 S σ H r v H'
  | .enter f args H' => H' = H ∧ (∀ v ∈ args, scV H.length v = true) ∧ r = .ok (.enter f (args.map (cV σ)).toArray) w
  | .pan v H' => H' = H ∧ scV H.length v = true ∧ (∀ σ', cV σ' v = v) ∧ r = .halt (.panic v) w

theorem oval_some {v : Option Value} {out : AOut} (h : oval H v = some out) : ∃ u, v = some u ∧ out = .val u H := by
  cases v with
  | none => simp [oval] at h
  | some u => simp only [oval, Option.some.injEq] at h; exact ⟨u, rfl, h.symm⟩

theorem aop_light (h : Rel P W0 S σ H w) (hA : AR N D σ tm H.length a) (o : Oper) {op : Op} (hop : o.op = op) (hl : light op = true) {out : AOut} (ha : aop P tm H op = some out) :
    ∃ v, out = .val v H ∧ (execOp a.eval o).run P w = .ok (.value (cV σ v)) w ∧ scV H.length v = true := by
  have stay : ∀ v : Value, scV H.length v = true → (execOp a.eval o).run P w = .ok (.value (cV σ v)) w → ∃ v', AOut.val v H = .val v' H ∧ (execOp a.eval o).run P w = .ok (.value (cV σ v')) w ∧ scV H.length v' = true :=
    fun v hv hr => ⟨v, rfl, hr, hv⟩
  unfold aop at ha
  split at ha
  · -- move
    obtain ⟨u, hu, rfl⟩ := oval_some ha
    obtain ⟨h1, h2⟩ := ev_run hA hu
    exact stay u h2 (by simp only [execOp, hop, h1]; rfl)
  · -- assign
    obtain ⟨u, hu, rfl⟩ := oval_some ha
    obtain ⟨h1, h2⟩ := ev_run hA hu
    exact stay u h2 (by simp only [execOp, hop, h1]; rfl)
  · -- pick
    split at ha
    · rename_i c x y hc hx hy
      injection ha with ha; subst ha
      obtain ⟨c1, _⟩ := ev_run hA hc
      obtain ⟨x1, x2⟩ := ev_run hA hx
      obtain ⟨y1, y2⟩ := ev_run hA hy
      rw [merge_eq]
      refine stay _ (by split <;> assumption) ?_
      simp only [execOp, hop, c1, x1, y1, cV, cT, cS, asBool]
      cases c <;> simp
    · cases ha
  · cases hl
  · cases hl
  · -- build
    split at ha
    · rename_i z fields vs hz hu hvs
      obtain ⟨h1, h2⟩ := evs_run hA hvs
      split at ha
      · rename_i pl hpl
        split at ha
        · rename_i cs hcs
          cases hc : (z.cells.toList.all (scS 0) && vs.all (fun v => v.cells.toList.all (scS H.length))) with
          | false => rw [hc, cond_false] at ha; cases ha
          | true =>
            rw [hc, cond_true] at ha
            injection ha with ha; subst ha
            simp only [Bool.and_eq_true] at hc
            obtain ⟨h3, h4⟩ := abuild_struct (n := H.length) hz hu h1 hpl hcs hc.1 hc.2 w
            exact stay _ h4 (by simp only [execOp, hop]; rw [Sem.run_bind, h3]; rfl)
        · cases ha
      · cases ha
    · rename_i z len e vs hz hu hvs
      obtain ⟨h1, h2⟩ := evs_run hA hvs
      split at ha
      · rename_i s hs
        split at ha
        · rename_i cs hcs
          cases hc : (z.cells.toList.all (scS 0) && vs.all (fun v => v.cells.toList.all (scS H.length))) with
          | false => rw [hc, cond_false] at ha; cases ha
          | true =>
            rw [hc, cond_true] at ha
            injection ha with ha; subst ha
            simp only [Bool.and_eq_true] at hc
            obtain ⟨h3, h4⟩ := abuild_array (n := H.length) hz hu h1 hs hcs hc.1 hc.2 w
            exact stay _ h4 (by simp only [execOp, hop]; rw [Sem.run_bind, h3]; rfl)
        · cases ha
      · cases ha
    · cases ha
  · cases hl
  · -- load
    split at ha
    · rename_i q hq
      obtain ⟨u, hu, rfl⟩ := oval_some ha
      obtain ⟨h1, h2⟩ := ev_run hA hq
      obtain ⟨h3, h4⟩ := aload_run h hu
      exact stay u h4 (by simp only [execOp, hop, h1, Sem.run_bind, h3]; rfl)
    · cases ha
  · cases hl
  · -- nilCheck
    split at ha
    · rename_i b hb
      injection ha with ha; subst ha
      obtain ⟨h1, h2⟩ := ev_run hA hb
      exact stay _ h2 (by simp only [execOp, hop, h1, cV, cT, cS]; rfl)
    · cases ha
  · -- binOp
    split at ha
    · rename_i x y hx hy
      obtain ⟨u, hu, rfl⟩ := oval_some ha
      obtain ⟨x1, x2⟩ := ev_run hA hx
      obtain ⟨y1, y2⟩ := ev_run hA hy
      obtain ⟨h3, h4⟩ := abinc_run (σ := σ) hu x2 y2 _ w
      refine stay u h4 ?_
      simp only [execOp, hop, x1, y1]
      rw [Sem.run_bind, h3]; rfl
    · cases ha
  · -- not
    split at ha
    · rename_i b hb
      injection ha with ha; subst ha
      obtain ⟨h1, h2⟩ := ev_run hA hb
      exact stay _ rfl (by simp only [execOp, hop, h1, cV, cT, cS]; rfl)
    · cases ha
  · -- neg
    split at ha
    · rename_i k m hb
      injection ha with ha; subst ha
      obtain ⟨h1, h2⟩ := ev_run hA hb
      exact stay _ rfl (by simp only [execOp, hop, h1, cV, cT, cS]; rfl)
    · cases ha
  · -- convert
    split at ha
    · rename_i x hx
      obtain ⟨u, hu, rfl⟩ := oval_some ha
      obtain ⟨x1, x2⟩ := ev_run hA hx
      obtain ⟨h3, h4⟩ := aconv_run h hu
      exact stay u h4 (by simp only [execOp, hop, x1, Sem.run_bind, h3]; rfl)
    · cases ha
  · -- makeInterface
    split at ha
    · rename_i v hx
      split at ha
      · cases ha
      · rename_i d hni hu
        cases hc : scT 0 v with
        | false => rw [hc, cond_false] at ha; cases ha
        | true =>
          rw [hc, cond_true] at ha
          injection ha with ha; subst ha
          obtain ⟨h1, h2⟩ := ev_run hA hx
          have hv : cV σ v = v := cV_const v (by cases v <;> first | exact hc | (simp [scT, scS] at hc))
          refine stay _ rfl ?_
          simp only [execOp, hop, h1, hv, Instr.makeInterface, Sem.run_bind, run_underlying hu, Result.andThen_ok]
          cases d <;> first | rfl | exact absurd rfl (hni _)
      · cases ha
    · cases ha
  · -- slice
    split at ha
    · rename_i x lo hi mx hx hlo hhi hmx
      obtain ⟨u, hu, rfl⟩ := oval_some ha
      obtain ⟨x1, x2⟩ := ev_run hA hx
      obtain ⟨h3, h4⟩ := aslice_run (σ := σ) hu x2 w
      exact stay u h4 (by simp only [execOp, hop, x1, evo_run hA hlo, evo_run hA hhi, evo_run hA hmx, Sem.run_bind, h3]; rfl)
    · cases ha
  · -- fieldAddr
    split at ha
    · rename_i i off fields hx hu
      split at ha
      · rename_i fd hf
        split at ha
        · rename_i s hs
          split at ha
          · cases ha
          · rename_i hs0
            injection ha with ha; subst ha
            obtain ⟨x1, x2⟩ := ev_run hA hx
            have x3 : decide (i < H.length) = true := by simpa [scV, scT, scS] using x2
            refine stay _ (by simpa [scV, scT, scS, add_at] using x3) ?_
            simp only [execOp, hop, x1, cV, cT, cS, Instr.fieldAt, Sem.run_bind, run_underlying hu, Result.andThen_ok, hf, Instr.sureAddr, Sem.run_pure, fieldPlace, sizeB_run hs w, if_neg hs0, cA_add]
        · cases ha
      · cases ha
    · cases ha
  · -- field
    split at ha
    · rename_i x hx
      obtain ⟨u, hu, rfl⟩ := oval_some ha
      obtain ⟨x1, x2⟩ := ev_run hA hx
      obtain ⟨h3, h4⟩ := afield_run (σ := σ) hu x2 w
      exact stay u h4 (by simp only [execOp, hop, x1, Sem.run_bind, h3]; rfl)
    · cases ha
  · -- indexAddr
    split at ha
    · rename_i x ix hx hix
      obtain ⟨u, hu, rfl⟩ := oval_some ha
      obtain ⟨x1, x2⟩ := ev_run hA hx
      obtain ⟨y1, y2⟩ := ev_run hA hix
      obtain ⟨h3, h4⟩ := aindexAddr_run (σ := σ) hu x2 w
      exact stay u h4 (by simp only [execOp, hop, x1, y1, Sem.run_bind, h3]; rfl)
    · cases ha
  · -- index
    split at ha
    · rename_i x ix hx hix
      obtain ⟨u, hu, rfl⟩ := oval_some ha
      obtain ⟨x1, x2⟩ := ev_run hA hx
      obtain ⟨y1, y2⟩ := ev_run hA hix
      obtain ⟨h3, h4⟩ := aindex_run (σ := σ) hu x2 w
      exact stay u h4 (by simp only [execOp, hop, x1, y1, Sem.run_bind, h3]; rfl)
    · cases ha
  · -- extract
    split at ha
    · rename_i vs hx
      obtain ⟨u, hu, rfl⟩ := oval_some ha
      obtain ⟨x1, x2⟩ := ev_run hA hx
      have hus : scT H.length u = true := List.all_eq_true.1 x2 u (by have := Array.mem_of_getElem? hu; simpa using this)
      have hcu : cV σ u = cT σ u := by cases u <;> first | rfl | (simp [scT, scS] at hus)
      refine stay u (by cases u <;> first | exact hus | (simp [scT, scS] at hus)) ?_
      simp only [execOp, hop, x1, cV, Instr.extract, Array.getElem?_map, hu, Option.map_some, Sem.run_bind, Sem.run_pure, Result.andThen_ok]
      rw [← hcu]; rfl
    · cases ha
  · cases hl
  · -- len
    split at ha
    · rename_i v t hv ht
      obtain ⟨u, hu, rfl⟩ := oval_some ha
      obtain ⟨h1, h2⟩ := evs_run hA hv
      obtain ⟨h3, h4⟩ := alen_run (σ := σ) (n := H.length) hu w o.type
      refine stay u h4 ?_
      have hargs : ∀ args : Array Operand, args.toList.map a.eval = [v].map (cV σ) → args.map a.eval = #[cV σ v] := fun args he => by
        apply Array.toList_inj.1
        rw [Array.toList_map, he]; rfl
      have hty : ∀ ts : Array TypeId, ts.toList = [t] → ts = #[t] := fun ts he => by apply Array.toList_inj.1; rw [he]
      simp only [execOp, hop, resolve, hargs _ h1, hty _ ht, Sem.run_bind, Sem.run_pure, Result.andThen_ok, invoke, builtin, h3]
    · cases ha
  · cases hl
  · cases hl
  · cases hl
  · cases ha

theorem aop_run (hnum : ∀ (f : FuncId) (fn : Func), P.funcs[f]? = some fn → (fn.name == "runtime.NumGoroutine") = false) (h : Rel P W0 S σ H w) (hA : AR N D σ tm H.length a) (o : Oper) {op : Op} (hop : o.op = op) {out : AOut} (ha : aop P tm H op = some out) :
    OutOK P W0 S σ H w ((execOp a.eval o).run P w) out := by
  have stay : ∀ v : Value, scV H.length v = true → (execOp a.eval o).run P w = .ok (.value (cV σ v)) w → OutOK P W0 S σ H w ((execOp a.eval o).run P w) (.val v H) :=
    fun v hv hr => ⟨σ, w, Ext.refl _ _, Keep.refl _, h, hv, .inl hr⟩
  unfold aop at ha
  split at ha
  · -- move
    obtain ⟨u, hu, rfl⟩ := oval_some ha
    obtain ⟨h1, h2⟩ := ev_run hA hu
    exact stay u h2 (by simp only [execOp, hop, h1]; rfl)
  · -- assign
    obtain ⟨u, hu, rfl⟩ := oval_some ha
    obtain ⟨h1, h2⟩ := ev_run hA hu
    exact stay u h2 (by simp only [execOp, hop, h1]; rfl)
  · -- pick
    split at ha
    · rename_i c x y hc hx hy
      injection ha with ha; subst ha
      obtain ⟨c1, _⟩ := ev_run hA hc
      obtain ⟨x1, x2⟩ := ev_run hA hx
      obtain ⟨y1, y2⟩ := ev_run hA hy
      rw [merge_eq]
      refine stay _ (by split <;> assumption) ?_
      simp only [execOp, hop, c1, x1, y1, cV, cT, cS, asBool]
      cases c <;> simp
    · cases ha
  · -- alloc
    rename_i T
    split at ha
    · rename_i z hz
      cases hc : (z.cells.toList.all (scS 0) && decide (z.cells.size ≤ 1000000)) with
      | false => rw [hc, cond_false] at ha; cases ha
      | true =>
        rw [hc, cond_true] at ha
        injection ha with ha; subst ha
        simp only [Bool.and_eq_true, decide_eq_true_eq] at hc
        have hR := h.alloc z.cells.toList T (all_scS_mono (Nat.zero_le _) _ hc.1) (by rw [Array.length_toList]; unfold maxLen; omega)
        rw [map_cS_const _ hc.1] at hR
        refine ⟨_, _, up_ext _ _ _, (Keep.refl _).push _ rfl, hR, by simp [scV, scT, scS], .inl ?_⟩
        have hzr : (zeroValue T).run P w = .ok z w := by
          cases hi : P.info? T with
          | none => simp [hi] at hz
          | some i => simp [hi] at hz; simp [zeroValue, typeInfo, hi, hz]
        simp only [execOp, hop, Instr.alloc, Sem.run_bind, hzr, Result.andThen_ok, newVar_run, Sem.run_pure, cV, cT, cS, cA, up_at]
    · cases ha
  · -- box
    rename_i T _
    split at ha
    · rename_i v hv
      cases hc : (v.cells.toList.all (scS H.length) && decide (v.cells.size ≤ 1000000)) with
      | false => rw [hc, cond_false] at ha; cases ha
      | true =>
        rw [hc, cond_true] at ha
        injection ha with ha; subst ha
        simp only [Bool.and_eq_true, decide_eq_true_eq] at hc
        obtain ⟨h1, h2⟩ := ev_run hA hv
        have hR := h.alloc v.cells.toList T hc.1 (by rw [Array.length_toList]; unfold maxLen; omega)
        rw [← cV_cells σ v _ hc.1] at hR
        refine ⟨_, _, up_ext _ _ _, (Keep.refl _).push _ rfl, hR, by simp [scV, scT, scS], .inl ?_⟩
        simp only [execOp, hop, h1, Instr.box, Sem.run_bind, Result.andThen_ok, newVar_run, Sem.run_pure, cV, cT, cS, cA, up_at]
    · cases ha
  · -- build
    split at ha
    · rename_i z fields vs hz hu hvs
      obtain ⟨h1, h2⟩ := evs_run hA hvs
      split at ha
      · rename_i pl hpl
        split at ha
        · rename_i cs hcs
          cases hc : (z.cells.toList.all (scS 0) && vs.all (fun v => v.cells.toList.all (scS H.length))) with
          | false => rw [hc, cond_false] at ha; cases ha
          | true =>
            rw [hc, cond_true] at ha
            injection ha with ha; subst ha
            simp only [Bool.and_eq_true] at hc
            obtain ⟨h3, h4⟩ := abuild_struct (n := H.length) hz hu h1 hpl hcs hc.1 hc.2 w
            exact stay _ h4 (by simp only [execOp, hop]; rw [Sem.run_bind, h3]; rfl)
        · cases ha
      · cases ha
    · rename_i z len e vs hz hu hvs
      obtain ⟨h1, h2⟩ := evs_run hA hvs
      split at ha
      · rename_i s hs
        split at ha
        · rename_i cs hcs
          cases hc : (z.cells.toList.all (scS 0) && vs.all (fun v => v.cells.toList.all (scS H.length))) with
          | false => rw [hc, cond_false] at ha; cases ha
          | true =>
            rw [hc, cond_true] at ha
            injection ha with ha; subst ha
            simp only [Bool.and_eq_true] at hc
            obtain ⟨h3, h4⟩ := abuild_array (n := H.length) hz hu h1 hs hcs hc.1 hc.2 w
            exact stay _ h4 (by simp only [execOp, hop]; rw [Sem.run_bind, h3]; rfl)
        · cases ha
      · cases ha
    · cases ha
  · -- buildSlice
    split at ha
    · rename_i e vs hu hvs
      obtain ⟨h1, h2⟩ := evs_run hA hvs
      split at ha
      · rename_i ie hi
        split at ha
        · cases ha
        · rename_i hlen
          split at ha
          · rename_i z hz
            split at ha
            · rename_i cs hcs
              cases hc : (z.cells.toList.all (scS 0) && vs.all (fun v => v.cells.toList.all (scS H.length))) with
              | false => rw [hc, cond_false] at ha; cases ha
              | true =>
                rw [hc, cond_true] at ha
                injection ha with ha; subst ha
                simp only [Bool.and_eq_true] at hc
                have := abuildSlice_run h hu hi hz h1 hlen hcs hc.1 hc.2
                simp only [execOp, hop]
                exact this
            · cases ha
          · cases ha
      · cases ha
    · cases ha
  · -- load
    split at ha
    · rename_i q hq
      obtain ⟨u, hu, rfl⟩ := oval_some ha
      obtain ⟨h1, h2⟩ := ev_run hA hq
      obtain ⟨h3, h4⟩ := aload_run h hu
      exact stay u h4 (by simp only [execOp, hop, h1, Sem.run_bind, h3]; rfl)
    · cases ha
  · -- store
    split at ha
    · rename_i q v hq hv
      split at ha
      · rename_i H' hst
        injection ha with ha; subst ha
        obtain ⟨h1, h2⟩ := ev_run hA hq
        obtain ⟨h3, h4⟩ := ev_run hA hv
        obtain ⟨w', hr, hR, hlen, hkp⟩ := astore_run h hst
        exact ⟨σ, w', Ext.refl _ _, hkp, hR, rfl, .inr ⟨by simp only [execOp, hop, h1, h3, Sem.run_bind, hr]; rfl, rfl⟩⟩
      · cases ha
    · cases ha
  · -- nilCheck
    split at ha
    · rename_i b hb
      injection ha with ha; subst ha
      obtain ⟨h1, h2⟩ := ev_run hA hb
      exact stay _ h2 (by simp only [execOp, hop, h1, cV, cT, cS]; rfl)
    · cases ha
  · -- binOp
    split at ha
    · rename_i x y hx hy
      obtain ⟨u, hu, rfl⟩ := oval_some ha
      obtain ⟨x1, x2⟩ := ev_run hA hx
      obtain ⟨y1, y2⟩ := ev_run hA hy
      obtain ⟨h3, h4⟩ := abinc_run (σ := σ) hu x2 y2 _ w
      refine stay u h4 ?_
      simp only [execOp, hop, x1, y1]
      rw [Sem.run_bind, h3]; rfl
    · cases ha
  · -- not
    split at ha
    · rename_i b hb
      injection ha with ha; subst ha
      obtain ⟨h1, h2⟩ := ev_run hA hb
      exact stay _ rfl (by simp only [execOp, hop, h1, cV, cT, cS]; rfl)
    · cases ha
  · -- neg
    split at ha
    · rename_i k m hb
      injection ha with ha; subst ha
      obtain ⟨h1, h2⟩ := ev_run hA hb
      exact stay _ rfl (by simp only [execOp, hop, h1, cV, cT, cS]; rfl)
    · cases ha
  · -- convert
    split at ha
    · rename_i x hx
      obtain ⟨u, hu, rfl⟩ := oval_some ha
      obtain ⟨x1, x2⟩ := ev_run hA hx
      obtain ⟨h3, h4⟩ := aconv_run h hu
      exact stay u h4 (by simp only [execOp, hop, x1, Sem.run_bind, h3]; rfl)
    · cases ha
  · -- makeInterface
    split at ha
    · rename_i v hx
      split at ha
      · cases ha
      · rename_i d hni hu
        cases hc : scT 0 v with
        | false => rw [hc, cond_false] at ha; cases ha
        | true =>
          rw [hc, cond_true] at ha
          injection ha with ha; subst ha
          obtain ⟨h1, h2⟩ := ev_run hA hx
          have hv : cV σ v = v := cV_const v (by cases v <;> first | exact hc | (simp [scT, scS] at hc))
          refine stay _ rfl ?_
          simp only [execOp, hop, h1, hv, Instr.makeInterface, Sem.run_bind, run_underlying hu, Result.andThen_ok]
          cases d <;> first | rfl | exact absurd rfl (hni _)
      · cases ha
    · cases ha
  · -- slice
    split at ha
    · rename_i x lo hi mx hx hlo hhi hmx
      obtain ⟨u, hu, rfl⟩ := oval_some ha
      obtain ⟨x1, x2⟩ := ev_run hA hx
      obtain ⟨h3, h4⟩ := aslice_run (σ := σ) hu x2 w
      exact stay u h4 (by simp only [execOp, hop, x1, evo_run hA hlo, evo_run hA hhi, evo_run hA hmx, Sem.run_bind, h3]; rfl)
    · cases ha
  · -- fieldAddr
    split at ha
    · rename_i i off fields hx hu
      split at ha
      · rename_i fd hf
        split at ha
        · rename_i s hs
          split at ha
          · cases ha
          · rename_i hs0
            injection ha with ha; subst ha
            obtain ⟨x1, x2⟩ := ev_run hA hx
            have x3 : decide (i < H.length) = true := by simpa [scV, scT, scS] using x2
            refine stay _ (by simpa [scV, scT, scS, add_at] using x3) ?_
            simp only [execOp, hop, x1, cV, cT, cS, Instr.fieldAt, Sem.run_bind, run_underlying hu, Result.andThen_ok, hf, Instr.sureAddr, Sem.run_pure, fieldPlace, sizeB_run hs w, if_neg hs0, cA_add]
        · cases ha
      · cases ha
    · cases ha
  · -- field
    split at ha
    · rename_i x hx
      obtain ⟨u, hu, rfl⟩ := oval_some ha
      obtain ⟨x1, x2⟩ := ev_run hA hx
      obtain ⟨h3, h4⟩ := afield_run (σ := σ) hu x2 w
      exact stay u h4 (by simp only [execOp, hop, x1, Sem.run_bind, h3]; rfl)
    · cases ha
  · -- indexAddr
    split at ha
    · rename_i x ix hx hix
      obtain ⟨u, hu, rfl⟩ := oval_some ha
      obtain ⟨x1, x2⟩ := ev_run hA hx
      obtain ⟨y1, y2⟩ := ev_run hA hix
      obtain ⟨h3, h4⟩ := aindexAddr_run (σ := σ) hu x2 w
      exact stay u h4 (by simp only [execOp, hop, x1, y1, Sem.run_bind, h3]; rfl)
    · cases ha
  · -- index
    split at ha
    · rename_i x ix hx hix
      obtain ⟨u, hu, rfl⟩ := oval_some ha
      obtain ⟨x1, x2⟩ := ev_run hA hx
      obtain ⟨y1, y2⟩ := ev_run hA hix
      obtain ⟨h3, h4⟩ := aindex_run (σ := σ) hu x2 w
      exact stay u h4 (by simp only [execOp, hop, x1, y1, Sem.run_bind, h3]; rfl)
    · cases ha
  · -- extract
    split at ha
    · rename_i vs hx
      obtain ⟨u, hu, rfl⟩ := oval_some ha
      obtain ⟨x1, x2⟩ := ev_run hA hx
      have hus : scT H.length u = true := List.all_eq_true.1 x2 u (by have := Array.mem_of_getElem? hu; simpa using this)
      have hcu : cV σ u = cT σ u := by cases u <;> first | rfl | (simp [scT, scS] at hus)
      refine stay u (by cases u <;> first | exact hus | (simp [scT, scS] at hus)) ?_
      simp only [execOp, hop, x1, cV, Instr.extract, Array.getElem?_map, hu, Option.map_some, Sem.run_bind, Sem.run_pure, Result.andThen_ok]
      rw [← hcu]; rfl
    · cases ha
  · -- call
    split at ha
    · rename_i vs hvs
      split at ha
      · rename_i fn hfn
        cases hb : fn.body.isSome with
        | false => rw [hb, cond_false] at ha; cases ha
        | true =>
          rw [hb, cond_true] at ha
          injection ha with ha; subst ha
          obtain ⟨h1, h2⟩ := evs_run hA hvs
          refine ⟨rfl, h2, ?_⟩
          have hargs : ∀ args : Array Operand, args.toList.map a.eval = vs.map (cV σ) → args.map a.eval = (vs.map (cV σ)).toArray := fun args he => by
            apply Array.toList_inj.1
            rw [Array.toList_map, he]
          have hbn : fn.body.isNone = false := by cases hq : fn.body <;> simp_all
          simp only [execOp, hop, resolve, hargs _ h1, Act.eval, Deferred.ofValue, Sem.run_bind, Sem.run_pure, Result.andThen_ok, invoke, callFunc, run_program, hfn, hnum _ _ hfn, hbn]
          simp
      · cases ha
    · cases ha
  · -- len
    split at ha
    · rename_i v t hv ht
      obtain ⟨u, hu, rfl⟩ := oval_some ha
      obtain ⟨h1, h2⟩ := evs_run hA hv
      obtain ⟨h3, h4⟩ := alen_run (σ := σ) (n := H.length) hu w o.type
      refine stay u h4 ?_
      have hargs : ∀ args : Array Operand, args.toList.map a.eval = [v].map (cV σ) → args.map a.eval = #[cV σ v] := fun args he => by
        apply Array.toList_inj.1
        rw [Array.toList_map, he]; rfl
      have hty : ∀ ts : Array TypeId, ts.toList = [t] → ts = #[t] := fun ts he => by apply Array.toList_inj.1; rw [he]
      simp only [execOp, hop, resolve, hargs _ h1, hty _ ht, Sem.run_bind, Sem.run_pure, Result.andThen_ok, invoke, builtin, h3]
    · cases ha
  · -- append
    split at ha
    · rename_i s x t t' hv ht
      split at ha
      · rename_i u H' happ
        injection ha with ha; subst ha
        obtain ⟨h1, h2⟩ := evs_run hA hv
        obtain ⟨σ', w', e1, e2, e3, e4, e5⟩ := aappends_run h happ (h2 s (by simp)) o.type
        refine ⟨σ', w', e1, e2, e3, e4, .inl ?_⟩
        have hargs : ∀ args : Array Operand, args.toList.map a.eval = [s, .string x].map (cV σ) → args.map a.eval = #[cV σ s, .string x] := fun args he => by
          apply Array.toList_inj.1
          rw [Array.toList_map, he]; rfl
        have hty : ∀ ts : Array TypeId, ts.toList = [t, t'] → ts = #[t, t'] := fun ts he => by apply Array.toList_inj.1; rw [he]
        simp only [execOp, hop, resolve, hargs _ h1, hty _ ht, Sem.run_bind, Sem.run_pure, Result.andThen_ok, invoke, builtin, e5]
      · cases ha
    · rename_i s x t t' _ hv ht
      split at ha
      · rename_i htt
        subst htt
        split at ha
        · rename_i u H' happ
          injection ha with ha; subst ha
          obtain ⟨h1, h2⟩ := evs_run hA hv
          obtain ⟨σ', w', e1, e2, e3, e4, e5⟩ := aappend_run h happ (h2 s (by simp)) (h2 x (by simp)) o.type
          refine ⟨σ', w', e1, e2, e3, e4, .inl ?_⟩
          have hargs : ∀ args : Array Operand, args.toList.map a.eval = [s, x].map (cV σ) → args.map a.eval = #[cV σ s, cV σ x] := fun args he => by
            apply Array.toList_inj.1
            rw [Array.toList_map, he]; rfl
          have hty : ∀ ts : Array TypeId, ts.toList = [t, t] → ts = #[t, t] := fun ts he => by apply Array.toList_inj.1; rw [he]
          simp only [execOp, hop, resolve, hargs _ h1, hty _ ht, Sem.run_bind, Sem.run_pure, Result.andThen_ok, invoke, builtin, e5]
        · cases ha
      · cases ha
    · cases ha
  · -- typeAssert
    split at ha
    · rename_i v hx
      obtain ⟨u, hu, rfl⟩ := oval_some ha
      obtain ⟨h1, h2⟩ := ev_run hA hx
      rename_i e X T ok q
      obtain ⟨h3, h4⟩ := aassert_run (σ := σ) (n := H.length) (X := X) hu w
      exact stay u h4 (by simp only [execOp, hop, h1, Sem.run_bind, h3]; rfl)
    · cases ha
  · -- panic
    split at ha
    · rename_i T u hx
      injection ha with ha; subst ha
      obtain ⟨x1, x2⟩ := ev_run hA hx
      refine ⟨rfl, rfl, fun _ => rfl, ?_⟩
      simp only [execOp, hop, x1, cV, cT, cS, Sem.run_bind, run_panic_iface]
      rfl
    · cases ha
  · cases ha
end
end Go.RX
