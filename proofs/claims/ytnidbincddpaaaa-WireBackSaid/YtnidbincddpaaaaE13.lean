/- Pieces of code whose outcome is told by hand: loops whose rounds are not counted; blocks and temporaries that are forgotten or told anew. -/
import Derived.Test.YtnidbincddpaaaaE12
namespace Go.RX
open Go Go.RowKit

/-- The first m blocks keep their numbers; blocks that may not be written lie among them, and stay. -/
structure KeepM (m : Nat) (H H' : AH) : Prop where
  len : m ≤ H'.size
  ro : ∀ (i : Nat) (b : Blk), i < m → H.get i = some b → b.wr = false → H'.get i = some b
  back : ∀ (i : Nat) (b : Blk), H'.get i = some b → b.wr = false → i < m ∧ H.get i = some b
theorem KeepM.trans {m : Nat} {a b c : AH} (h : KeepM m a b) (k : KeepM m b c) : KeepM m a c :=
  ⟨k.len, fun i x hi hx hw => k.ro i x hi (h.ro i x hi hx hw) hw, fun i x hx hw => h.back i x (k.back i x hx hw).2 hw⟩
theorem KeepM.keep {H H' : AH} (h : KeepM H.size H H') : Keep H H' :=
  ⟨h.len, fun i b hb hw => h.ro i b (AH.get_lt hb) hb hw, fun i b hb hw => (h.back i b hb hw).2⟩
/-- A state for m: its blocks that may not be written lie among the first m. -/
structure Low (m : Nat) (H : AH) : Prop where
  len : m ≤ H.size
  ro : ∀ (i : Nat) (b : Blk), H.get i = some b → b.wr = false → i < m
theorem Low.all (H : AH) : Low H.size H := ⟨Nat.le_refl _, fun _ _ hb _ => AH.get_lt hb⟩
theorem Low.refl {m : Nat} {H : AH} (h : Low m H) : KeepM m H H := ⟨h.len, fun _ _ _ hb _ => hb, fun i b hb hw => ⟨h.ro i b hb hw, hb⟩⟩
theorem Keep.low {m : Nat} {H H' : AH} (h : Keep H H') (hl : Low m H) : KeepM m H H' :=
  ⟨Nat.le_trans hl.len h.len, fun i b _ hb hw => h.ro i b hb hw, fun i b hb hw => ⟨hl.ro i b (h.back i b hb hw) hw, h.back i b hb hw⟩⟩
theorem KeepM.low {m : Nat} {H H' : AH} (h : KeepM m H H') : Low m H' := ⟨h.len, fun i b hb hw => (h.back i b hb hw).1⟩

/-- A state told anew: what it is seen as. The first m blocks keep their numbers. -/
def Fits (P : Program) (m : Nat) (tm : Tm) (H : AH) (tm' : Tm) (H' : AH) : Prop :=
  ∀ (W0 : World) (S : Nat → Prop) (σ : Nat → Loc) (w : World), Rel P W0 S σ H w → TmSc tm H.size → ∃ σ', Ext m σ σ' ∧ Rel P W0 S σ' H' w ∧
    ∀ t v', tm'.get t = some v' → scV H'.size v' = true ∧ ∃ v, tm.get t = some v ∧ cV σ v = cV σ' v'

theorem Fits.refl (P : Program) (m : Nat) (tm : Tm) (H : AH) : Fits P m tm H tm H := fun _ _ σ _ h hs => ⟨σ, Ext.refl _ _, h, fun t v hv => ⟨hs t v hv, v, hv, rfl⟩⟩
theorem Fits.trans {P : Program} {m : Nat} {tm tm1 tm2 : Tm} {H H1 H2 : AH} (h : Fits P m tm H tm1 H1) (k : Fits P m tm1 H1 tm2 H2) : Fits P m tm H tm2 H2 := by
  intro W0 S σ w hR hs
  obtain ⟨σ1, e1, r1, t1⟩ := h W0 S σ w hR hs
  obtain ⟨σ2, e2, r2, t2⟩ := k W0 S σ1 w r1 (fun t v hv => (t1 t v hv).1)
  refine ⟨σ2, e1.trans e2 (Nat.le_refl _), r2, fun t v hv => ?_⟩
  obtain ⟨s, v1, g1, q1⟩ := t2 t v hv
  obtain ⟨_, v0, g0, q0⟩ := t1 t v1 g1
  exact ⟨s, v0, g0, q0.trans q1⟩
/-- Temporaries are forgotten. -/
theorem Fits.forget (P : Program) (m : Nat) {tm tm' : Tm} (H : AH) (h : ∀ t v, tm'.get t = some v → tm.get t = some v) : Fits P m tm H tm' H :=
  fun _ _ σ _ hR hs => ⟨σ, Ext.refl _ _, hR, fun t v hv => ⟨hs t v (h t v hv), v, h t v hv, rfl⟩⟩

/-- A way of leaving whose value names no block. -/
def xshut : XE → Prop
  | .pan v => scV 0 v = true
  | _ => True
theorem xshut_sc {e : XE} (h : xshut e) (n : Nat) : xsc n e := by
  cases e <;> first | trivial | exact scV_mono (Nat.zero_le _) _ h
theorem xshut_exit {e : XE} (h : xshut e) (σ σ' : Nat → Loc) : xexit σ e = xexit σ' e := by
  cases e <;> first | rfl | (simp only [xexit]; rw [cV_const _ h, cV_const _ h])

/-- What is told of the states behind a piece: it is seen as one of Q. -/
def Ends (P : Program) (m : Nat) (Q : XE → Tm → AH → Prop) (e : XE) (tm : Tm) (H : AH) : Prop :=
  ∃ tm' H', Q e tm' H' ∧ xshut e ∧ Fits P m tm H tm' H' ∧ KeepM m H H'

/-- A piece of code in a state: Q tells the states behind it. -/
def Seg (P : Program) (N : Nat) (K : List Tmp) (D : List Deferred) (m : Nat) (c : Code) (tm : Tm) (H : AH) (Q : XE → Tm → AH → Prop) : Prop :=
  ∀ (W0 : World) (S : Nat → Prop) (σ : Nat → Loc) (a : Act) (w : World), Rel P W0 S σ H w → AR N D σ tm H.size a → ∀ (Qm : Exit → Act → World → Prop), PanicOK K Qm →
    (∀ e tm' H', Q e tm' H' → xshut e → ∀ σ' a' w', Ext m σ σ' → KeepM m H H' → Rel P W0 S σ' H' w' → AR N D σ' tm' H'.size a' → Qm (xexit σ' e) a' w') → c.wp P Qm a w

section
variable {P : Program} {N : Nat} {K : List Tmp} {D : List Deferred} {m : Nat} {c : Code} {tm : Tm} {H : AH} {Q : XE → Tm → AH → Prop}
variable (hnum : ∀ (f : FuncId) (fn : Func), P.funcs[f]? = some fn → (fn.name == "runtime.NumGoroutine") = false) (hmix : P.follows .mixedOrders = true)

theorem AR.fits {σ σ' : Nat → Loc} {tm' : Tm} {H' : AH} {a : Act} (h : AR N D σ tm H.size a) (ht : ∀ t v', tm'.get t = some v' → scV H'.size v' = true ∧ ∃ v, tm.get t = some v ∧ cV σ v = cV σ' v') : AR N D σ' tm' H'.size a :=
  ⟨h.size, fun t v hv => by obtain ⟨_, u, hu, he⟩ := ht t v hv; rw [← he]; exact h.val t u hu, fun t v hv => (ht t v hv).1, h.df⟩

include hnum hmix in
/-- What the executor tells. -/
theorem seg_exec {callK : CallK} (hcall : CallOK P callK) {fuel : LH} [LHGood P fuel] (hl : Low m H)
    (h : ∀ (k : KX) (r : Out × AH), (∀ e tm' H', Ends P m Q e tm' H' → k e tm' H' = some r) → exec P N K fuel callK c tm H k = some r) : Seg P N K D m c tm H Q := by
  classical
  intro W0 S σ a w hR hA Qm hp hk
  have h1 := h (fun e tm' H' => if Ends P m Q e tm' H' then some (.ret undef, .nil) else none) (.ret undef, .nil) (fun e tm' H' he => if_pos he)
  refine exec_ok hnum hcall hmix fuel c h1 hR hA hp ?_
  intro e tm' H' he _ σ' a' w' ha
  by_cases hE : Ends P m Q e tm' H'
  · obtain ⟨tm2, H2, hQ, hx, hf, hkp⟩ := hE
    obtain ⟨σ2, e2, r2, t2⟩ := hf W0 S σ' w' ha.rel ha.act.tmsc
    rw [xshut_exit hx σ' σ2]
    exact hk e tm2 H2 hQ hx σ2 a' w' ((ha.ext.mono hl.len).trans e2 (Nat.le_refl _)) ((ha.keep.low hl).trans hkp) r2 (ha.act.fits t2)
  · simp only [if_neg hE] at he; cases he

theorem Seg.pre {tm0 : Tm} {H0 : AH} (hf : Fits P m tm H tm0 H0) (hkp : KeepM m H H0) (h : Seg P N K D m c tm0 H0 Q) : Seg P N K D m c tm H Q := by
  intro W0 S σ a w hR hA Qm hp hk
  obtain ⟨σ0, e0, r0, t0⟩ := hf W0 S σ w hR hA.tmsc
  exact h W0 S σ0 a w r0 (hA.fits t0) Qm hp (fun e tm' H' hQ hx σ' a' w' he hke hr ha => hk e tm' H' hQ hx σ' a' w' (e0.trans he (Nat.le_refl _)) (hkp.trans hke) hr ha)

theorem Seg.post {Q' : XE → Tm → AH → Prop} (h : Seg P N K D m c tm H Q) (hq : ∀ e tm' H', Q e tm' H' → xshut e → Low m H' → Ends P m Q' e tm' H') : Seg P N K D m c tm H Q' := by
  intro W0 S σ a w hR hA Qm hp hk
  refine h W0 S σ a w hR hA Qm hp (fun e tm' H' hQ hx σ' a' w' he hke hr ha => ?_)
  obtain ⟨tm2, H2, hQ2, hx2, hf, hkp⟩ := hq e tm' H' hQ hx hke.low
  obtain ⟨σ2, e2, r2, t2⟩ := hf W0 S σ' w' hr ha.tmsc
  rw [xshut_exit hx2 σ' σ2]
  exact hk e tm2 H2 hQ2 hx2 σ2 a' w' (he.trans e2 (Nat.le_refl _)) (hke.trans hkp) r2 (ha.fits t2)

theorem seg_seq {x y : Code} {Q1 : XE → Tm → AH → Prop} (hx : Seg P N K D m x tm H Q1) (hy : ∀ tm' H', Q1 .normal tm' H' → Low m H' → Seg P N K D m y tm' H' Q) (hq : ∀ e tm' H', Q1 e tm' H' → e ≠ .normal → Q e tm' H') : Seg P N K D m (.seq x y) tm H Q := by
  intro W0 S σ a w hR hA Qm hp hk
  refine wp_seq (hx W0 S σ a w hR hA _ (panicOK_then hp) ?_)
  intro e tm' H' hQ hxs σ' a' w' he hke hr ha
  cases e with
  | normal => exact hy tm' H' hQ hke.low W0 S σ' a' w' hr ha Qm hp (fun e2 tm2 H2 hQ2 hx2 σ2 a2 w2 he2 hke2 hr2 ha2 => hk e2 tm2 H2 hQ2 hx2 σ2 a2 w2 (he.trans he2 (Nat.le_refl _)) (hke.trans hke2) hr2 ha2)
  | exit id => exact hk _ _ _ (hq _ _ _ hQ (by simp)) hxs σ' a' w' he hke hr ha
  | ret => exact hk _ _ _ (hq _ _ _ hQ (by simp)) hxs σ' a' w' he hke hr ha
  | pan v => exact hk _ _ _ (hq _ _ _ hQ (by simp)) hxs σ' a' w' he hke hr ha

/-- A loop: I n tells the states at its head, n falls from round to round. -/
theorem seg_loop (I : Nat → Tm → AH → Prop) (hI : ∀ n tm H, I n tm H → Low m H → Seg P N K D m c tm H (fun e tm' H' => match e with | .normal => ∃ n', n' < n ∧ I n' tm' H' | e => Q e tm' H')) :
    ∀ (n : Nat) {tm : Tm} {H : AH}, I n tm H → Low m H → Seg P N K D m (.loop c) tm H Q := by
  intro n0 tm0 H0 h0 hl0 W0 S σ0 a0 w0 hR0 hA0 Qm hp hk
  have key : ∀ (j n : Nat) (tm : Tm) (H : AH), n < j → I n tm H → ∀ σ a w, Ext m σ0 σ → KeepM m H0 H → Rel P W0 S σ H w → AR N D σ tm H.size a → Code.rounds P c Qm j a w := by
    intro j
    induction j with
    | zero => intro n tm H hn; omega
    | succ j ih =>
      intro n tm H hn hI0 σ a w hext hkp hR hA
      rw [rounds_succ]
      refine hI n tm H hI0 hkp.low W0 S σ a w hR hA _ (panicOK_then hp) ?_
      intro e tm' H' hQ hx σ' a' w' he hke hr ha
      cases e with
      | normal =>
        obtain ⟨n', hlt, hI'⟩ := hQ
        exact ih n' tm' H' (by omega) hI' σ' a' w' (hext.trans he (Nat.le_refl _)) (hkp.trans hke) hr ha
      | exit id => exact hk _ _ _ hQ hx σ' a' w' (hext.trans he (Nat.le_refl _)) (hkp.trans hke) hr ha
      | ret => exact hk _ _ _ hQ hx σ' a' w' (hext.trans he (Nat.le_refl _)) (hkp.trans hke) hr ha
      | pan v => exact hk _ _ _ hQ hx σ' a' w' (hext.trans he (Nat.le_refl _)) (hkp.trans hke) hr ha
  exact wp_loop_rounds (n0 + 1) (key (n0 + 1) n0 tm0 H0 (by omega) h0 σ0 a0 w0 (Ext.refl _ _) hl0.refl hR0 hA0)

theorem seg_block {id : Nat} {c : Code} (h : Seg P N K D m c tm H (fun e tm' H' => match e with | .exit i => if i = id then Q .normal tm' H' else Q (.exit i) tm' H' | e => Q e tm' H')) : Seg P N K D m (.block id c) tm H Q := by
  intro W0 S σ a w hR hA Qm hp hk
  refine wp_block (h W0 S σ a w hR hA _ (panicOK_block hp) ?_)
  intro e tm' H' hQ hx σ' a' w' he hke hr ha
  cases e with
  | normal => exact hk _ _ _ hQ hx σ' a' w' he hke hr ha
  | exit i =>
    simp only at hQ
    by_cases hi : i = id
    · subst hi
      rw [if_pos rfl] at hQ
      have := hk .normal _ _ hQ trivial σ' a' w' he hke hr ha
      simpa [xexit, Exit.inBlock] using this
    · rw [if_neg hi] at hQ
      have := hk (.exit i) _ _ hQ trivial σ' a' w' he hke hr ha
      simpa [xexit, Exit.inBlock, hi] using this
  | ret => exact hk _ _ _ hQ hx σ' a' w' he hke hr ha
  | pan v => exact hk _ _ _ hQ hx σ' a' w' he hke hr ha

/-- A call of f with arguments in a memory: Q tells what it yields and the memory behind it. -/
def Fun (P : Program) (m : Nat) (f : FuncId) (args : List Value) (H : AH) (Q : Out → AH → Prop) : Prop :=
  ∀ (W0 : World) (S : Nat → Prop) (R : Ending → World → Prop) (σ : Nat → Loc) (w : World), Rel P W0 S σ H w → (∀ v ∈ args, scV H.size v = true) →
    (∀ o H', Q o H' → osc H'.size o → ∀ σ' w', Ext m σ σ' → KeepM m H H' → Rel P W0 S σ' H' w' → R (ending σ' o) w') →
    Calls P f (args.map (cV σ)).toArray w R

theorem resv_results {W0 : World} {S : Nat → Prop} {σ : Nat → Loc} {fn : Func} {tm : Tm} {H : AH} {a : Act} {w : World} {vs : List Value} (hR : Rel P W0 S σ H w) (hA : AR N D σ tm H.size a) (hvs : resv P tm H fn.results.toList = some vs) (ho : outOK H.size vs = true) :
    (results fn a.tmps).run P w = .ok (cV σ (outv vs)) w ∧ scV H.size (outv vs) = true := by
  obtain ⟨h1, h2⟩ := resv_run hR hA hvs
  obtain ⟨h3, h4⟩ := outv_conc σ H.size vs h2 ho
  refine ⟨?_, h4⟩
  unfold results
  rw [Array.mapM_eq_mapM_toList, Sem.run_bind, Sem.run_map]
  refine (congrArg (fun q : Result (List Value) => (q.andThen fun a w'' => Result.ok a.toArray w'').andThen fun vs w'' => Sem.run P (Pure.pure (if h : vs.size = 1 then vs[0] else .tuple vs)) w'') h1).trans ?_
  simp only [Result.andThen_ok, Sem.run_pure]
  rw [← h3]

theorem fun_of_seg {f : FuncId} {fn : Func} {c : Code} (hfn : P.funcs[f]? = some fn) (hc : fn.body = some c) {args : List Value} {Q : Out → AH → Prop} (hlen : args.length ≤ fn.ntmps)
    (h : Seg P fn.ntmps [] [] m c (initTm args 0 .e) H (fun e tm' H' => match e with
      | .normal | .ret => ∃ vs, resv P tm' H' fn.results.toList = some vs ∧ outOK H'.size vs = true ∧ Q (.ret (outv vs)) H'
      | .pan v => Q (.pan v) H'
      | .exit _ => False)) : Fun P m f args H Q := by
  intro W0 S R σ w hR hargs hk
  refine calls_of_wp hfn hc ?_
  refine h W0 S σ _ w hR (initAR hlen hargs) _ (panicOK_body _ _ _) ?_
  intro e tm' H' hQ hx σ' a' w' he hke hr ha
  have fin' : (∃ vs, resv P tm' H' fn.results.toList = some vs ∧ outOK H'.size vs = true ∧ Q (.ret (outv vs)) H') → a'.defers = [] ∧ ∃ v, (results fn a'.tmps).run P w' = .ok v w' ∧ R (.returned v) w' := by
    rintro ⟨vs, h1, h2, h3⟩
    obtain ⟨g1, g2⟩ := resv_results hr ha h1 h2
    exact ⟨ha.df, _, g1, hk (.ret (outv vs)) H' h3 g2 σ' w' he hke hr⟩
  cases e with
  | normal => exact fin' hQ
  | ret => exact fin' hQ
  | exit i => cases hQ
  | pan v => exact ⟨ha.df, hk (.pan v) H' hQ (scV_mono (Nat.zero_le _) _ hx) σ' w' he hke hr⟩

include hnum hmix in
/-- A call that the executor runs. -/
theorem fun_of_run {tbl : Tbl} (ht : TblOK P tbl) {loops : LH} [LHGood P loops] {n : Nat} {f : FuncId} {args : List Value} {Q : Out → AH → Prop} (hl : Low m H)
    (h : ∀ (k : Out → AH → Res) (r : Out × AH), (∀ o H', Q o H' → k o H' = some r) → run P tbl loops n f args H k = some r) : Fun P m f args H Q := by
  classical
  intro W0 S R σ w hR hargs hk
  have h1 := h (fun o H' => if Q o H' then some (.ret undef, .nil) else none) (.ret undef, .nil) (fun o H' he => if_pos he)
  refine run_ok hnum hmix ht loops n f args H _ _ h1 W0 S R σ w hR hargs ?_
  intro o H' ho σ' w' he hke hr hos
  by_cases hQ : Q o H'
  · exact hk o H' hQ hos σ' w' (he.mono hl.len) (hke.low hl) hr
  · simp only [if_neg hQ] at ho; cases ho

/-- A way of telling calls, from what was shown of them. -/
theorem callOK_of_fun {f : FuncId} {s : List Value → AH → (Out → AH → Res) → Res}
    (h : ∀ args H k r, s args H k = some r → ∃ Q, Fun P H.size f args H Q ∧ ∀ o H', Q o H' → k o H' = some r) : CallOK P (fun g args H k => if g = f then s args H k else none) := by
  intro g args H k r hr W0 S R σ w hR hargs hk
  simp only at hr
  split at hr
  · rename_i hg
    subst hg
    obtain ⟨Q, hF, hQ⟩ := h args H k r hr
    refine hF W0 S R σ w hR hargs (fun o H' hQo hos σ' w' he hke hr' => ?_)
    exact hk o H' (hQ o H' hQo) σ' w' he hke.keep hr' hos
  · cases hr
end
end Go.RX
