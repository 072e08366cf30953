/- What the executor computes of a call, the machine computes in whatever memory. -/
import Derived.Test.YtnidbincddpaaaaX9b
import Derived.LoopN
namespace Go.RX
open Go Go.Proofs.Ytnidbincddpaaaa Go.RowKit

def xexit (σ : Nat → Loc) : XE → Exit
  | .normal => .normal
  | .exit id => .exit id
  | .ret => .ret
  | .pan v => .panic [{ v := cV σ v, recovered := false }]
def xsc (n : Nat) : XE → Prop
  | .pan v => scV n v = true
  | _ => True
def ending (σ : Nat → Loc) : Out → Ending
  | .ret v => .returned (cV σ v)
  | .pan v => .panicked [{ v := cV σ v, recovered := false }]
def osc (n : Nat) : Out → Prop
  | .ret v => scV n v = true
  | .pan v => scV n v = true

/-- The state behind a piece of code: what is known of it beside the state s0 before. -/
structure After (P : Program) (W0 : World) (S : Nat → Prop) (N : Nat) (D : List Deferred) (H0 : AH) (σ0 : Nat → Loc) (st : St) (σ : Nat → Loc) (a : Act) (w : World) : Prop where
  ext : Ext H0.length σ0 σ
  keep : Keep H0 st.h
  rel : Rel P W0 S σ st.h w
  act : AR N D σ st.tm st.h.length a

theorem After.trans {P : Program} {W0 : World} {S : Nat → Prop} {N : Nat} {D : List Deferred} {H0 H1 : AH} {σ0 σ1 : Nat → Loc} {st : St} {σ : Nat → Loc} {a : Act} {w : World} (h : After P W0 S N D H1 σ1 st σ a w) (he : Ext H0.length σ0 σ1) (hn : Keep H0 H1) : After P W0 S N D H0 σ0 st σ a w :=
  ⟨he.trans h.ext hn.len, hn.trans h.keep, h.rel, h.act⟩

theorem cV_undef (σ : Nat → Loc) : cV σ undef = undef := by simp [cV, undef]

/-- A way of telling calls that can be trusted. -/
def CallOK (P : Program) (callK : CallK) : Prop :=
  ∀ (f : FuncId) (args : List Value) (H : AH) (k : Out → AH → Res) (r : Out × AH), callK f args H k = some r →
    ∀ (W0 : World) (S : Nat → Prop) (R : Ending → World → Prop) (σ : Nat → Loc) (w : World), Rel P W0 S σ H w → (∀ v ∈ args, scV H.length v = true) →
    (∀ o H', k o H' = some r → ∀ σ' w', Ext H.length σ σ' → Keep H H' → Rel P W0 S σ' H' w' → osc H'.length o → R (ending σ' o) w') →
    Calls P f (args.map (cV σ)).toArray w R

section
variable {P : Program} {W0 : World} {S : Nat → Prop} {N : Nat} {D : List Deferred} {callK : CallK}
variable (hnum : ∀ (f : FuncId) (fn : Func), P.funcs[f]? = some fn → (fn.name == "runtime.NumGoroutine") = false)
variable (hcall : CallOK P callK)

/-- What is asked of what comes behind. -/
def KOK (P : Program) (W0 : World) (S : Nat → Prop) (N : Nat) (D : List Deferred) (H0 : AH) (σ0 : Nat → Loc) (r : Out × AH) (k : XE → St → Res) (Q : Exit → Act → World → Prop) : Prop :=
  ∀ e st', k e st' = some r → xsc st'.h.length e → ∀ σ' a' w', After P W0 S N D H0 σ0 st' σ' a' w' → Q (xexit σ' e) a' w'

theorem KOK.from {H0 H1 : AH} {σ0 σ1 : Nat → Loc} {r : Out × AH} {k : XE → St → Res} {Q : Exit → Act → World → Prop} (h : KOK P W0 S N D H0 σ0 r k Q) (he : Ext H0.length σ0 σ1) (hn : Keep H0 H1) : KOK P W0 S N D H1 σ1 r k Q :=
  fun e st' hk hx σ' a' w' ha => h e st' hk hx σ' a' w' (ha.trans he hn)

include hnum hcall in
theorem doOp_ok {o : Oper} {st : St} {k : XE → St → Res} {r : Out × AH} (h : doOp P N callK o st k = some r) {σ : Nat → Loc} {a : Act} {w : World} (hR : Rel P W0 S σ st.h w) (hA : AR N D σ st.tm st.h.length a)
    {K : Act → World → Prop} {Q : Exit → Act → World → Prop} (hk : KOK P W0 S N D st.h σ r k (Exit.then K Q)) : o.wp P a w K Q := by
  unfold doOp at h
  cases hchk : achk P st.tm st.h o.op with
  | false => rw [hchk, cond_false] at h; cases h
  | true =>
  rw [hchk, cond_true] at h
  split at h
  · rename_i v H hopU
    have hop := aopU_ok hchk hopU
    obtain ⟨σ', w', e1, e2, e3, e4, e5⟩ := aop_run hnum hR hA o rfl hop
    split at h
    · rename_i tm htm
      have hput := (hA.ext e1 e2.len).put htm e4
      have := hk .normal _ h trivial σ' _ w' ⟨e1, e2, e3, hput⟩
      unfold Oper.wp
      rcases e5 with e5 | ⟨e5, rfl⟩
      · rw [e5]; exact this
      · rw [e5]; rw [cV_undef] at this; exact this
    · cases h
  · rename_i v H hopU
    have hop := aopU_ok hchk hopU
    obtain ⟨rfl, e2, e3, e4⟩ := aop_run hnum hR hA o rfl hop
    have := hk (.pan v) _ h e2 σ a w ⟨Ext.refl _ _, Keep.refl _, hR, hA⟩
    unfold Oper.wp
    rw [e4]
    simp only [xexit, e3] at this
    exact this
  · rename_i f args H hopU
    have hop := aopU_ok hchk hopU
    obtain ⟨rfl, e2, e3⟩ := aop_run hnum hR hA o rfl hop
    unfold Oper.wp
    rw [e3]
    refine hcall f args _ _ r h W0 S _ σ w hR e2 ?_
    intro out H' hout σ' w' x1 x2 x3 x4
    cases out with
    | ret v =>
      simp only at hout
      split at hout
      · rename_i tm htm
        exact hk .normal _ hout trivial σ' _ w' ⟨x1, x2, x3, (hA.ext x1 x2.len).put htm x4⟩
      · cases hout
    | pan v => exact hk (.pan v) _ hout x4 σ' _ w' ⟨x1, x2, x3, hA.ext x1 x2.len⟩
  · cases h

theorem doSkip_ok {o : Oper} {st : St} {k : XE → St → Res} {r : Out × AH} (h : doSkip N o st k = some r) {σ : Nat → Loc} {a : Act} {w : World} (hR : Rel P W0 S σ st.h w) (hA : AR N D σ st.tm st.h.length a)
    {K : Act → World → Prop} {Q : Exit → Act → World → Prop} (hk : KOK P W0 S N D st.h σ r k (Exit.then K Q)) : K (a.put o.dst undef) w := by
  unfold doSkip at h
  split at h
  · rename_i tm htm
    exact hk .normal _ h trivial σ _ w ⟨Ext.refl _ _, Keep.refl _, hR, by have := hA.put (v := undef) htm rfl; rwa [cV_undef] at this⟩
  · cases h

theorem yielded_of {D : List Deferred} {σ : Nat → Loc} {tm : Tm} {n : Nat} {a : Act} (hA : AR N D σ tm n a) {ops : Array Oper} {j d : Nat} (hd : gslot ops j = some d) (hdN : d < N) :
    yielded ops a.tmps j = match cV σ (get tm d) with | .bool b => some b | _ => none := by
  unfold yielded
  unfold gslot at hd
  have hlt : d < a.tmps.size := by rw [hA.size]; exact hdN
  have hv := hA.val d
  have h2 : a.tmps[d]? = some (cV σ (get tm d)) := by
    rw [← hv, Array.getElem?_eq_getElem hlt]
    simp [hlt]
  rw [hd]
  simp only [Option.bind_some, h2]
  generalize cV σ (get tm d) = u
  cases u <;> rfl

include hnum hcall in
theorem doOps_ok {ops : Array Oper} : ∀ (l : List Oper) (i : Nat), ops.toList.drop i = l → ∀ {st : St} {k : XE → St → Res} {r : Out × AH}, doOps P N callK ops l st k = some r →
    ∀ {σ : Nat → Loc} {a : Act} {w : World}, Rel P W0 S σ st.h w → AR N D σ st.tm st.h.length a → ∀ {Q : Exit → Act → World → Prop}, KOK P W0 S N D st.h σ r k Q → wpOps P ops Q (List.range' i l.length) a w := by
  intro l
  induction l with
  | nil =>
    intro i _ st k r h σ a w hR hA Q hk
    exact hk .normal st h trivial σ a w ⟨Ext.refl _ _, Keep.refl _, hR, hA⟩
  | cons o l ih =>
    intro i hdrop st k r h σ a w hR hA Q hk
    have hi : ops[i]? = some o := by
      have h1 : (ops.toList.drop i)[0]? = some o := by rw [hdrop]; rfl
      rw [List.getElem?_drop] at h1
      simpa using h1
    have hdrop' : ops.toList.drop (i + 1) = l := by
      rw [← List.drop_drop, hdrop]; rfl
    -- what comes behind this operation
    have hnext : KOK P W0 S N D st.h σ r (fun e st' => match e with | .normal => doOps P N callK ops l st' k | e => k e st') (Exit.then (wpOps P ops Q (List.range' (i + 1) l.length)) Q) := by
      intro e st' he hx σ' a' w' ha
      cases e with
      | normal => exact ih (i + 1) hdrop' he ha.rel ha.act (hk.from ha.ext ha.keep)
      | exit id => exact hk _ _ he hx σ' a' w' ha
      | ret => exact hk _ _ he hx σ' a' w' ha
      | pan v => exact hk _ _ he hx σ' a' w' ha
    rw [List.length_cons, List.range'_succ]
    simp only [wpOps, hi]
    unfold doOps at h
    split at h
    · rename_i hg
      have hw : Region.wanted o (yielded ops a.tmps) = true := by simp [Region.wanted, hg]
      rw [if_pos hw]
      exact .inl (doOp_ok hnum hcall h hR hA hnext)
    · rename_i j want hg
      split at h
      · cases h
      · rename_i d hd
        split at h
        · rename_i hdN
          have hy := yielded_of hA hd hdN
          split at h
          · rename_i b hb
            rw [hb] at hy
            have hy' : yielded ops a.tmps j = some b := hy
            cases b with
            | true =>
              rw [cond_true] at h
              have hA' := hA.known hb
              cases want with
              | true =>
                rw [cond_true] at h
                have hw : Region.wanted o (yielded ops a.tmps) = true := by simp [Region.wanted, hg, hy']
                rw [if_pos hw]
                exact .inl (doOp_ok hnum hcall h hR hA' hnext)
              | false =>
                rw [cond_false] at h
                have hw : ¬ Region.wanted o (yielded ops a.tmps) = true := by simp [Region.wanted, hg, hy']
                rw [if_neg hw]
                exact doSkip_ok h hR hA' hnext
            | false =>
              rw [cond_false] at h
              have hA' := hA.known hb
              cases want with
              | true =>
                rw [cond_true] at h
                have hw : ¬ Region.wanted o (yielded ops a.tmps) = true := by simp [Region.wanted, hg, hy']
                rw [if_neg hw]
                exact doSkip_ok h hR hA' hnext
              | false =>
                rw [cond_false] at h
                have hw : Region.wanted o (yielded ops a.tmps) = true := by simp [Region.wanted, hg, hy']
                rw [if_pos hw]
                exact .inl (doOp_ok hnum hcall h hR hA' hnext)
          · rename_i vs hb
            rw [hb] at hy
            have hy' : yielded ops a.tmps j = none := hy
            have hw : ¬ Region.wanted o (yielded ops a.tmps) = true := by simp [Region.wanted, hg, hy']
            rw [if_neg hw]
            exact doSkip_ok h hR hA hnext
          · cases h
        · cases h
end
end Go.RX
