/- Regions that draw their order, and so all code that the executor takes. -/
import Derived.Test.YtnidbincddpaaaaX12
import Derived.LoopN
import Derived.Defers
import Derived.Recover
namespace Go.RX
open Go Go.Proofs.Ytnidbincddpaaaa Go.RowKit

section
variable {P : Program} {W0 : World} {S : Nat → Prop} {N : Nat} {K : List Tmp} {D : List Deferred} {callK : CallK}

theorem guarded_ok {ops : Array Oper} {o : Oper} {st : St} {perform skip : St → Res} {r : Out × AH} {σ : Nat → Loc} {a : Act} (h : guarded N ops o st perform skip = some r) (hA : AR N D σ st.tm st.h.length a) :
    (Region.wanted o (yielded ops a.tmps) = true ∧ ∃ tm, AR N D σ tm st.h.length a ∧ perform ⟨tm, st.h⟩ = some r) ∨
    (Region.wanted o (yielded ops a.tmps) = false ∧ ∃ tm, AR N D σ tm st.h.length a ∧ skip ⟨tm, st.h⟩ = some r) := by
  unfold guarded at h
  split at h
  · rename_i hg
    exact .inl ⟨by simp [Region.wanted, hg], st.tm, hA, h⟩
  · rename_i j want hg
    split at h
    · cases h
    · rename_i d hd
      split at h
      · rename_i hdN
        have hy := yielded_of hA hd hdN
        split at h
        · rename_i b hb
          rw [hb] at hy
          have hy' : yielded ops a.tmps j = some b := hy
          have hA' := hA.known hb
          cases b <;> cases want <;> simp only [cond_true, cond_false] at h
          · exact .inl ⟨by simp [Region.wanted, hg, hy'], _, hA', h⟩
          · exact .inr ⟨by simp [Region.wanted, hg, hy'], _, hA', h⟩
          · exact .inr ⟨by simp [Region.wanted, hg, hy'], _, hA', h⟩
          · exact .inl ⟨by simp [Region.wanted, hg, hy'], _, hA', h⟩
        · rename_i vs hb
          rw [hb] at hy
          have hy' : yielded ops a.tmps j = none := hy
          exact .inr ⟨by simp [Region.wanted, hg, hy'], _, hA, h⟩
        · cases h
      · cases h

theorem rdIds_pure {tm : Tm} {op : Op} (h : reader op = false) : rdIds tm op = [] := by
  cases op <;> first | rfl | (simp [reader] at h)

theorem light_val {H : AH} {tm : Tm} {W1 w : World} {S1 : Nat → Prop} {σ : Nat → Loc} {a : Act} (hR : Rel P W1 S1 σ H w) (hA : AR N D σ tm H.length a) {o : Oper} (hl : light o.op = true) {v : Value} {H' : AH} (h : aop P tm H o.op = some (.val v H')) :
    H' = H ∧ scV H.length v = true := by
  obtain ⟨u, hu, _, hs⟩ := aop_light hR hA o rfl hl h
  injection hu with h1 h2
  subst h1 h2
  exact ⟨rfl, hs⟩

variable (hnum : ∀ (f : FuncId) (fn : Func), P.funcs[f]? = some fn → (fn.name == "runtime.NumGoroutine") = false)
variable (hcall : CallOK P callK)

theorem put_defers (a : Act) (d : Option Tmp) (v : Value) : (a.put d v).defers = a.defers := by cases d <;> rfl

theorem put_keeps {d : Option Tmp} (h : keeps K d = true) (a : Act) (v : Value) : ∀ t ∈ K, (a.put d v).tmps.getD t undef = a.tmps.getD t undef := by
  intro t ht
  cases d with
  | none => rfl
  | some d =>
    have hne : ¬ d = t := by
      rintro rfl
      simp [keeps, ht] at h
    simp [Act.put, Array.getD_eq_getD_getElem?, hne]

theorem find_takeOK {ops : Array Oper} {listed : Array Bool} {late : Bool} {rs : List Nat} {i : Nat} (h : rs.find? (takeOK K ops listed late) = some i) :
    i ∈ rs ∧ ∃ o, ops[i]? = some o ∧ light o.op = true ∧ (late = true → reader o.op = false) ∧ keeps K o.dst = true ∧ Region.free .any ops listed i = true := by
  have h1 := List.mem_of_find?_eq_some h
  have h2 := List.find?_some h
  refine ⟨h1, ?_⟩
  unfold takeOK at h2
  split at h2
  · rename_i o ho
    simp only [Bool.and_eq_true, Bool.not_eq_true', Bool.and_eq_false_iff] at h2
    exact ⟨o, ho, h2.1.1.1, fun hl => h2.1.1.2.resolve_left (by simp [hl]), h2.1.2, h2.2⟩
  · cases h2

include hnum hcall in
/-- Behind a late operation: nothing is read any more but by heavy operations. -/
theorem doDraw_late {ops : Array Oper} (hsel : Region.noSelect ops = true) : ∀ (n : Nat) (listed : Array Bool) (F : List Nat) {st : St} {k : XE → St → Res} {r : Out × AH}, doDraw P N K callK ops n listed F true st k = some r →
    ∀ {σ : Nat → Loc} {a : Act} {w : World}, Rel P W0 S σ st.h w → AR N D σ st.tm st.h.length a → ∀ {Q : Exit → Act → World → Prop}, PanicOK K Q → KOK P W0 S N D st.h σ r k Q → wpAny P .any ops Q n listed a w := by
  intro n
  induction n with
  | zero =>
    intro listed F st k r h σ a w hR hA Q hp hk
    unfold doDraw at h
    split at h
    · rename_i hr
      exact ⟨hr, hk .normal st h trivial σ a w ⟨Ext.refl _ _, Keep.refl _, hR, hA⟩⟩
    · cases h
  | succ n ih =>
    intro listed F st k r h σ a w hR hA Q hp hk
    unfold doDraw at h
    split at h
    · rename_i i hfind
      obtain ⟨hmem, o, ho, hl, hrd, hkp, hfree⟩ := find_takeOK hfind
      have hrd := hrd rfl
      simp only [ho] at h
      have pq : ∀ (v : Value) (c : List PanicEntry) (a : Act) (w : World), Q (.panic c) (a.put o.dst v) w → Q (.panic c) a w := fun v c a w hh => hp c (a.put o.dst v) a w (put_defers a o.dst v).symm (fun t ht => (put_keeps hkp a v t ht).symm) hh
      rcases guarded_ok h hA with ⟨hw, tm, hA', h⟩ | ⟨hw, tm, hA', h⟩
      · simp only at h
        cases hchk : achk P tm st.h o.op with
        | false => rw [hchk, cond_false] at h; cases h
        | true =>
        rw [hchk, cond_true] at h
        split at h
        · rename_i v H' hopU
          have hop := aopU_ok hchk hopU
          obtain ⟨rfl, hsv⟩ := light_val hR hA' hl hop
          split at h
          · rename_i tm' htm
            have hput := hA'.put htm hsv
            have hy : Yields P ops o (cV σ v) a := .inl ⟨hw, fun w' => light_yields (F := []) (fun i b hi => by cases hi) hR.sc hA' o hl (by rw [rdIds_pure hrd]; simp) hop⟩
            exact wpAny_first ho (Region.noSelect_spec hsel) (pq _) n listed a w (Region.free_spec ho hfree) hmem hy (ih _ _ h hR hput hp hk)
          · cases h
        · cases h
      · simp only at h
        split at h
        · rename_i tm' htm
          have hput : AR N D σ tm' st.h.length (a.put o.dst undef) := by have := hA'.put (v := undef) htm rfl; rwa [cV_undef] at this
          have hy : Yields P ops o undef a := .inr ⟨hw, rfl⟩
          exact wpAny_first ho (Region.noSelect_spec hsel) (pq _) n listed a w (Region.free_spec ho hfree) hmem hy (ih _ _ h hR hput hp hk)
        · cases h
    · split at h
      · rename_i hr
        exact ⟨fun _ => hk .normal st h trivial σ a w ⟨Ext.refl _ _, Keep.refl _, hR, hA⟩, by rw [hr]; simp⟩
      · rename_i i hr
        refine ⟨fun h0 => (by rw [hr] at h0; cases h0), fun j hj => ?_⟩
        rw [hr] at hj
        obtain rfl : j = i := by simpa using hj
        split at h
        · rename_i o ho
          unfold wpOp
          simp only [ho]
          rcases guarded_ok h hA with ⟨hw, tm, hA', h⟩ | ⟨hw, tm, hA', h⟩
          · rw [if_pos hw]
            simp only [Bool.true_or, cond_true] at h
            refine .inl (doOp_ok hnum hcall (st := ⟨tm, st.h⟩) h hR hA' ?_)
            intro e st' he hx σ' a' w' ha
            cases e with
            | normal => exact ih _ _ he ha.rel ha.act hp (hk.from ha.ext ha.keep)
            | exit id => exact hk _ _ he hx σ' a' w' ha
            | ret => exact hk _ _ he hx σ' a' w' ha
            | pan v => exact hk _ _ he hx σ' a' w' ha
          · rw [if_neg (by simp [hw])]
            simp only [Bool.true_or, cond_true] at h
            split at h
            · rename_i tm' htm
              have hput : AR N D σ tm' st.h.length (a.put o.dst undef) := by have := hA'.put (v := undef) htm rfl; rwa [cV_undef] at this
              exact ih _ _ h hR hput hp hk
            · cases h
        · cases h
      · cases h

/-- The late operations of a region, by number. -/
def lateI (ops : Array Oper) (i : Nat) : Bool := match ops[i]? with | some o => lateB ops o | none => false

include hnum hcall in
theorem doDraw_ok {ops : Array Oper} (hsel : Region.noSelect ops = true) : ∀ (n : Nat) (listed : Array Bool) (F : List Nat) {st : St} {k : XE → St → Res} {r : Out × AH}, doDraw P N K callK ops n listed F false st k = some r →
    ∀ {σ : Nat → Loc} {a : Act} {w : World}, Rel P W0 S σ st.h w → AR N D σ st.tm st.h.length a → ∀ {Q : Exit → Act → World → Prop}, PanicOK K Q → KOK P W0 S N D st.h σ r k Q →
      ∃ Sw : World → Prop, Sw w ∧ (∀ w', Sw w' → Facts F st.h σ w') ∧ wpAnyL P ops Q Sw (lateI ops) n listed a w := by
  intro n
  induction n with
  | zero =>
    intro listed F st k r h σ a w hR hA Q hp hk
    unfold doDraw at h
    split at h
    · rename_i hr
      exact ⟨Facts F st.h σ, hR.facts F, fun _ hh => hh, hr, hk .normal st h trivial σ a w ⟨Ext.refl _ _, Keep.refl _, hR, hA⟩⟩
    · cases h
  | succ n ih =>
    intro listed F st k r h σ a w hR hA Q hp hk
    unfold doDraw at h
    split at h
    · rename_i i hfind
      obtain ⟨hmem, o, ho, hl, _, hkp, hfree⟩ := find_takeOK hfind
      simp only [ho] at h
      have hli : lateI ops i = false := by simp [lateI, ho, lateB, hl]
      have pq : ∀ (v : Value) (c : List PanicEntry) (a : Act) (w : World), Q (.panic c) (a.put o.dst v) w → Q (.panic c) a w := fun v c a w hh => hp c (a.put o.dst v) a w (put_defers a o.dst v).symm (fun t ht => (put_keeps hkp a v t ht).symm) hh
      rcases guarded_ok h hA with ⟨hw, tm, hA', h⟩ | ⟨hw, tm, hA', h⟩
      · simp only at h
        cases hchk : achk P tm st.h o.op with
        | false => rw [hchk, cond_false] at h; cases h
        | true =>
        rw [hchk, cond_true] at h
        split at h
        · rename_i v H' hopU
          have hop := aopU_ok hchk hopU
          obtain ⟨rfl, hsv⟩ := light_val hR hA' hl hop
          split at h
          · rename_i tm' htm
            have hput := hA'.put htm hsv
            obtain ⟨Sw, hS1, hS2, hS3⟩ := ih _ _ h hR hput hp hk
            have hfacts : ∀ w', Sw w' → Facts (rdIds tm o.op) st.h σ w' := fun w' hw' => (hS2 w' hw').mono (fun j hj => List.mem_append_left _ hj)
            refine ⟨Sw, hS1, fun w' hw' => (hS2 w' hw').mono (fun j hj => List.mem_append_right _ hj), ?_⟩
            have hy : YieldsIf P ops Sw o (cV σ v) a := .inl ⟨hw, fun w' hw' => light_yields (hfacts w' hw') hR.sc hA' o hl (fun _ hj => hj) hop⟩
            refine wpAnyL_first ho hsel (pq _) n listed a w (Region.free_spec ho hfree) hmem hy hS1 ?_ hli hS3
            cases hrd : reader o.op with
            | false => exact .inl (.inl ⟨hw, fun w' => light_yields (F := []) (fun i b hi => by cases hi) hR.sc hA' o hl (by rw [rdIds_pure hrd]; simp) hop⟩)
            | true =>
              right
              intro j oj hj hlj
              simp only [lateI, hj, lateB, Bool.and_eq_true] at hlj
              have h3 := List.all_eq_true.1 hlj.2 i (by
                have : i < ops.size := (Array.getElem?_eq_some_iff.1 ho).1
                simpa using this)
              simp only [ho, hrd, Bool.not_true, Bool.false_or, List.any_eq_true, Bool.and_eq_true, beq_iff_eq] at h3
              obtain ⟨e, he, hb, heq⟩ := h3
              exact ⟨e, by simpa using he, hb, heq⟩
          · cases h
        · cases h
      · simp only at h
        split at h
        · rename_i tm' htm
          have hput : AR N D σ tm' st.h.length (a.put o.dst undef) := by have := hA'.put (v := undef) htm rfl; rwa [cV_undef] at this
          obtain ⟨Sw, hS1, hS2, hS3⟩ := ih _ _ h hR hput hp hk
          have hy : Yields P ops o undef a := .inr ⟨hw, rfl⟩
          exact ⟨Sw, hS1, hS2, wpAnyL_first ho hsel (pq _) n listed a w (Region.free_spec ho hfree) hmem hy.yieldsIf hS1 (.inl hy) hli hS3⟩
        · cases h
    · split at h
      · rename_i hr
        exact ⟨Facts F st.h σ, hR.facts F, fun _ hh => hh, fun _ => hk .normal st h trivial σ a w ⟨Ext.refl _ _, Keep.refl _, hR, hA⟩, by rw [hr]; simp⟩
      · rename_i i hr
        refine ⟨Facts F st.h σ, hR.facts F, fun _ hh => hh, fun h0 => (by rw [hr] at h0; cases h0), fun j hj => ?_⟩
        rw [hr] at hj
        obtain rfl : j = i := by simpa using hj
        split at h
        · rename_i o ho
          have hlI : lateI ops j = lateB ops o := by simp [lateI, ho]
          unfold wpOp
          simp only [ho, hlI]
          rcases guarded_ok h hA with ⟨hw, tm, hA', h⟩ | ⟨hw, tm, hA', h⟩
          · rw [if_pos hw]
            simp only [Bool.false_or] at h
            cases hlate : lateB ops o with
            | true =>
              simp only [hlate, cond_true] at h
              simp only [if_true]
              refine .inl (doOp_ok hnum hcall (st := ⟨tm, st.h⟩) h hR hA' ?_)
              intro e st' he hx σ' a' w' ha
              cases e with
              | normal => exact doDraw_late hnum hcall hsel n _ _ he ha.rel ha.act hp (hk.from ha.ext ha.keep)
              | exit id => exact hk _ _ he hx σ' a' w' ha
              | ret => exact hk _ _ he hx σ' a' w' ha
              | pan v => exact hk _ _ he hx σ' a' w' ha
            | false =>
              simp only [hlate, cond_false] at h
              simp only [Bool.false_eq_true, if_false]
              have hRf := hR.freeze F
              have hlen := frz_len st.h 0 F
              refine .inl (doOp_ok (W0 := w) (S := Own F st.h σ) hnum hcall (st := ⟨tm, frz 0 F st.h⟩) h hRf (by rw [hlen]; exact hA') ?_)
              intro e st' he hx σ' a' w' ha
              have hext : Ext st.h.length σ σ' := by have := ha.ext; rwa [hlen] at this
              obtain ⟨hRt, hKt⟩ := hR.thaw ha.rel ha.keep hext
              have htl := thaw_len st.h st'.h 0 F
              cases e with
              | normal =>
                obtain ⟨Sw, hS1, hS2, hS3⟩ := ih _ _ he hRt (by rw [htl]; exact ha.act) hp (hk.from hext hKt)
                have hto : ∀ w'', Sw w'' → Facts F st.h σ w'' := by
                  intro w'' hw'' i b hi hib hlv
                  have hil : i < st.h.length := (List.getElem?_eq_some_iff.1 hib).1
                  have hit : (thaw 0 F st.h st'.h)[i]? = some b := by
                    rw [thaw_get st.h st'.h 0 i F (by have := ha.keep.len; rwa [hlen] at this), Nat.zero_add, if_pos ⟨hil, by simpa using hi⟩]
                    exact hib
                  obtain ⟨f1, f2⟩ := hS2 w'' hw'' i b hi hit hlv
                  rw [hext i hil] at f1 f2
                  refine ⟨f1, fun j v hjv => ?_⟩
                  have := f2 j v hjv
                  rw [cS_ext hext v (hR.sc' hib v (List.mem_of_getElem? hjv))] at this
                  exact this
                exact ⟨hto w' hS1, wpAnyL_mono hto n _ _ _ hS3⟩
              | exit id => exact hk _ _ he hx σ' a' w' ⟨hext, hKt, hRt, by rw [htl]; exact ha.act⟩
              | ret => exact hk _ _ he hx σ' a' w' ⟨hext, hKt, hRt, by rw [htl]; exact ha.act⟩
              | pan v => exact hk _ _ he (by rw [htl]; exact hx) σ' a' w' ⟨hext, hKt, hRt, by rw [htl]; exact ha.act⟩
          · rw [if_neg (by simp [hw])]
            simp only [Bool.false_or] at h
            split at h
            · rename_i tm' htm
              have hput : AR N D σ tm' st.h.length (a.put o.dst undef) := by have := hA'.put (v := undef) htm rfl; rwa [cV_undef] at this
              cases hlate : lateB ops o with
              | true =>
                simp only [hlate, cond_true] at h
                simp only [if_true]
                exact doDraw_late hnum hcall hsel n _ _ h hR hput hp hk
              | false =>
                simp only [hlate, cond_false] at h
                simp only [Bool.false_eq_true, if_false]
                obtain ⟨Sw, hS1, hS2, hS3⟩ := ih _ _ h hR hput hp hk
                exact ⟨hR.facts F, wpAnyL_mono hS2 n _ _ _ hS3⟩
            · cases h
        · cases h
      · cases h

theorem panicOK_then {C : Act → World → Prop} {Q : Exit → Act → World → Prop} (h : PanicOK K Q) : PanicOK K (Exit.then C Q) := fun c a a' w hd hs hq => h c a a' w hd hs hq
theorem panicOK_block {id : Nat} {Q : Exit → Act → World → Prop} (h : PanicOK K Q) : PanicOK K (Exit.inBlock id Q) := fun c a a' w hd hs hq => h c a a' w hd hs hq
theorem panicOK_body (P : Program) (fn : Func) (R : Ending → World → Prop) : PanicOK K (bodyPost P fn R) := fun _ _ _ _ hd _ hq => ⟨hd.trans hq.1, hq.2⟩
theorem Rel.drawn {σ : Nat → Loc} {H : AH} {w : World} (h : Rel P W0 S σ H w) (n : Nat) : Rel P W0 S σ H { w with drawn := n } :=
  ⟨⟨h.fr.os, h.fr.tape, h.fr.output, h.fr.size, h.fr.block⟩, h.sc, h.lt, h.ro, h.wb, h.inj⟩

theorem iter_ok {c : Code} {body : St → (XE → St → Res) → Res}
    (hb : ∀ {st : St} {k : XE → St → Res} {r : Out × AH}, body st k = some r → ∀ {σ : Nat → Loc} {a : Act} {w : World}, Rel P W0 S σ st.h w → AR N D σ st.tm st.h.length a → ∀ {Q : Exit → Act → World → Prop}, PanicOK K Q → KOK P W0 S N D st.h σ r k Q → c.wp P Q a w) :
    ∀ (n : Nat) {st : St} {k : XE → St → Res} {r : Out × AH}, iter n body st k = some r → ∀ {σ : Nat → Loc} {a : Act} {w : World}, Rel P W0 S σ st.h w → AR N D σ st.tm st.h.length a →
      ∀ {Q : Exit → Act → World → Prop}, PanicOK K Q → KOK P W0 S N D st.h σ r k Q → Code.rounds P c Q n a w := by
  intro n
  induction n with
  | zero => intro st k r h; simp [iter] at h
  | succ n ih =>
    intro st k r h σ a w hR hA Q hp hk
    simp only [iter] at h
    rw [rounds_succ]
    refine hb h hR hA (panicOK_then hp) ?_
    intro e st' he hx σ' a' w' ha
    cases e with
    | normal => exact ih he ha.rel ha.act hp (hk.from ha.ext ha.keep)
    | exit id => exact hk _ _ he hx σ' a' w' ha
    | ret => exact hk _ _ he hx σ' a' w' ha
    | pan v => exact hk _ _ he hx σ' a' w' ha

variable (hmix : P.follows .mixedOrders = true)

include hnum hcall hmix in
theorem exec_ok (fuel : Nat) : ∀ (c : Code) {st : St} {k : XE → St → Res} {r : Out × AH}, exec P N K fuel callK c st k = some r → ∀ {σ : Nat → Loc} {a : Act} {w : World}, Rel P W0 S σ st.h w → AR N D σ st.tm st.h.length a →
    ∀ {Q : Exit → Act → World → Prop}, PanicOK K Q → KOK P W0 S N D st.h σ r k Q → c.wp P Q a w := by
  intro c
  induction c with
  | skip =>
    intro st k r h σ a w hR hA Q hp hk
    exact wp_skip (hk .normal st h trivial σ a w ⟨Ext.refl _ _, Keep.refl _, hR, hA⟩)
  | region id ops draw =>
    intro st k r h σ a w hR hA Q hp hk
    cases draw with
    | true =>
      simp only [exec] at h
      cases hsel : Region.noSelect ops with
      | false => rw [hsel, cond_false] at h; cases h
      | true =>
        rw [hsel, cond_true] at h
        obtain ⟨Sw, _, _, hL⟩ := doDraw_ok (W0 := W0) (S := S) hnum hcall hsel _ _ _ h (hR.drawn _) hA hp hk
        exact wp_region_any hmix (wpAny_of_L _ _ _ _ hL)
    | false =>
      simp only [exec] at h
      refine wp_region ?_
      have := doOps_ok (W0 := W0) (S := S) hnum hcall ops.toList 0 (by simp) h hR hA hk
      rw [← List.range_eq_range', Array.length_toList] at this
      exact this
  | seq x y ihx ihy =>
    intro st k r h σ a w hR hA Q hp hk
    simp only [exec] at h
    refine wp_seq (ihx h hR hA (panicOK_then hp) ?_)
    intro e st' he hx σ' a' w' ha
    cases e with
    | normal => exact ihy he ha.rel ha.act hp (hk.from ha.ext ha.keep)
    | exit id => exact hk _ _ he hx σ' a' w' ha
    | ret => exact hk _ _ he hx σ' a' w' ha
    | pan v => exact hk _ _ he hx σ' a' w' ha
  | cond x y z ihy ihz =>
    intro st k r h σ a w hR hA Q hp hk
    cases x with
    | tmp d =>
      simp only [exec] at h
      split at h
      · split at h
        · rename_i b hb
          have he : a.eval (.tmp d) = .bool b := (hA.val d).trans (by rw [hb]; rfl)
          cases b with
          | true => exact wp_cond_true he (ihy (st := ⟨(d, .bool true) :: st.tm, st.h⟩) (by simpa using h) hR (hA.known hb) hp hk)
          | false => exact wp_cond_false he (ihz (st := ⟨(d, .bool false) :: st.tm, st.h⟩) (by simpa using h) hR (hA.known hb) hp hk)
        · cases h
      · cases h
    | const v => simp [exec] at h
    | global g => simp [exec] at h
    | func f => simp [exec] at h
  | block id c ih =>
    intro st k r h σ a w hR hA Q hp hk
    simp only [exec] at h
    refine wp_block (ih h hR hA (panicOK_block hp) ?_)
    intro e st' he hx σ' a' w' ha
    cases e with
    | normal => exact hk _ _ he hx σ' a' w' ha
    | exit i =>
      simp only at he
      split at he
      · rename_i hi
        subst hi
        have := hk _ _ he trivial σ' a' w' ha
        simpa [xexit, Exit.inBlock] using this
      · rename_i hi
        have := hk _ _ he trivial σ' a' w' ha
        simpa [xexit, Exit.inBlock, hi] using this
    | ret => exact hk _ _ he hx σ' a' w' ha
    | pan v => exact hk _ _ he hx σ' a' w' ha
  | loop c ih =>
    intro st k r h σ a w hR hA Q hp hk
    simp only [exec] at h
    exact wp_loop_rounds fuel (iter_ok (W0 := W0) (S := S) (@fun _ _ _ h _ _ _ hR hA _ hp hk => ih h hR hA hp hk) fuel h hR hA hp hk)
  | ret =>
    intro st k r h σ a w hR hA Q hp hk
    simp only [exec] at h
    exact wp_ret (hk .ret st h trivial σ a w ⟨Ext.refl _ _, Keep.refl _, hR, hA⟩)
  | exit i =>
    intro st k r h σ a w hR hA Q hp hk
    simp only [exec] at h
    exact wp_exit (hk (.exit i) st h trivial σ a w ⟨Ext.refl _ _, Keep.refl _, hR, hA⟩)
  | _ => intro st k r h; simp [exec] at h

theorem initTm_get : ∀ (args : List Value) (n t : Nat), get (initTm n args) t = if n ≤ t then (args[t - n]?).getD undef else undef := by
  intro args
  induction args with
  | nil => intro n t; simp [initTm, get]
  | cons v vs ih =>
    intro n t
    simp only [initTm, get_cons]
    by_cases h : n = t
    · subst h; simp
    · rw [if_neg h, ih (n + 1) t]
      by_cases h2 : n ≤ t
      · rw [if_pos h2, if_pos (by omega)]
        have : t - n = (t - (n + 1)) + 1 := by omega
        rw [this, List.getElem?_cons_succ]
      · rw [if_neg h2, if_neg (by omega)]

theorem initAR {σ : Nat → Loc} {args : List Value} {n N : Nat} (hN : args.length ≤ N) (hs : ∀ v ∈ args, scV n v = true) :
    AR N [] σ (initTm 0 args) n { tmps := (args.map (cV σ)).toArray ++ Array.replicate (N - (args.map (cV σ)).toArray.size) undef, defers := [] } := by
  refine ⟨by simp; omega, fun t => ?_, fun t => ?_, rfl⟩
  · rw [initTm_get, if_pos (Nat.zero_le _), Nat.sub_zero]
    by_cases ht : t < args.length
    · simp only [Array.getD_eq_getD_getElem?]
      rw [Array.getElem?_append_left (by simpa using ht)]
      simp [List.getElem?_eq_getElem ht]
    · simp only [Array.getD_eq_getD_getElem?]
      rw [Array.getElem?_append_right (by simp; omega), List.getElem?_eq_none (by omega)]
      simp only [Option.getD_none, cV_undef, Array.getElem?_replicate]
      split <;> rfl
  · rw [initTm_get, if_pos (Nat.zero_le _), Nat.sub_zero]
    cases h : args[t]? with
    | none => rfl
    | some v => exact hs v (List.mem_of_getElem? h)

theorem resv_run {W0 : World} {S : Nat → Prop} {σ : Nat → Loc} {st : St} {a : Act} {w : World} (hR : Rel P W0 S σ st.h w) (hA : AR N D σ st.tm st.h.length a) : ∀ {rs : List ResultVar} {vs : List Value}, resv P st rs = some vs →
    (rs.mapM fun | .tmp t => Pure.pure (a.tmps.getD t undef) | .cell b t => do loadVar t (← asAddr (a.tmps.getD b undef)) : Sem (List Value)).run P w = .ok (vs.map (cV σ)) w ∧ ∀ v ∈ vs, scV st.h.length v = true := by
  intro rs
  induction rs with
  | nil => intro vs h; simp [resv] at h; subst h; exact ⟨rfl, by simp⟩
  | cons x r ih =>
    intro vs h
    rw [List.mapM_cons]
    cases x with
    | tmp t =>
      unfold resv at h
      split at h
      · rename_i ws hws
        injection h with h; subst h
        obtain ⟨h1, h2⟩ := ih hws
        refine ⟨?_, fun v hv => ?_⟩
        · simp only [Sem.run_bind, Sem.run_pure, Result.andThen_ok]
          rw [h1, hA.val t]
          rfl
        · rcases List.mem_cons.1 hv with rfl | hv
          · exact hA.sc t
          · exact h2 v hv
      · cases h
    | cell b t =>
      unfold resv at h
      split at h
      · rename_i u ws hu hws
        injection h with h; subst h
        obtain ⟨h1, h2⟩ := ih hws
        obtain ⟨h3, h4⟩ := aload_run hR hu
        refine ⟨?_, fun v hv => ?_⟩
        · have h5 : (do loadVar t (← asAddr (a.tmps.getD b undef)) : Sem Value).run P w = .ok (cV σ u) w := by
            rw [hA.val b]
            unfold aload at hu
            split at hu
            · rename_i heq
              rw [heq] at h3 ⊢
              exact h3
            · cases hu
          simp only [Sem.run_bind] at h5 ⊢
          rw [h5]
          simp only [Result.andThen_ok]
          rw [h1]
          rfl
        · rcases List.mem_cons.1 hv with rfl | hv
          · exact h4
          · exact h2 v hv
      · cases h

theorem outv_conc (σ : Nat → Loc) (n : Nat) (vs : List Value) (hs : ∀ v ∈ vs, scV n v = true) (h1 : outOK n vs = true) : cV σ (outv vs) = (if h : (vs.map (cV σ)).toArray.size = 1 then (vs.map (cV σ)).toArray[0] else .tuple (vs.map (cV σ)).toArray) ∧ scV n (outv vs) = true := by
  match vs with
  | [v] => exact ⟨rfl, hs v (by simp)⟩
  | [] => exact ⟨by simp [outv, cV], rfl⟩
  | u :: v :: r => 
    have hall : ∀ x ∈ u :: v :: r, scT n x = true := fun x hx => List.all_eq_true.1 h1 x hx
    refine ⟨?_, List.all_eq_true.2 fun x hx => hall x (by simpa [outv] using hx)⟩
    have hne : ¬ ((u :: v :: r).map (cV σ)).toArray.size = 1 := by simp
    rw [dif_neg hne]
    simp only [outv, cV]
    congr 1
    apply Array.toList_inj.1
    simp only [Array.toList_map]
    refine List.map_congr_left fun x hx => ?_
    have := hall x hx
    cases x <;> first | rfl | (simp [scT, scS] at this)

/-- The table's ways of telling calls. -/
def TblOK (P : Program) (tbl : FuncId → Option (List Value → AH → (Out → AH → Res) → Res)) : Prop :=
  ∀ (f : FuncId) (s : List Value → AH → (Out → AH → Res) → Res), tbl f = some s → CallOK P (fun g args H k => if g = f then s args H k else none)

/-- What a function yields. -/
theorem fin_ok {W0 : World} {S : Nat → Prop} {σ : Nat → Loc} {fn : Func} {st : St} {a : Act} {w : World} {k : Out → AH → Res} {r : Out × AH} (hR : Rel P W0 S σ st.h w) (hA : AR N D σ st.tm st.h.length a) (h : fin P fn st k = some r) :
    ∃ v, (results fn a.tmps).run P w = .ok (cV σ v) w ∧ scV st.h.length v = true ∧ k (.ret v) st.h = some r := by
  unfold fin at h
  split at h
  · rename_i vs hvs
    cases ho : outOK st.h.length vs with
    | false => rw [ho, cond_false] at h; cases h
    | true =>
      rw [ho, cond_true] at h
      obtain ⟨h1, h2⟩ := resv_run hR hA hvs
      obtain ⟨h3, h4⟩ := outv_conc σ st.h.length vs h2 ho
      refine ⟨outv vs, ?_, h4, h⟩
      unfold results
      rw [Array.mapM_eq_mapM_toList, Sem.run_bind, Sem.run_map]
      refine (congrArg (fun q : Result (List Value) => (q.andThen fun a w'' => Result.ok a.toArray w'').andThen fun vs w'' => Sem.run P (Pure.pure (if h : vs.size = 1 then vs[0] else .tuple vs)) w'') h1).trans ?_
      simp only [Result.andThen_ok, Sem.run_pure]
      rw [← h3]
  · cases h

theorem results_congr {fn : Func} {t t' : Array Value} (h : ∀ s ∈ rslots fn.results.toList, t'.getD s undef = t.getD s undef) : results fn t' = results fn t := by
  unfold results
  rw [Array.mapM_eq_mapM_toList, Array.mapM_eq_mapM_toList]
  have : ∀ rs : List ResultVar, (∀ s ∈ rslots rs, t'.getD s undef = t.getD s undef) →
      (rs.mapM fun | .tmp s => Pure.pure (t'.getD s undef) | .cell b T => do loadVar T (← asAddr (t'.getD b undef)) : Sem (List Value)) =
      (rs.mapM fun | .tmp s => Pure.pure (t.getD s undef) | .cell b T => do loadVar T (← asAddr (t.getD b undef)) : Sem (List Value)) := by
    intro rs
    induction rs with
    | nil => intro _; rfl
    | cons x rs ih =>
      intro hs
      rw [List.mapM_cons, List.mapM_cons]
      cases x with
      | tmp s => rw [ih (fun q hq => hs q (by simp [rslots, hq]))]; simp only [hs s (by simp [rslots])]
      | cell b T => rw [ih (fun q hq => hs q (by simp [rslots, hq]))]; simp only [hs b (by simp [rslots])]
  exact congrArg (fun q : Sem (List Value) => (do let vs ← List.toArray <$> q; Pure.pure (if h : vs.size = 1 then vs[0] else .tuple vs) : Sem Value)) (this _ h)

theorem leaves_congr {fn : Func} {t t' : Array Value} {R : Ending → World → Prop} (h : results fn t' = results fn t) : ∀ (ds : List Deferred) (u : FrameMode) (w : World), Leaves P fn t R ds u w → Leaves P fn t' R ds u w := by
  intro ds
  induction ds with
  | nil =>
    intro u w hl
    cases u with
    | run => exact hl
    | returning => simp only [Leaves] at hl ⊢; rw [h]; exact hl
    | panicking c => exact hl
  | cons d ds ih =>
    intro u w hl
    obtain ⟨h1, fv, cap, f, args, h2, h3, h4⟩ := hl
    refine ⟨h1, fv, cap, f, args, h2, h3, h4.mono fun e u' w' he => ?_⟩
    cases e with
    | returned v => exact ih _ _ he
    | panicked c => exact ih _ _ he
    | outgrown => exact he

theorem panicOK_defers (P : Program) (fn : Func) (R : Ending → World → Prop) : PanicOK (rslots fn.results.toList) (bodyPostD P fn R) := fun c a a' w hd hs hq => by
  simp only [bodyPostD] at hq ⊢
  rw [hd]
  exact leaves_congr (results_congr hs) _ _ _ hq

theorem initTm_cons {σ : Nat → Loc} {args : List Value} {n N : Nat} {s : Tmp} {v : Value} {a : Act} (hA : AR N D σ (initTm 0 args) n a) (hs : s < N) (hv : scV n v = true) : AR N D σ ((s, v) :: initTm 0 args) n (a.put (some s) (cV σ v)) :=
  hA.put (dst := some s) (by simp [putv, hs]) hv

include hnum hcall hmix in
/-- The deferred function: what it recovers, what it does. -/
theorem catch_ok {W0 : World} {S : Nat → Prop} {g : FuncId} {gn : Func} {gb c2 : Code} {s : Tmp} (hg : P.funcs[g]? = some gn) (hgb : gn.body = some gb) (hsh : rshape gb = some (s, c2)) (hres : gn.results.toList = []) (hnt : 1 ≤ gn.ntmps) (hst : s < gn.ntmps)
    (loops : Nat) {d v : Value} {σ : Nat → Loc} {st : St} {w : World} {fn : Func} {k : Out → AH → Res} {r : Out × AH} (h : doCatch P loops callK gn s c2 d v st fn k = some r)
    (hR : Rel P W0 S σ st.h w) (hd : scV st.h.length d = true) (hv : scV st.h.length v = true) {u u' : FrameMode}
    (hu : (u = .returning ∧ u' = .returning ∧ v = .nilIface) ∨ (u = .panicking [{ v := cV σ v, recovered := false }] ∧ u' = .panicking [{ v := cV σ v, recovered := true }])) :
    CallsD P g #[cV σ d] u w fun e uu w' => e = .returned (.tuple #[]) ∧ uu = u' ∧ ∃ σ' h', Ext st.h.length σ σ' ∧ Keep st.h h' ∧ Rel P W0 S σ' h' w' ∧ fin P fn ⟨st.tm, h'⟩ k = some r := by
  unfold rshape at hsh
  split at hsh
  · rename_i id ops c
    split at hsh
    · rename_i s' hrop
      injection hsh with hsh
      injection hsh with e1 e2
      subst e1 e2
      unfold rop at hrop
      split at hrop
      · rename_i o hops
        split at hrop
        · rename_i cc s1 hop hgd hdst
          split at hrop
          · rename_i hcal hargs
            injection hrop with e1; subst e1
            have hops' : ops = #[o] := by apply Array.toList_inj.1; rw [hops]
            subst hops'
            have hrun : ∀ (ρ : Operand → Value) w, (execOp ρ o).run P w = .ok .recover w := by
              intro ρ w
              have ha : cc.args = #[] := by apply Array.toList_inj.1; rw [hargs]
              simp [execOp, hop, resolve, hcal, ha, invoke, builtin]
            refine callsD_of_wpS hg hgb fun c₀ cs hmode => ?_
            refine wpS_seq (wpS_region ?_)
            have hA0 := initAR (N := gn.ntmps) (n := st.h.length) (σ := σ) (args := [d]) (by simpa using hnt) (by simpa using hd)
            have hA1 := initTm_cons (v := v) hA0 hst hv
            have hrest : ∀ cs', cs' = { c₀ with mode := u' } :: cs → Code.wpS P c (bodyPostS P gn c₀ cs fun e uu w' => e = .returned (.tuple #[]) ∧ uu = u' ∧ ∃ σ' h', Ext st.h.length σ σ' ∧ Keep st.h h' ∧ Rel P W0 S σ' h' w' ∧ fin P fn ⟨st.tm, h'⟩ k = some r)
                (Act.put { tmps := ([d].map (cV σ)).toArray ++ Array.replicate (gn.ntmps - ([d].map (cV σ)).toArray.size) undef, defers := [] } (some s1) (cV σ v)) cs' w := by
              intro cs' hcs'
              refine wpS_of_wp ?_
              unfold doCatch at h
              refine exec_ok (W0 := W0) (S := S) hnum hcall hmix loops c (K := []) h hR hA1 (fun _ a a' _ hd _ hq => ⟨hd.trans hq.1, hq.2⟩) ?_
              intro e st2 he hx σ' a' w' ha
              have fin' : fin P fn ⟨st.tm, st2.h⟩ k = some r → bodyPostS P gn c₀ cs (fun e uu w' => e = .returned (.tuple #[]) ∧ uu = u' ∧ ∃ σ' h', Ext st.h.length σ σ' ∧ Keep st.h h' ∧ Rel P W0 S σ' h' w' ∧ fin P fn ⟨st.tm, h'⟩ k = some r) .ret a' cs' w' := by
                intro hf
                refine ⟨ha.act.df, u', hcs', .tuple #[], ?_, rfl, rfl, σ', st2.h, ha.ext, ha.keep, ha.rel, hf⟩
                have : gn.results = #[] := by apply Array.toList_inj.1; rw [hres]
                simp [results, this]
              cases e with
              | normal => exact fin' he
              | ret => exact fin' he
              | exit i => cases he
              | pan v => cases he
            have hw : Region.wanted o (yielded #[o] (Array.replicate 0 undef)) = true := by simp [Region.wanted, hgd]
            have hw : ∀ t, Region.wanted o (yielded #[o] t) = true := fun t => by simp [Region.wanted, hgd]
            show wpOpsS P #[o] _ [0] _ _ _
            unfold wpOpsS
            simp only [List.getElem?_toArray, List.getElem?_cons_zero, hw, if_true, hrun, hdst]
            rcases hu with ⟨rfl, rfl, rfl⟩ | ⟨rfl, rfl⟩
            · have hrec : recoverD (c₀ :: cs) = none := by simp [recoverD, hmode]
              simp only [hrec]
              exact hrest _ (by rw [← hmode])
            · have hrec : recoverD (c₀ :: cs) = some (cV σ v, { c₀ with mode := .panicking [{ v := cV σ v, recovered := true }] } :: cs) := by simp [recoverD, hmode]
              simp only [hrec]
              exact hrest _ rfl
          · cases hrop
        · cases hrop
      · cases hrop
    · cases hsh
  · cases hsh

include hnum hcall hmix in
theorem doBody_ok (loops : Nat) {f : FuncId} {fn : Func} {c : Code} (hfn : P.funcs[f]? = some fn) (hc : fn.body = some c) {args : List Value} {H : AH} {k : Out → AH → Res} {r : Out × AH} (h : doBody P loops callK fn c args H k = some r)
    (hlen : args.length ≤ fn.ntmps) {W0 : World} {S : Nat → Prop} {R : Ending → World → Prop} {σ : Nat → Loc} {w : World} (hR : Rel P W0 S σ H w) (hargs : ∀ v ∈ args, scV H.length v = true)
    (hk : ∀ o H', k o H' = some r → ∀ σ' w', Ext H.length σ σ' → Keep H H' → Rel P W0 S σ' H' w' → osc H'.length o → R (ending σ' o) w') : Calls P f (args.map (cV σ)).toArray w R := by
  unfold doBody at h
  split at h
  · refine calls_of_wp hfn hc ?_
    refine exec_ok (W0 := W0) (S := S) hnum hcall hmix loops c h hR (initAR hlen hargs) (panicOK_body _ _ _) ?_
    intro e st' he hx σ' a' w' ha
    have fin' : fin P fn st' k = some r → a'.defers = [] ∧ ∃ v, (results fn a'.tmps).run P w' = .ok v w' ∧ R (.returned v) w' := by
      intro hf
      obtain ⟨v, h1, h2, h3⟩ := fin_ok ha.rel ha.act hf
      exact ⟨ha.act.df, _, h1, hk (.ret v) st'.h h3 σ' w' ha.ext ha.keep ha.rel h2⟩
    cases e with
    | normal => exact fin' he
    | ret => exact fin' he
    | exit i => cases he
    | pan v => exact ⟨ha.act.df, hk (.pan v) st'.h he σ' w' ha.ext ha.keep ha.rel hx⟩
  · rename_i c0 g x c1 hsh
    split at h
    · rename_i gn hg
      split at h
      · rename_i gb hgb
        split at h
        · rename_i s c2 hrs
          split at h
          · rename_i hcond
            obtain ⟨hres, hnt, hst⟩ := hcond
            unfold dshape at hsh
            split at hsh
            · rename_i d0 id ops d1
              split at hsh
              · rename_i g' x' hdop
                injection hsh with hsh
                injection hsh with e1 hsh
                injection hsh with e2 hsh
                injection hsh with e3 e4
                subst e1 e2 e3 e4
                refine calls_of_wp_defers hfn hc ?_
                refine wp_seq ?_
                refine exec_ok (W0 := W0) (S := S) hnum hcall hmix loops d0 h hR (initAR hlen hargs) (panicOK_then (panicOK_defers P fn R)) ?_
                intro e st he hx σ1 a1 w1 ha1
                cases e with
                | exit i => cases he
                | ret => cases he
                | pan v => cases he
                | normal =>
                  simp only at he
                  split at he
                  · rename_i d hd
                    obtain ⟨hd1, hd2⟩ := ev_run ha1.act hd
                    refine wp_seq (wp_region ?_)
                    unfold dop at hdop
                    split at hdop
                    · rename_i o hops
                      split at hdop
                      · rename_i cc hop hgd hdst
                        split at hdop
                        · rename_i g2 x2 hcal hcargs
                          injection hdop with hdop
                          injection hdop with e1 e2
                          subst e1 e2
                          have hops' : ops = #[o] := by apply Array.toList_inj.1; rw [hops]
                          subst hops'
                          have hw : ∀ t, Region.wanted o (yielded #[o] t) = true := fun t => by simp [Region.wanted, hgd]
                          have hrun : (execOp a1.eval o).run P w1 = .ok (.defer { target := .fn (.func g2) #[], args := #[cV σ1 d] }) w1 := by
                            have ha : cc.args = #[x2] := by apply Array.toList_inj.1; rw [hcargs]
                            simp [execOp, hop, resolve, hcal, ha, Act.eval, Deferred.ofValue] at hd1 ⊢
                            exact hd1
                          have hinv : ∀ dv w, (invoke (.fn (.func g2) #[]) #[dv]).run P w = .ok (.enter g2 #[dv]) w := by
                            intro dv w
                            simp only [invoke, callFunc, Sem.run_bind, Result.andThen_ok, run_program, hg, hnum _ _ hg, hgb]
                            simp
                          show wpOps P #[o] _ [0] a1 w1
                          simp only [wpOps, List.getElem?_toArray, List.getElem?_cons_zero, hw, if_true]
                          refine .inl ?_
                          unfold Oper.wp
                          rw [hrun]
                          simp only [Oper.upon, hdst, Act.put]
                          have hA2 : AR fn.ntmps [{ target := .fn (.func g2) #[], args := #[cV σ1 d] }] σ1 st.tm st.h.length { a1 with defers := { target := .fn (.func g2) #[], args := #[cV σ1 d] } :: a1.defers } :=
                            ⟨ha1.act.size, ha1.act.val, ha1.act.sc, by simp [ha1.act.df]⟩
                          refine exec_ok (W0 := W0) (S := S) hnum hcall hmix loops d1 he ha1.rel hA2 (panicOK_defers P fn R) ?_
                          intro e st' he' hx' σ2 a2 w2 ha2
                          have hdx : cV σ2 d = cV σ1 d := cV_ext ha2.ext d hd2
                          have go : ∀ (v : Value) (u u' : FrameMode), doCatch P loops callK gn s c2 d v st' fn k = some r → scV st'.h.length v = true → u ≠ .run → settle u' = .returning →
                              ((u = .returning ∧ u' = .returning ∧ v = .nilIface) ∨ (u = .panicking [{ v := cV σ2 v, recovered := false }] ∧ u' = .panicking [{ v := cV σ2 v, recovered := true }])) → Leaves P fn a2.tmps R a2.defers u w2 := by
                            intro v u u' hdo hv hur hse hu
                            rw [ha2.act.df]
                            refine leaves_cons hur (hinv _ _) ?_
                            have hc := catch_ok hnum hcall hmix hg hgb hrs hres hnt hst loops hdo ha2.rel (scV_mono ha2.keep.len d hd2) hv hu
                            rw [hdx] at hc
                            refine hc.mono ?_
                            rintro e uu w3 ⟨rfl, rfl, σ3, h3, e3, k3, r3, f3⟩
                            obtain ⟨v, q1, q2, q3⟩ := fin_ok (st := ⟨st'.tm, h3⟩) r3 (ha2.act.ext e3 k3.len) f3
                            simp only [hse, Leaves]
                            exact ⟨_, q1, hk (.ret v) h3 q3 σ3 w3 (ha1.ext.trans (ha2.ext.trans e3 ha2.keep.len) ha1.keep.len) (ha1.keep.trans (ha2.keep.trans k3)) r3 q2⟩
                          cases e with
                          | exit i => cases he'
                          | normal => exact go _ _ _ he' rfl (by simp) rfl (.inl ⟨rfl, rfl, rfl⟩)
                          | ret => exact go _ _ _ he' rfl (by simp) rfl (.inl ⟨rfl, rfl, rfl⟩)
                          | pan v => exact go v _ _ he' hx' (by simp) (by rfl) (.inr ⟨rfl, rfl⟩)
                        · cases hdop
                      · cases hdop
                    · cases hdop
                  · cases he
              · cases hsh
            · cases hsh
          · cases h
        · cases h
      · cases h
    · cases h

include hnum hmix in
theorem run_ok {tbl : FuncId → Option (List Value → AH → (Out → AH → Res) → Res)} (ht : TblOK P tbl) (loops : Nat) : ∀ n, CallOK P (run P tbl loops n) := by
  intro n
  induction n with
  | zero => intro f args H k r h; simp [run] at h
  | succ n ih =>
    intro f args H k r h W0 S R σ w hR hargs hk
    unfold run at h
    split at h
    · rename_i s hs
      exact ht f s hs f args H k r (by simpa using h) W0 S R σ w hR hargs hk
    · split at h
      · rename_i fn hfn
        split at h
        · rename_i c hc
          split at h
          · rename_i hlen
            exact doBody_ok hnum ih hmix loops hfn hc h hlen hR hargs hk
          · cases h
        · cases h
      · cases h
end
end Go.RX
