/- All code that the executor takes: what it computes of a call, the machine computes in whatever memory. -/
import Derived.Test.YtnidbincddpaaaaE10
import Derived.Defers
import Derived.Recover
namespace Go.RX
open Go Go.RowKit

section
variable {P : Program} {W0 : World} {S : Nat → Prop} {N : Nat} {K : List Tmp} {D : List Deferred} {callK : CallK}
variable (hnum : ∀ (f : FuncId) (fn : Func), P.funcs[f]? = some fn → (fn.name == "runtime.NumGoroutine") = false)
variable (hcall : CallOK P callK)

theorem rdIds_pure {tm : Tm} {op : Op} (h : reader op = false) : rdIds tm op = [] := by
  cases op <;> first | rfl | (simp [reader] at h)

theorem put_defers (a : Act) (d : Option Tmp) (v : Value) : (a.put d v).defers = a.defers := by cases d <;> rfl

theorem put_keeps {d : Option Tmp} (h : keeps K d = true) (a : Act) (v : Value) : ∀ t ∈ K, (a.put d v).tmps.getD t undef = a.tmps.getD t undef := by
  intro t ht
  cases d with
  | none => rfl
  | some d =>
    have hne : ¬ d = t := by
      rintro rfl
      simp [keeps, ht] at h
    simp [Act.put, Array.getD_eq_getD_getElem?, hne]

theorem find_takeOK {ops : Array Oper} {listed : Array Bool} {late : Bool} {rs : List Nat} {i : Nat} (h : rs.find? (takeOK P K ops listed late) = some i) :
    i ∈ rs ∧ ∃ o, ops[i]? = some o ∧ light P o.op = true ∧ (late = true → reader o.op = false) ∧ keeps K o.dst = true ∧ Region.free .any ops listed i = true := by
  have h1 := List.mem_of_find?_eq_some h
  have h2 := List.find?_some h
  refine ⟨h1, ?_⟩
  unfold takeOK at h2
  split at h2
  · rename_i o ho
    simp only [Bool.and_eq_true, Bool.not_eq_true', Bool.and_eq_false_iff] at h2
    exact ⟨o, ho, h2.1.1.1, fun hl => h2.1.1.2.resolve_left (by simp [hl]), h2.1.2, h2.2⟩
  · cases h2

/-- What comes behind an operation in a plan. -/
def nextK (k : KX) (go : Tm → AH → Res) : KX := fun e tm' H' => match e with | .normal => go tm' H' | e => k e tm' H'

theorem doPlan_light {ops : Array Oper} {o : Oper} {l : List (Oper × Kind)} {F : List Nat} {tm : Tm} {H : AH} {k : KX} : doPlan P N callK ops ((o, .light) :: l) F tm H k =
    guarded N ops o tm (fun tm => opK P tm H o.op (fun v _ => putK N tm o.dst v fun tm' => doPlan P N callK ops l (lapp (rdIds tm o.op) F) tm' H k) (fun _ _ => none) (fun _ _ _ => none)) (fun tm => putK N tm o.dst undef fun tm' => doPlan P N callK ops l F tm' H k) := rfl
theorem doPlan_late {ops : Array Oper} {o : Oper} {l : List (Oper × Kind)} {F : List Nat} {tm : Tm} {H : AH} {k : KX} : doPlan P N callK ops ((o, .late) :: l) F tm H k =
    guarded N ops o tm (fun tm => doOp P N callK o tm H fun e tm' H' => match e with | .normal => doPlan P N callK ops l [] tm' H' k | e => k e tm' H') (fun tm => putK N tm o.dst undef fun tm' => doPlan P N callK ops l [] tm' H k) := rfl
theorem doPlan_early {ops : Array Oper} {o : Oper} {l : List (Oper × Kind)} {F : List Nat} {tm : Tm} {H : AH} {k : KX} : doPlan P N callK ops ((o, .early) :: l) F tm H k =
    guarded N ops o tm (fun tm => doOp P N callK o tm (frz F H) fun e tm' H' => match e with | .normal => doPlan P N callK ops l F tm' (RX.thaw F H H') k | e => k e tm' (RX.thaw F H H')) (fun tm => putK N tm o.dst undef fun tm' => doPlan P N callK ops l F tm' H k) := rfl

include hnum hcall in
/-- Behind a late operation: nothing is read any more but by heavy operations. -/
theorem plan_late {ops : Array Oper} (hsel : Region.noSelect ops = true) : ∀ (n : Nat) (listed : Array Bool) (l : List (Oper × Kind)), plan P K ops n listed true = some l → ∀ (F : List Nat) {tm : Tm} {H : AH} {k : KX} {r : Out × AH}, doPlan P N callK ops l F tm H k = some r →
    ∀ {σ : Nat → Loc} {a : Act} {w : World}, Rel P W0 S σ H w → AR N D σ tm H.size a → ∀ {Q : Exit → Act → World → Prop}, PanicOK K Q → KOK P W0 S N D H σ r k Q → wpAny P .any ops Q n listed a w := by
  intro n
  induction n with
  | zero =>
    intro listed l hl F tm H k r h σ a w hR hA Q hp hk
    unfold plan at hl
    split at hl
    · rename_i hr
      injection hl with hl; subst hl
      exact ⟨hr, hk .normal tm H h trivial σ a w ⟨Ext.refl _ _, Keep.refl _, hR, hA⟩⟩
    · cases hl
  | succ n ih =>
    intro listed l hl F tm H k r h σ a w hR hA Q hp hk
    unfold plan at hl
    split at hl
    · rename_i i hfind
      obtain ⟨hmem, o, ho, hli, hrd, hkp, hfree⟩ := find_takeOK hfind
      have hrd := hrd rfl
      simp only [ho] at hl
      split at hl
      · rename_i l' hl'
        injection hl with hl; subst hl
        rw [doPlan_light] at h
        have pq : ∀ (v : Value) (c : List PanicEntry) (a : Act) (w : World), Q (.panic c) (a.put o.dst v) w → Q (.panic c) a w := fun v c a w hh => hp c (a.put o.dst v) a w (put_defers a o.dst v).symm (fun t ht => (put_keeps hkp a v t ht).symm) hh
        rcases guarded_ok h hA with ⟨hw, tm1, hA1, h1⟩ | ⟨hw, tm1, hA1, h1⟩
        · obtain ⟨out, hop, h2⟩ := opK_way hA1.tmsc h1
          obtain ⟨v, rfl, h3, hsv⟩ := light_out hR hA1 hli hop h2
          obtain ⟨tm2, htm, h4⟩ := putK_some h3
          have hput := hA1.put htm hsv
          have hy : Yields P ops o (cV σ v) a := .inl ⟨hw, fun w' => (light_yields (F := []) (fun i hi => by cases hi) hR.sc hR.sp hA1 o hli (by rw [rdIds_pure hrd]; simp) hop).1⟩
          exact wpAny_first ho (Region.noSelect_spec hsel) (pq _) n listed a w (Region.free_spec ho hfree) hmem hy (ih _ _ hl' _ h4 hR hput hp hk)
        · obtain ⟨tm2, h2, hput⟩ := skip_ok (H := H) h1 hA1
          have hy : Yields P ops o undef a := .inr ⟨hw, rfl⟩
          exact wpAny_first ho (Region.noSelect_spec hsel) (pq _) n listed a w (Region.free_spec ho hfree) hmem hy (ih _ _ hl' _ h2 hR hput hp hk)
      · cases hl
    · split at hl
      · rename_i hr
        injection hl with hl; subst hl
        exact ⟨fun _ => hk .normal tm H h trivial σ a w ⟨Ext.refl _ _, Keep.refl _, hR, hA⟩, by rw [hr]; simp⟩
      · rename_i i hr
        refine ⟨fun h0 => (by rw [hr] at h0; cases h0), fun j hj => ?_⟩
        rw [hr] at hj
        obtain rfl : j = i := by simpa using hj
        split at hl
        · rename_i o ho
          simp only [Bool.true_or, cond_true] at hl
          split at hl
          · rename_i l' hl'
            injection hl with hl; subst hl
            rw [doPlan_late] at h
            unfold wpOp
            simp only [ho]
            rcases guarded_ok h hA with ⟨hw, tm1, hA1, h1⟩ | ⟨hw, tm1, hA1, h1⟩
            · rw [if_pos hw]
              refine .inl (doOp_ok hnum hcall h1 hR hA1 ?_)
              intro e tm' H' he hx σ' a' w' ha
              cases e with
              | normal => exact ih _ _ hl' _ he ha.rel ha.act hp (hk.from ha.ext ha.keep)
              | exit id => exact hk _ _ _ he hx σ' a' w' ha
              | ret => exact hk _ _ _ he hx σ' a' w' ha
              | pan v => exact hk _ _ _ he hx σ' a' w' ha
            · rw [if_neg (by simp [hw])]
              obtain ⟨tm2, h2, hput⟩ := skip_ok (H := H) h1 hA1
              exact ih _ _ hl' _ h2 hR hput hp hk
          · cases hl
        · cases hl
      · cases hl

/-- The late operations of a region, by number. -/
def lateI (P : Program) (ops : Array Oper) (i : Nat) : Bool := match ops[i]? with | some o => lateB P ops o | none => false

include hnum hcall in
theorem plan_ok {ops : Array Oper} (hsel : Region.noSelect ops = true) : ∀ (n : Nat) (listed : Array Bool) (l : List (Oper × Kind)), plan P K ops n listed false = some l → ∀ (F : List Nat) {tm : Tm} {H : AH} {k : KX} {r : Out × AH}, doPlan P N callK ops l F tm H k = some r →
    ∀ {σ : Nat → Loc} {a : Act} {w : World}, Rel P W0 S σ H w → AR N D σ tm H.size a → ∀ {Q : Exit → Act → World → Prop}, PanicOK K Q → KOK P W0 S N D H σ r k Q →
      ∃ Sw : World → Prop, Sw w ∧ (∀ w', Sw w' → Facts F H σ w') ∧ wpAnyL P ops Q Sw (lateI P ops) n listed a w := by
  intro n
  induction n with
  | zero =>
    intro listed l hl F tm H k r h σ a w hR hA Q hp hk
    unfold plan at hl
    split at hl
    · rename_i hr
      injection hl with hl; subst hl
      exact ⟨Facts F H σ, hR.facts F, fun _ hh => hh, hr, hk .normal tm H h trivial σ a w ⟨Ext.refl _ _, Keep.refl _, hR, hA⟩⟩
    · cases hl
  | succ n ih =>
    intro listed l hl F tm H k r h σ a w hR hA Q hp hk
    unfold plan at hl
    split at hl
    · rename_i i hfind
      obtain ⟨hmem, o, ho, hli, _, hkp, hfree⟩ := find_takeOK hfind
      simp only [ho] at hl
      have hlI : lateI P ops i = false := by simp [lateI, ho, lateB, hli]
      split at hl
      · rename_i l' hl'
        injection hl with hl; subst hl
        rw [doPlan_light] at h
        have pq : ∀ (v : Value) (c : List PanicEntry) (a : Act) (w : World), Q (.panic c) (a.put o.dst v) w → Q (.panic c) a w := fun v c a w hh => hp c (a.put o.dst v) a w (put_defers a o.dst v).symm (fun t ht => (put_keeps hkp a v t ht).symm) hh
        rcases guarded_ok h hA with ⟨hw, tm1, hA1, h1⟩ | ⟨hw, tm1, hA1, h1⟩
        · obtain ⟨out, hop, h2⟩ := opK_way hA1.tmsc h1
          obtain ⟨v, rfl, h3, hsv⟩ := light_out hR hA1 hli hop h2
          obtain ⟨tm2, htm, h4⟩ := putK_some h3
          have hput := hA1.put htm hsv
          rw [lapp_eq] at h4
          obtain ⟨Sw, hS1, hS2, hS3⟩ := ih _ _ hl' _ h4 hR hput hp hk
          have hfacts : ∀ w', Sw w' → Facts (rdIds tm1 o.op) H σ w' := fun w' hw' => (hS2 w' hw').mono (fun j hj => List.mem_append_left _ hj)
          refine ⟨Sw, hS1, fun w' hw' => (hS2 w' hw').mono (fun j hj => List.mem_append_right _ hj), ?_⟩
          have hy : YieldsIf P ops Sw o (cV σ v) a := .inl ⟨hw, fun w' hw' => (light_yields (hfacts w' hw') hR.sc hR.sp hA1 o hli (fun _ hj => hj) hop).1⟩
          refine wpAnyL_first ho hsel (pq _) n listed a w (Region.free_spec ho hfree) hmem hy hS1 ?_ hlI hS3
          cases hrd : reader o.op with
          | false => exact .inl (.inl ⟨hw, fun w' => (light_yields (F := []) (fun i hi => by cases hi) hR.sc hR.sp hA1 o hli (by rw [rdIds_pure hrd]; simp) hop).1⟩)
          | true =>
            right
            intro j oj hj hlj
            simp only [lateI, hj, lateB, Bool.and_eq_true] at hlj
            have h3 := List.all_eq_true.1 hlj.2 i (by
              have : i < ops.size := (Array.getElem?_eq_some_iff.1 ho).1
              simpa using this)
            simp only [ho, hrd, Bool.not_true, Bool.false_or, List.any_eq_true, Bool.and_eq_true, beq_iff_eq] at h3
            obtain ⟨e, he, hb, heq⟩ := h3
            exact ⟨e, by simpa using he, hb, heq⟩
        · obtain ⟨tm2, h2, hput⟩ := skip_ok (H := H) h1 hA1
          obtain ⟨Sw, hS1, hS2, hS3⟩ := ih _ _ hl' _ h2 hR hput hp hk
          have hy : Yields P ops o undef a := .inr ⟨hw, rfl⟩
          exact ⟨Sw, hS1, hS2, wpAnyL_first ho hsel (pq _) n listed a w (Region.free_spec ho hfree) hmem hy.yieldsIf hS1 (.inl hy) hlI hS3⟩
      · cases hl
    · split at hl
      · rename_i hr
        injection hl with hl; subst hl
        exact ⟨Facts F H σ, hR.facts F, fun _ hh => hh, fun _ => hk .normal tm H h trivial σ a w ⟨Ext.refl _ _, Keep.refl _, hR, hA⟩, by rw [hr]; simp⟩
      · rename_i i hr
        refine ⟨Facts F H σ, hR.facts F, fun _ hh => hh, fun h0 => (by rw [hr] at h0; cases h0), fun j hj => ?_⟩
        rw [hr] at hj
        obtain rfl : j = i := by simpa using hj
        split at hl
        · rename_i o ho
          have hlI : lateI P ops j = lateB P ops o := by simp [lateI, ho]
          unfold wpOp
          simp only [ho, hlI]
          simp only [Bool.false_or] at hl
          cases hlate : lateB P ops o with
          | true =>
            simp only [hlate, cond_true] at hl
            simp only [if_true]
            split at hl
            · rename_i l' hl'
              injection hl with hl; subst hl
              rw [doPlan_late] at h
              rcases guarded_ok h hA with ⟨hw, tm1, hA1, h1⟩ | ⟨hw, tm1, hA1, h1⟩
              · rw [if_pos hw]
                refine .inl (doOp_ok hnum hcall h1 hR hA1 ?_)
                intro e tm' H' he hx σ' a' w' ha
                cases e with
                | normal => exact plan_late hnum hcall hsel n _ _ hl' _ he ha.rel ha.act hp (hk.from ha.ext ha.keep)
                | exit id => exact hk _ _ _ he hx σ' a' w' ha
                | ret => exact hk _ _ _ he hx σ' a' w' ha
                | pan v => exact hk _ _ _ he hx σ' a' w' ha
              · rw [if_neg (by simp [hw])]
                obtain ⟨tm2, h2, hput⟩ := skip_ok (H := H) h1 hA1
                exact plan_late hnum hcall hsel n _ _ hl' _ h2 hR hput hp hk
            · cases hl
          | false =>
            simp only [hlate, cond_false] at hl
            simp only [Bool.false_eq_true, if_false]
            split at hl
            · rename_i l' hl'
              injection hl with hl; subst hl
              rw [doPlan_early] at h
              rcases guarded_ok h hA with ⟨hw, tm1, hA1, h1⟩ | ⟨hw, tm1, hA1, h1⟩
              · rw [if_pos hw]
                have hRf := hR.freeze F
                have hlen := frz_size F H
                refine .inl (doOp_ok (W0 := w) (S := Own F H σ) hnum hcall h1 hRf (by rw [hlen]; exact hA1) ?_)
                intro e tm' H' he hx σ' a' w' ha
                have hext : Ext H.size σ σ' := by have := ha.ext; rwa [hlen] at this
                obtain ⟨hRt, hKt⟩ := hR.thaw ha.rel ha.keep hext
                have htl := thaw_size F H H'
                have hle : H.size ≤ H'.size := by have := ha.keep.len; rwa [hlen] at this
                cases e with
                | normal =>
                  obtain ⟨Sw, hS1, hS2, hS3⟩ := ih _ _ hl' _ he hRt (by rw [htl]; exact ha.act) hp (hk.from hext hKt)
                  have hto : ∀ w'', Sw w'' → Facts F H σ w'' := by
                    intro w'' hw'' i hi b hib hlv
                    have hil := AH.get_lt hib
                    have hit : (RX.thaw F H H').get i = some b := by
                      rw [thaw_get F H H' hle, hib]
                      simp only
                      rw [if_pos ⟨hi, hR.lm i b hib hlv⟩]
                    have f2 := hS2 w'' hw'' i hi b hit hlv
                    intro j v hjv
                    have := f2 j v hjv
                    rw [hext i hil, cS_ext hext v (hR.sc' hib v (List.mem_of_getElem? hjv))] at this
                    exact this
                  exact ⟨hto w' hS1, wpAnyL_mono hto n _ _ _ hS3⟩
                | exit id => exact hk _ _ _ he hx σ' a' w' ⟨hext, hKt, hRt, by rw [htl]; exact ha.act⟩
                | ret => exact hk _ _ _ he hx σ' a' w' ⟨hext, hKt, hRt, by rw [htl]; exact ha.act⟩
                | pan v => exact hk _ _ _ he (by rw [htl]; exact hx) σ' a' w' ⟨hext, hKt, hRt, by rw [htl]; exact ha.act⟩
              · rw [if_neg (by simp [hw])]
                obtain ⟨tm2, h2, hput⟩ := skip_ok (H := H) h1 hA1
                obtain ⟨Sw, hS1, hS2, hS3⟩ := ih _ _ hl' _ h2 hR hput hp hk
                exact ⟨hR.facts F, wpAnyL_mono hS2 n _ _ _ hS3⟩
            · cases hl
        · cases hl
      · cases hl

theorem panicOK_then {C : Act → World → Prop} {Q : Exit → Act → World → Prop} (h : PanicOK K Q) : PanicOK K (Exit.then C Q) := fun c a a' w hd hs hq => h c a a' w hd hs hq
theorem panicOK_block {id : Nat} {Q : Exit → Act → World → Prop} (h : PanicOK K Q) : PanicOK K (Exit.inBlock id Q) := fun c a a' w hd hs hq => h c a a' w hd hs hq
theorem panicOK_body (P : Program) (fn : Func) (R : Ending → World → Prop) : PanicOK K (bodyPost P fn R) := fun _ _ _ _ hd _ hq => ⟨hd.trans hq.1, hq.2⟩
theorem Rel.drawn {σ : Nat → Loc} {H : AH} {w : World} (h : Rel P W0 S σ H w) (n : Nat) : Rel P W0 S σ H { w with drawn := n } :=
  ⟨⟨h.fr.os, h.fr.tape, h.fr.output, h.fr.size, h.fr.block⟩, h.sc, h.pl, h.lt, h.sp, h.ro, h.wb, h.mp, h.lm, h.inj⟩

/-- Code whose runs tell what the machine does. -/
def CodeOK (P : Program) (N : Nat) (K : List Tmp) (D : List Deferred) (c : Code) (body : Tm → AH → KX → Res) : Prop :=
  ∀ {W0 : World} {S : Nat → Prop} {tm : Tm} {H : AH} {k : KX} {r : Out × AH}, body tm H k = some r → ∀ {σ : Nat → Loc} {a : Act} {w : World}, Rel P W0 S σ H w → AR N D σ tm H.size a → ∀ {Q : Exit → Act → World → Prop}, PanicOK K Q → KOK P W0 S N D H σ r k Q → c.wp P Q a w

theorem iter_ok {c : Code} {body : Tm → AH → KX → Res} (hb : CodeOK P N K D c body) :
    ∀ (n : Nat) {tm : Tm} {H : AH} {k : KX} {r : Out × AH}, iter n body tm H k = some r → ∀ {σ : Nat → Loc} {a : Act} {w : World}, Rel P W0 S σ H w → AR N D σ tm H.size a →
      ∀ {Q : Exit → Act → World → Prop}, PanicOK K Q → KOK P W0 S N D H σ r k Q → Code.rounds P c Q n a w := by
  intro n
  induction n with
  | zero => intro tm H k r h; cases h
  | succ n ih =>
    intro tm H k r h σ a w hR hA Q hp hk
    have h' : body tm H (fun e tm' H' => match e with | .normal => iter n body tm' H' k | e => k e tm' H') = some r := h
    rw [rounds_succ]
    refine hb h' hR hA (panicOK_then hp) ?_
    intro e tm' H' he hx σ' a' w' ha
    cases e with
    | normal => exact ih he ha.rel ha.act hp (hk.from ha.ext ha.keep)
    | exit id => exact hk _ _ _ he hx σ' a' w' ha
    | ret => exact hk _ _ _ he hx σ' a' w' ha
    | pan v => exact hk _ _ _ he hx σ' a' w' ha

/-- A way of telling loops that is true. -/
class LHGood (P : Program) (lh : LH) : Prop where
  ok : ∀ (N : Nat) (K : List Tmp) (D : List Deferred) (c : Code) (body : Tm → AH → KX → Res), CodeOK P N K D c body → CodeOK P N K D (.loop c) (lh N K c body)
theorem lhGood_nat (n : Nat) : LHGood P (OfNat.ofNat n : LH) := ⟨fun _ _ _ c body hb => by
  intro W0 S tm H k r h σ a w hR hA Q hp hk
  have h' : iter n body tm H k = some r := h
  exact wp_loop_rounds n (iter_ok (W0 := W0) (S := S) hb n h' hR hA hp hk)⟩
instance lhGood_100 : LHGood P (100 : LH) := lhGood_nat 100
variable (hmix : P.follows .mixedOrders = true)

include hnum hcall hmix in
theorem exec_ok (fuel : LH) [LHGood P fuel] : ∀ (c : Code), CodeOK P N K D c (exec P N K fuel callK c) := by
  intro c
  induction c with
  | skip =>
    intro W0 S tm H k r h σ a w hR hA Q hp hk
    exact wp_skip (hk .normal tm H h trivial σ a w ⟨Ext.refl _ _, Keep.refl _, hR, hA⟩)
  | region id ops draw =>
    intro W0 S tm H k r h σ a w hR hA Q hp hk
    have h' : (bif draw then (bif Region.noSelect ops then (match plan P K ops ops.size (Array.replicate ops.size false) false with
        | some l => doPlan P N callK ops l [] tm H k
        | none => none) else none) else doOps P N callK ops ops.toList tm H k) = some r := h
    cases draw with
    | true =>
      rw [cond_true] at h'
      obtain ⟨hsel, h'⟩ := cond_some h'
      split at h'
      · rename_i l hl
        obtain ⟨Sw, _, _, hL⟩ := plan_ok (W0 := W0) (S := S) hnum hcall hsel _ _ _ hl _ h' (hR.drawn _) hA hp hk
        exact wp_region_any hmix (wpAny_of_L _ _ _ _ hL)
      · cases h'
    | false =>
      rw [cond_false] at h'
      refine wp_region ?_
      have := doOps_ok (W0 := W0) (S := S) hnum hcall ops.toList 0 (by simp) h' hR hA hk
      rw [← List.range_eq_range', Array.length_toList] at this
      exact this
  | seq x y ihx ihy =>
    intro W0 S tm H k r h σ a w hR hA Q hp hk
    have h' : exec P N K fuel callK x tm H (fun e tm' H' => match e with | .normal => exec P N K fuel callK y tm' H' k | e => k e tm' H') = some r := h
    refine wp_seq (ihx h' hR hA (panicOK_then hp) ?_)
    intro e tm' H' he hx σ' a' w' ha
    cases e with
    | normal => exact ihy he ha.rel ha.act hp (hk.from ha.ext ha.keep)
    | exit id => exact hk _ _ _ he hx σ' a' w' ha
    | ret => exact hk _ _ _ he hx σ' a' w' ha
    | pan v => exact hk _ _ _ he hx σ' a' w' ha
  | cond x y z ihy ihz =>
    intro W0 S tm H k r h σ a w hR hA Q hp hk
    cases x with
    | tmp d =>
      have h' : (bif Nat.ble (Nat.add d 1) N then (match tm.get d with
        | some (.bool b) => bif b then exec P N K fuel callK y (tm.set d (.bool true)) H k else exec P N K fuel callK z (tm.set d (.bool false)) H k
        | _ => none) else none) = some r := h
      obtain ⟨_, h'⟩ := cond_some h'
      split at h'
      · rename_i b hb
        have he : a.eval (.tmp d) = .bool b := hA.val d _ hb
        cases b with
        | true => exact wp_cond_true he (ihy (by simpa using h') hR (hA.known hb) hp hk)
        | false => exact wp_cond_false he (ihz (by simpa using h') hR (hA.known hb) hp hk)
      · cases h'
    | const v => cases h
    | global g => cases h
    | func f => cases h
  | block id c ih =>
    intro W0 S tm H k r h σ a w hR hA Q hp hk
    have h' : exec P N K fuel callK c tm H (fun e tm' H' => match e with
      | .exit i => bif Nat.beq i id then k .normal tm' H' else k (.exit i) tm' H'
      | e => k e tm' H') = some r := h
    refine wp_block (ih h' hR hA (panicOK_block hp) ?_)
    intro e tm' H' he hx σ' a' w' ha
    cases e with
    | normal => exact hk _ _ _ he hx σ' a' w' ha
    | exit i =>
      simp only at he
      cases hi : Nat.beq i id with
      | true =>
        rw [hi, cond_true] at he
        rw [Nat.beq_eq] at hi
        subst hi
        have := hk _ _ _ he trivial σ' a' w' ha
        simpa [xexit, Exit.inBlock] using this
      | false =>
        rw [hi, cond_false] at he
        have hne : ¬ i = id := fun e => by rw [← Nat.beq_eq, hi] at e; cases e
        have := hk _ _ _ he trivial σ' a' w' ha
        simpa [xexit, Exit.inBlock, hne] using this
    | ret => exact hk _ _ _ he hx σ' a' w' ha
    | pan v => exact hk _ _ _ he hx σ' a' w' ha
  | loop c ih =>
    intro W0 S tm H k r h σ a w hR hA Q hp hk
    exact LHGood.ok N K D c _ ih (lh := fuel) h hR hA hp hk
  | ret =>
    intro W0 S tm H k r h σ a w hR hA Q hp hk
    exact wp_ret (hk .ret tm H h trivial σ a w ⟨Ext.refl _ _, Keep.refl _, hR, hA⟩)
  | exit i =>
    intro W0 S tm H k r h σ a w hR hA Q hp hk
    exact wp_exit (hk (.exit i) tm H h trivial σ a w ⟨Ext.refl _ _, Keep.refl _, hR, hA⟩)
  | _ => intro W0 S tm H k r h; cases h

theorem initTm_get (args : List Value) : ∀ (n : Nat) (tm : Tm) (t : Nat), (initTm args n tm).get t = if n ≤ t ∧ t < n + args.length then args[t - n]? else tm.get t := by
  induction args with
  | nil => intro n tm t; rw [if_neg (by rw [List.length_nil]; omega)]; rfl
  | cons v vs ih =>
    intro n tm t
    show (initTm vs (n + 1) (tm.set n v)).get t = _
    rw [ih, Tr.get_set]
    by_cases h : n = t
    · subst h
      rw [if_neg (by omega), if_pos rfl, if_pos ⟨Nat.le_refl _, by simp⟩, Nat.sub_self]
      rfl
    · rw [if_neg h]
      by_cases h2 : n ≤ t ∧ t < n + (v :: vs).length
      · have hl : t < n + 1 + vs.length := by have := h2.2; simp at this; omega
        rw [if_pos ⟨by omega, hl⟩, if_pos h2]
        have : t - n = (t - (n + 1)) + 1 := by omega
        rw [this, List.getElem?_cons_succ]
      · rw [if_neg h2, if_neg (by intro h3; apply h2; rw [List.length_cons]; omega)]

theorem initAR {σ : Nat → Loc} {args : List Value} {n N : Nat} (hN : args.length ≤ N) (hs : ∀ v ∈ args, scV n v = true) :
    AR N [] σ (initTm args 0 .e) n { tmps := (args.map (cV σ)).toArray ++ Array.replicate (N - (args.map (cV σ)).toArray.size) undef, defers := [] } := by
  have key : ∀ t v, (initTm args 0 .e).get t = some v → args[t]? = some v := by
    intro t v hv
    rw [initTm_get] at hv
    split at hv
    · simpa using hv
    · cases hv
  refine ⟨by simp; omega, fun t v hv => ?_, fun t v hv => hs v (List.mem_of_getElem? (key t v hv)), rfl⟩
  have hv := key t v hv
  have ht := (List.getElem?_eq_some_iff.1 hv).1
  simp only [Array.getD_eq_getD_getElem?]
  rw [Array.getElem?_append_left (by simpa using ht)]
  simp [hv]

theorem resv_run {W0 : World} {S : Nat → Prop} {σ : Nat → Loc} {tm : Tm} {H : AH} {a : Act} {w : World} (hR : Rel P W0 S σ H w) (hA : AR N D σ tm H.size a) : ∀ {rs : List ResultVar} {vs : List Value}, resv P tm H rs = some vs →
    (rs.mapM fun | .tmp t => Pure.pure (a.tmps.getD t undef) | .cell b t => do loadVar t (← asAddr (a.tmps.getD b undef)) : Sem (List Value)).run P w = .ok (vs.map (cV σ)) w ∧ ∀ v ∈ vs, scV H.size v = true := by
  intro rs
  induction rs with
  | nil => intro vs h; simp [resv] at h; subst h; exact ⟨rfl, by simp⟩
  | cons x r ih =>
    intro vs h
    rw [List.mapM_cons]
    cases x with
    | tmp t =>
      unfold resv at h
      split at h
      · rename_i u ws hu hws
        injection h with h; subst h
        obtain ⟨h1, h2⟩ := ih hws
        refine ⟨?_, fun v hv => ?_⟩
        · simp only [Sem.run_bind, Sem.run_pure, Result.andThen_ok]
          rw [h1, hA.val t _ hu]
          rfl
        · rcases List.mem_cons.1 hv with rfl | hv
          · exact hA.sc t _ hu
          · exact h2 v hv
      · cases h
    | cell b t =>
      unfold resv at h
      split at h
      · rename_i p hp
        split at h
        · rename_i u ws hu hws
          injection h with h; subst h
          obtain ⟨h1, h2⟩ := ih hws
          obtain ⟨h3, h4⟩ := aload_run (P := P) hR.sc (fun _ _ => hR.known _) hu
          refine ⟨?_, fun v hv => ?_⟩
          · have h5 : (do loadVar t (← asAddr (a.tmps.getD b undef)) : Sem Value).run P w = .ok (cV σ u) w := by
              rw [hA.val b _ hp]
              unfold aload at hu
              split at hu
              · exact h3
              · cases hu
            simp only [Sem.run_bind] at h5 ⊢
            rw [h5]
            simp only [Result.andThen_ok]
            rw [h1]
            rfl
          · rcases List.mem_cons.1 hv with rfl | hv
            · exact h4
            · exact h2 v hv
        · cases h
      · cases h

theorem outv_conc (σ : Nat → Loc) (n : Nat) (vs : List Value) (hs : ∀ v ∈ vs, scV n v = true) (h1 : outOK n vs = true) : cV σ (outv vs) = (if h : (vs.map (cV σ)).toArray.size = 1 then (vs.map (cV σ)).toArray[0] else .tuple (vs.map (cV σ)).toArray) ∧ scV n (outv vs) = true := by
  match vs with
  | [v] => exact ⟨rfl, hs v (by simp)⟩
  | [] => exact ⟨by simp [outv, cV], rfl⟩
  | u :: v :: r => 
    have hall : ∀ x ∈ u :: v :: r, scT n x = true := fun x hx => List.all_eq_true.1 h1 x hx
    refine ⟨?_, List.all_eq_true.2 fun x hx => hall x (by simpa [outv] using hx)⟩
    have hne : ¬ ((u :: v :: r).map (cV σ)).toArray.size = 1 := by simp
    rw [dif_neg hne]
    simp only [outv, cV]
    congr 1
    apply Array.toList_inj.1
    simp only [Array.toList_map]
    refine List.map_congr_left fun x hx => ?_
    exact (cV_of_scT (hall x hx)).symm

/-- The table's ways of telling calls. -/
def TblOK (P : Program) (tbl : Tbl) : Prop :=
  ∀ (f : FuncId) (s : List Value → AH → (Out → AH → Res) → Res), tbl f = some s → CallOK P (fun g args H k => if g = f then s args H k else none)

/-- What a function yields. -/
theorem fin_ok {W0 : World} {S : Nat → Prop} {σ : Nat → Loc} {fn : Func} {tm : Tm} {H : AH} {a : Act} {w : World} {k : Out → AH → Res} {r : Out × AH} (hR : Rel P W0 S σ H w) (hA : AR N D σ tm H.size a) (h : fin P fn tm H k = some r) :
    ∃ v, (results fn a.tmps).run P w = .ok (cV σ v) w ∧ scV H.size v = true ∧ k (.ret v) H = some r := by
  unfold fin at h
  split at h
  · rename_i vs hvs
    obtain ⟨ho, h⟩ := cond_some h
    obtain ⟨h1, h2⟩ := resv_run hR hA hvs
    obtain ⟨h3, h4⟩ := outv_conc σ H.size vs h2 ho
    refine ⟨outv vs, ?_, h4, h⟩
    unfold results
    rw [Array.mapM_eq_mapM_toList, Sem.run_bind, Sem.run_map]
    refine (congrArg (fun q : Result (List Value) => (q.andThen fun a w'' => Result.ok a.toArray w'').andThen fun vs w'' => Sem.run P (Pure.pure (if h : vs.size = 1 then vs[0] else .tuple vs)) w'') h1).trans ?_
    simp only [Result.andThen_ok, Sem.run_pure]
    rw [← h3]
  · cases h

theorem results_congr {fn : Func} {t t' : Array Value} (h : ∀ s ∈ rslots fn.results.toList, t'.getD s undef = t.getD s undef) : results fn t' = results fn t := by
  unfold results
  rw [Array.mapM_eq_mapM_toList, Array.mapM_eq_mapM_toList]
  have : ∀ rs : List ResultVar, (∀ s ∈ rslots rs, t'.getD s undef = t.getD s undef) →
      (rs.mapM fun | .tmp s => Pure.pure (t'.getD s undef) | .cell b T => do loadVar T (← asAddr (t'.getD b undef)) : Sem (List Value)) =
      (rs.mapM fun | .tmp s => Pure.pure (t.getD s undef) | .cell b T => do loadVar T (← asAddr (t.getD b undef)) : Sem (List Value)) := by
    intro rs
    induction rs with
    | nil => intro _; rfl
    | cons x rs ih =>
      intro hs
      rw [List.mapM_cons, List.mapM_cons]
      cases x with
      | tmp s => rw [ih (fun q hq => hs q (by simp [rslots, hq]))]; simp only [hs s (by simp [rslots])]
      | cell b T => rw [ih (fun q hq => hs q (by simp [rslots, hq]))]; simp only [hs b (by simp [rslots])]
  exact congrArg (fun q : Sem (List Value) => (do let vs ← List.toArray <$> q; Pure.pure (if h : vs.size = 1 then vs[0] else .tuple vs) : Sem Value)) (this _ h)

theorem leaves_congr {fn : Func} {t t' : Array Value} {R : Ending → World → Prop} (h : results fn t' = results fn t) : ∀ (ds : List Deferred) (u : FrameMode) (w : World), Leaves P fn t R ds u w → Leaves P fn t' R ds u w := by
  intro ds
  induction ds with
  | nil =>
    intro u w hl
    cases u with
    | run => exact hl
    | returning => simp only [Leaves] at hl ⊢; rw [h]; exact hl
    | panicking c => exact hl
  | cons d ds ih =>
    intro u w hl
    obtain ⟨h1, fv, cap, f, args, h2, h3, h4⟩ := hl
    refine ⟨h1, fv, cap, f, args, h2, h3, h4.mono fun e u' w' he => ?_⟩
    cases e with
    | returned v => exact ih _ _ he
    | panicked c => exact ih _ _ he
    | outgrown => exact he

theorem panicOK_defers (P : Program) (fn : Func) (R : Ending → World → Prop) : PanicOK (rslots fn.results.toList) (bodyPostD P fn R) := fun c a a' w hd hs hq => by
  simp only [bodyPostD] at hq ⊢
  rw [hd]
  exact leaves_congr (results_congr hs) _ _ _ hq

include hnum hcall hmix in
/-- The deferred function: what it recovers, what it does. -/
theorem catch_ok {W0 : World} {S : Nat → Prop} {g : FuncId} {gn : Func} {gb c2 : Code} {s : Tmp} (hg : P.funcs[g]? = some gn) (hgb : gn.body = some gb) (hsh : rshape gb = some (s, c2)) (hres : gn.results.toList = []) (hnt : 1 ≤ gn.ntmps) (hst : s < gn.ntmps)
    (loops : LH) [LHGood P loops] {d v : Value} {σ : Nat → Loc} {tm : Tm} {H : AH} {w : World} {fn : Func} {k : Out → AH → Res} {r : Out × AH} (h : doCatch P loops callK gn s c2 d v tm H fn k = some r)
    (hR : Rel P W0 S σ H w) (hd : scV H.size d = true) (hv : scV H.size v = true) {u u' : FrameMode}
    (hu : (u = .returning ∧ u' = .returning ∧ v = .nilIface) ∨ (u = .panicking [{ v := cV σ v, recovered := false }] ∧ u' = .panicking [{ v := cV σ v, recovered := true }])) :
    CallsD P g #[cV σ d] u w fun e uu w' => e = .returned (.tuple #[]) ∧ uu = u' ∧ ∃ σ' h', Ext H.size σ σ' ∧ Keep H h' ∧ Rel P W0 S σ' h' w' ∧ fin P fn tm h' k = some r := by
  unfold rshape at hsh
  split at hsh
  · rename_i id ops c
    split at hsh
    · rename_i s' hrop
      injection hsh with hsh
      injection hsh with e1 e2
      subst e1 e2
      unfold rop at hrop
      split at hrop
      · rename_i o hops
        split at hrop
        · rename_i cc s1 hop hgd hdst
          split at hrop
          · rename_i hcal hargs
            injection hrop with e1; subst e1
            have hops' : ops = #[o] := by apply Array.toList_inj.1; rw [hops]
            subst hops'
            have hrun : ∀ (ρ : Operand → Value) w, (execOp ρ o).run P w = .ok .recover w := by
              intro ρ w
              have ha : cc.args = #[] := by apply Array.toList_inj.1; rw [hargs]
              simp [execOp, hop, resolve, hcal, ha, invoke, builtin]
            refine callsD_of_wpS hg hgb fun c₀ cs hmode => ?_
            refine wpS_seq (wpS_region ?_)
            have hA0 := initAR (N := gn.ntmps) (n := H.size) (σ := σ) (args := [d]) (by simpa using hnt) (by simpa using hd)
            have hA1 := hA0.put (dst := some s1) (tm' := (initTm [d] 0 .e).set s1 v) (by simp [putv, ble_lt, hst]) hv
            have hrest : ∀ cs', cs' = { c₀ with mode := u' } :: cs → Code.wpS P c (bodyPostS P gn c₀ cs fun e uu w' => e = .returned (.tuple #[]) ∧ uu = u' ∧ ∃ σ' h', Ext H.size σ σ' ∧ Keep H h' ∧ Rel P W0 S σ' h' w' ∧ fin P fn tm h' k = some r)
                (Act.put { tmps := ([d].map (cV σ)).toArray ++ Array.replicate (gn.ntmps - ([d].map (cV σ)).toArray.size) undef, defers := [] } (some s1) (cV σ v)) cs' w := by
              intro cs' hcs'
              refine wpS_of_wp ?_
              unfold doCatch at h
              refine exec_ok (W0 := W0) (S := S) hnum hcall hmix loops c (K := []) h hR hA1 (fun _ a a' _ hd _ hq => ⟨hd.trans hq.1, hq.2⟩) ?_
              intro e tm2 H2 he hx σ' a' w' ha
              have fin' : fin P fn tm H2 k = some r → bodyPostS P gn c₀ cs (fun e uu w' => e = .returned (.tuple #[]) ∧ uu = u' ∧ ∃ σ' h', Ext H.size σ σ' ∧ Keep H h' ∧ Rel P W0 S σ' h' w' ∧ fin P fn tm h' k = some r) .ret a' cs' w' := by
                intro hf
                refine ⟨ha.act.df, u', hcs', .tuple #[], ?_, rfl, rfl, σ', H2, ha.ext, ha.keep, ha.rel, hf⟩
                have : gn.results = #[] := by apply Array.toList_inj.1; rw [hres]
                simp [results, this]
              cases e with
              | normal => exact fin' he
              | ret => exact fin' he
              | exit i => cases he
              | pan v => cases he
            have hw : Region.wanted o (yielded #[o] (Array.replicate 0 undef)) = true := by simp [Region.wanted, hgd]
            have hw : ∀ t, Region.wanted o (yielded #[o] t) = true := fun t => by simp [Region.wanted, hgd]
            show wpOpsS P #[o] _ [0] _ _ _
            unfold wpOpsS
            simp only [List.getElem?_toArray, List.getElem?_cons_zero, hw, if_true, hrun, hdst]
            rcases hu with ⟨rfl, rfl, rfl⟩ | ⟨rfl, rfl⟩
            · have hrec : recoverD (c₀ :: cs) = none := by simp [recoverD, hmode]
              simp only [hrec]
              exact hrest _ (by rw [← hmode])
            · have hrec : recoverD (c₀ :: cs) = some (cV σ v, { c₀ with mode := .panicking [{ v := cV σ v, recovered := true }] } :: cs) := by simp [recoverD, hmode]
              simp only [hrec]
              exact hrest _ rfl
          · cases hrop
        · cases hrop
      · cases hrop
    · cases hsh
  · cases hsh

include hnum hcall hmix in
theorem doBody_ok (loops : LH) [LHGood P loops] {f : FuncId} {fn : Func} {c : Code} (hfn : P.funcs[f]? = some fn) (hc : fn.body = some c) {args : List Value} {H : AH} {k : Out → AH → Res} {r : Out × AH} (h : doBody P loops callK fn c args H k = some r)
    (hlen : args.length ≤ fn.ntmps) {W0 : World} {S : Nat → Prop} {R : Ending → World → Prop} {σ : Nat → Loc} {w : World} (hR : Rel P W0 S σ H w) (hargs : ∀ v ∈ args, scV H.size v = true)
    (hk : ∀ o H', k o H' = some r → ∀ σ' w', Ext H.size σ σ' → Keep H H' → Rel P W0 S σ' H' w' → osc H'.size o → R (ending σ' o) w') : Calls P f (args.map (cV σ)).toArray w R := by
  unfold doBody at h
  split at h
  · refine calls_of_wp hfn hc ?_
    refine exec_ok (W0 := W0) (S := S) hnum hcall hmix loops c h hR (initAR hlen hargs) (panicOK_body _ _ _) ?_
    intro e tm' H' he hx σ' a' w' ha
    have fin' : fin P fn tm' H' k = some r → a'.defers = [] ∧ ∃ v, (results fn a'.tmps).run P w' = .ok v w' ∧ R (.returned v) w' := by
      intro hf
      obtain ⟨v, h1, h2, h3⟩ := fin_ok ha.rel ha.act hf
      exact ⟨ha.act.df, _, h1, hk (.ret v) H' h3 σ' w' ha.ext ha.keep ha.rel h2⟩
    cases e with
    | normal => exact fin' he
    | ret => exact fin' he
    | exit i => cases he
    | pan v => exact ⟨ha.act.df, hk (.pan v) H' he σ' w' ha.ext ha.keep ha.rel hx⟩
  · rename_i c0 g x c1 hsh
    split at h
    · rename_i gn hg
      split at h
      · rename_i gb hgb
        split at h
        · rename_i s c2 hrs
          split at h
          · rename_i hcond
            obtain ⟨hres, hnt, hst⟩ := hcond
            unfold dshape at hsh
            split at hsh
            · rename_i d0 id ops d1
              split at hsh
              · rename_i g' x' hdop
                injection hsh with hsh
                injection hsh with e1 hsh
                injection hsh with e2 hsh
                injection hsh with e3 e4
                subst e1 e2 e3 e4
                refine calls_of_wp_defers hfn hc ?_
                refine wp_seq ?_
                refine exec_ok (W0 := W0) (S := S) hnum hcall hmix loops d0 h hR (initAR hlen hargs) (panicOK_then (panicOK_defers P fn R)) ?_
                intro e tm1 H1 he hx σ1 a1 w1 ha1
                cases e with
                | exit i => cases he
                | ret => cases he
                | pan v => cases he
                | normal =>
                  simp only at he
                  split at he
                  · rename_i d hd
                    obtain ⟨hd1, hd2⟩ := ev_run ha1.act hd
                    refine wp_seq (wp_region ?_)
                    unfold dop at hdop
                    split at hdop
                    · rename_i o hops
                      split at hdop
                      · rename_i cc hop hgd hdst
                        split at hdop
                        · rename_i g2 x2 hcal hcargs
                          injection hdop with hdop
                          injection hdop with e1 e2
                          subst e1 e2
                          have hops' : ops = #[o] := by apply Array.toList_inj.1; rw [hops]
                          subst hops'
                          have hw : ∀ t, Region.wanted o (yielded #[o] t) = true := fun t => by simp [Region.wanted, hgd]
                          have hrun : (execOp a1.eval o).run P w1 = .ok (.defer { target := .fn (.func g2) #[], args := #[cV σ1 d] }) w1 := by
                            have ha : cc.args = #[x2] := by apply Array.toList_inj.1; rw [hcargs]
                            simp [execOp, hop, resolve, hcal, ha, Act.eval, Deferred.ofValue] at hd1 ⊢
                            exact hd1
                          have hinv : ∀ dv w, (invoke (.fn (.func g2) #[]) #[dv]).run P w = .ok (.enter g2 #[dv]) w := by
                            intro dv w
                            simp only [invoke, callFunc, Sem.run_bind, Result.andThen_ok, run_program, hg, hnum _ _ hg, hgb]
                            simp
                          show wpOps P #[o] _ [0] a1 w1
                          simp only [wpOps, List.getElem?_toArray, List.getElem?_cons_zero, hw, if_true]
                          refine .inl ?_
                          unfold Oper.wp
                          rw [hrun]
                          simp only [Oper.upon, hdst, Act.put]
                          have hA2 : AR fn.ntmps [{ target := .fn (.func g2) #[], args := #[cV σ1 d] }] σ1 tm1 H1.size { a1 with defers := { target := .fn (.func g2) #[], args := #[cV σ1 d] } :: a1.defers } :=
                            ⟨ha1.act.size, ha1.act.val, ha1.act.sc, by simp [ha1.act.df]⟩
                          refine exec_ok (W0 := W0) (S := S) hnum hcall hmix loops d1 he ha1.rel hA2 (panicOK_defers P fn R) ?_
                          intro e tm' H' he' hx' σ2 a2 w2 ha2
                          have hdx : cV σ2 d = cV σ1 d := cV_ext ha2.ext d hd2
                          have go : ∀ (v : Value) (u u' : FrameMode), doCatch P loops callK gn s c2 d v tm' H' fn k = some r → scV H'.size v = true → u ≠ .run → settle u' = .returning →
                              ((u = .returning ∧ u' = .returning ∧ v = .nilIface) ∨ (u = .panicking [{ v := cV σ2 v, recovered := false }] ∧ u' = .panicking [{ v := cV σ2 v, recovered := true }])) → Leaves P fn a2.tmps R a2.defers u w2 := by
                            intro v u u' hdo hv hur hse hu
                            rw [ha2.act.df]
                            refine leaves_cons hur (hinv _ _) ?_
                            have hc := catch_ok hnum hcall hmix hg hgb hrs hres hnt hst loops hdo ha2.rel (scV_mono ha2.keep.len d hd2) hv hu
                            rw [hdx] at hc
                            refine hc.mono ?_
                            rintro e uu w3 ⟨rfl, rfl, σ3, h3, e3, k3, r3, f3⟩
                            obtain ⟨v, q1, q2, q3⟩ := fin_ok (tm := tm') (H := h3) r3 (ha2.act.ext e3 k3.len) f3
                            simp only [hse, Leaves]
                            exact ⟨_, q1, hk (.ret v) h3 q3 σ3 w3 (ha1.ext.trans (ha2.ext.trans e3 ha2.keep.len) ha1.keep.len) (ha1.keep.trans (ha2.keep.trans k3)) r3 q2⟩
                          cases e with
                          | exit i => cases he'
                          | normal => exact go _ _ _ he' rfl (by simp) rfl (.inl ⟨rfl, rfl, rfl⟩)
                          | ret => exact go _ _ _ he' rfl (by simp) rfl (.inl ⟨rfl, rfl, rfl⟩)
                          | pan v => exact go v _ _ he' hx' (by simp) (by rfl) (.inr ⟨rfl, rfl⟩)
                        · cases hdop
                      · cases hdop
                    · cases hdop
                  · cases he
              · cases hsh
            · cases hsh
          · cases h
        · cases h
      · cases h
    · cases h

include hnum hmix in
theorem run_ok {tbl : Tbl} (ht : TblOK P tbl) (loops : LH) [LHGood P loops] : ∀ n, CallOK P (run P tbl loops n) := by
  intro n
  induction n with
  | zero => intro f args H k r h; cases h
  | succ n ih =>
    intro f args H k r h W0 S R σ w hR hargs hk
    have h' : (match tbl f with
      | some s => s args H k
      | none => match P.funcs[f]? with
        | some fn => (match fn.body with
          | some c => bif Nat.ble (llen args) fn.ntmps then doBody P loops (run P tbl loops n) fn c args H k else none
          | none => none)
        | none => none) = some r := h
    split at h'
    · rename_i s hs
      exact ht f s hs f args H k r (by simpa using h') W0 S R σ w hR hargs hk
    · split at h'
      · rename_i fn hfn
        split at h'
        · rename_i c hc
          obtain ⟨hlen, h'⟩ := cond_some h'
          rw [Nat.ble_eq, llen_eq] at hlen
          exact doBody_ok hnum ih hmix loops hfn hc h' hlen hR hargs hk
        · cases h'
      · cases h'
end
end Go.RX
