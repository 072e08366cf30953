/- The executor: code and calls. -/
import Derived.Test.YtnidbincddpaaaaE8
import Derived.LoopN
namespace Go.RX
open Go Go.RowKit

inductive XE where
  | normal
  | exit (id : Nat)
  | ret
  | pan (v : Value)
abbrev KX := XE → Tm → AH → Res

noncomputable def putK (N : Nat) (tm : Tm) (dst : Option Tmp) (v : Value) (k : Tm → Res) : Res :=
  match dst with
  | none => k tm
  | some d => bif Nat.ble (Nat.add d 1) N then k (tm.set d v) else none
theorem putK_some {N : Nat} {tm : Tm} {dst : Option Tmp} {v : Value} {k : Tm → Res} {r : Out × AH} (h : putK N tm dst v k = some r) : ∃ tm', putv N tm dst v = some tm' ∧ k tm' = some r := by
  unfold putK at h
  unfold putv
  split at h
  · exact ⟨_, rfl, h⟩
  · obtain ⟨hc, h⟩ := cond_some h
    exact ⟨_, by simp only [hc, cond_true], h⟩

/-- The slot that a guard asks. -/
def gslot (ops : Array Oper) (j : Nat) : Option Tmp := (ops[j]?).bind (·.dst)

/-- Operations that read memory. -/
def reader : Op → Bool
  | .load .. | .convert .. => true
  | _ => false
/-- The blocks of F may not be written. -/
noncomputable def frz (F : List Nat) (H : AH) : AH := List.rec (motive := fun _ => AH) H (fun i _ ih => match H.get i with | some ⟨c, t, _, l, p, none⟩ => ih.set i ⟨c, t, false, l, p, none⟩ | _ => ih) F
/-- The blocks of F are again what they were. -/
noncomputable def thaw (F : List Nat) (H0 H : AH) : AH := List.rec (motive := fun _ => AH) H (fun i _ ih => match H0.get i with | some ⟨c, t, w, l, p, none⟩ => ih.set i ⟨c, t, w, l, p, none⟩ | _ => ih) F
/-- An operation that waits for all that reads memory. -/
def isLate (ops : Array Oper) (o : Oper) : Bool :=
  (List.range ops.size).all fun i => match ops[i]? with
    | some oi => !reader oi.op || o.after.toList.any (fun e => Region.binds .any e && e.on == i)
    | none => true
/-- Slots that a light operation may not write. -/
def keeps (K : List Tmp) : Option Tmp → Bool
  | none => true
  | some d => !K.contains d

/-- How an operation of a region that draws its order is done. -/
inductive Kind where
  | light
  | late
  | early

section
variable (P : Program)
def lateB (ops : Array Oper) (o : Oper) : Bool := !light P o.op && isLate ops o
def takeOK (K : List Tmp) (ops : Array Oper) (listed : Array Bool) (late : Bool) (i : Nat) : Bool :=
  match ops[i]? with
  | some o => light P o.op && !(late && reader o.op) && keeps K o.dst && Region.free .any ops listed i
  | none => false

/-- The operations of a region that draws its order: light ones first; one heavy one at a time. -/
def plan (K : List Tmp) (ops : Array Oper) : Nat → Array Bool → Bool → Option (List (Oper × Kind))
  | 0, listed, _ => (match Region.ready .any ops listed with | [] => some [] | _ :: _ => none)
  | n + 1, listed, late =>
    match (Region.ready .any ops listed).find? (takeOK P K ops listed late) with
    | some i => (match ops[i]? with
      | some o => (match plan K ops n (listed.setIfInBounds i true) late with | some l => some ((o, .light) :: l) | none => none)
      | none => none)
    | none => match Region.ready .any ops listed with
      | [] => some []
      | [i] => (match ops[i]? with
        | some o => bif late || lateB P ops o then (match plan K ops n (listed.setIfInBounds i true) true with | some l => some ((o, .late) :: l) | none => none)
            else (match plan K ops n (listed.setIfInBounds i true) false with | some l => some ((o, .early) :: l) | none => none)
        | none => none)
      | _ => none

/-- One operation, wanted. -/
noncomputable def doOp (N : Nat) (callK : CallK) (o : Oper) (tm : Tm) (H : AH) (k : KX) : Res :=
  opK P tm H o.op (fun v H' => putK N tm o.dst v fun tm' => k .normal tm' H') (fun v H' => k (.pan v) tm H')
    (fun f args H' => callK f args H' fun out H2 => match out with
      | .ret v => putK N tm o.dst v fun tm' => k .normal tm' H2
      | .pan v => k (.pan v) tm H2)

/-- An operation with its guard: wanted or not. -/
noncomputable def guarded (N : Nat) (ops : Array Oper) (o : Oper) (tm : Tm) (perform skip : Tm → Res) : Res :=
  match o.guard with
  | none => perform tm
  | some (j, want) => match gslot ops j with
    | none => none
    | some d => bif Nat.ble (Nat.add d 1) N then (match tm.get d with
      | some (.bool b) => bif b then (bif want then perform (tm.set d (.bool true)) else skip (tm.set d (.bool true)))
          else (bif want then skip (tm.set d (.bool false)) else perform (tm.set d (.bool false)))
      | some (.tuple _) => skip tm
      | _ => none) else none

/-- The operations of a region, in the text's order. -/
noncomputable def doOps (N : Nat) (callK : CallK) (ops : Array Oper) (l : List Oper) : Tm → AH → KX → Res :=
  List.rec (motive := fun _ => Tm → AH → KX → Res) (fun tm H k => k .normal tm H)
    (fun o _ ih tm H k => guarded N ops o tm
      (fun tm => doOp P N callK o tm H fun e tm' H' => match e with | .normal => ih tm' H' k | e => k e tm' H')
      (fun tm => putK N tm o.dst undef fun tm' => ih tm' H k)) l

noncomputable def doPlan (N : Nat) (callK : CallK) (ops : Array Oper) (l : List (Oper × Kind)) : List Nat → Tm → AH → KX → Res :=
  List.rec (motive := fun _ => List Nat → Tm → AH → KX → Res) (fun _ tm H k => k .normal tm H)
    (fun p _ ih F tm H k => match p.2 with
      | .light => guarded N ops p.1 tm
          (fun tm => opK P tm H p.1.op (fun v _ => putK N tm p.1.dst v fun tm' => ih (lapp (rdIds tm p.1.op) F) tm' H k) (fun _ _ => none) (fun _ _ _ => none))
          (fun tm => putK N tm p.1.dst undef fun tm' => ih F tm' H k)
      | .late => guarded N ops p.1 tm
          (fun tm => doOp P N callK p.1 tm H fun e tm' H' => match e with | .normal => ih [] tm' H' k | e => k e tm' H')
          (fun tm => putK N tm p.1.dst undef fun tm' => ih [] tm' H k)
      | .early => guarded N ops p.1 tm
          (fun tm => doOp P N callK p.1 tm (frz F H) fun e tm' H' => match e with | .normal => ih F tm' (thaw F H H') k | e => k e tm' (thaw F H H'))
          (fun tm => putK N tm p.1.dst undef fun tm' => ih F tm' H k)) l

noncomputable def iter (fuel : Nat) (b : Tm → AH → KX → Res) : Tm → AH → KX → Res :=
  Nat.rec (motive := fun _ => Tm → AH → KX → Res) (fun _ _ _ => none) (fun _ ih tm H k => b tm H fun e tm' H' => match e with | .normal => ih tm' H' k | e => k e tm' H') fuel

/-- How loops are told: by rounds that are counted, or otherwise. -/
def LH := Nat → List Tmp → Code → (Tm → AH → KX → Res) → Tm → AH → KX → Res
noncomputable instance (n : Nat) : OfNat LH n := ⟨fun _ _ _ ih => iter n ih⟩

noncomputable def exec (N : Nat) (K : List Tmp) (fuel : LH) (callK : CallK) (c : Code) : Tm → AH → KX → Res :=
  Code.rec (motive := fun _ => Tm → AH → KX → Res)
    (fun tm H k => k .normal tm H)
    (fun _ ops draw tm H k => bif draw then (bif Region.noSelect ops then (match plan P K ops ops.size (Array.replicate ops.size false) false with
        | some l => doPlan P N callK ops l [] tm H k
        | none => none) else none) else doOps P N callK ops ops.toList tm H k)
    (fun _ _ ihx ihy tm H k => ihx tm H fun e tm' H' => match e with | .normal => ihy tm' H' k | e => k e tm' H')
    (fun x _ _ ihy ihz tm H k => match x with
      | .tmp d => bif Nat.ble (Nat.add d 1) N then (match tm.get d with
        | some (.bool b) => bif b then ihy (tm.set d (.bool true)) H k else ihz (tm.set d (.bool false)) H k
        | _ => none) else none
      | _ => none)
    (fun id _ ih tm H k => ih tm H fun e tm' H' => match e with
      | .exit i => bif Nat.beq i id then k .normal tm' H' else k (.exit i) tm' H'
      | e => k e tm' H')
    (fun c ih tm H k => fuel N K c ih tm H k)
    (fun _ _ _ _ _ _ _ _ _ => none)
    (fun id tm H k => k (.exit id) tm H)
    (fun _ _ _ _ _ => none)
    (fun _ _ _ _ => none)
    (fun _ _ _ _ => none)
    (fun tm H k => k .ret tm H)
    (fun _ _ _ _ => none) c

noncomputable def resv (tm : Tm) (H : AH) : List ResultVar → Option (List Value)
  | [] => some []
  | .tmp t :: r => match tm.get t, resv tm H r with | some v, some vs => some (v :: vs) | _, _ => none
  | .cell a t :: r => match tm.get a with | some p => (match aload P H t p, resv tm H r with | some v, some vs => some (v :: vs) | _, _ => none) | none => none

def outv : List Value → Value
  | [v] => v
  | vs => .tuple vs.toArray

def outOK (n : Nat) : List Value → Bool
  | [_] => true
  | vs => vs.all (scT n)

noncomputable def initTm (args : List Value) : Nat → Tm → Tm :=
  List.rec (motive := fun _ => Nat → Tm → Tm) (fun _ tm => tm) (fun v _ ih n tm => ih (Nat.add n 1) (tm.set n v)) args

def rslots : List ResultVar → List Tmp
  | [] => []
  | .tmp t :: r => t :: rslots r
  | .cell b _ :: r => b :: rslots r

/-- 'defer g(x)'. -/
def dop (ops : Array Oper) : Option (FuncId × Operand) :=
  match ops.toList with
  | [o] => match o.op, o.guard, o.dst with
    | .defer c, none, none => match c.callee, c.args.toList with
      | .value (.func g), [x] => some (g, x)
      | _, _ => none
    | _, _, _ => none
  | _ => none
/-- A body that defers one call, behind its first part. -/
def dshape : Code → Option (Code × FuncId × Operand × Code)
  | .seq c0 (.seq (.region _ ops false) c1) => match dop ops with
    | some (g, x) => some (c0, g, x, c1)
    | none => none
  | _ => none
/-- 's := recover()'. -/
def rop (ops : Array Oper) : Option Tmp :=
  match ops.toList with
  | [o] => match o.op, o.guard, o.dst with
    | .call c, none, some s => match c.callee, c.args.toList with
      | .builtin .recover, [] => some s
      | _, _ => none
    | _, _, _ => none
  | _ => none
/-- A body that first recovers. -/
def rshape : Code → Option (Tmp × Code)
  | .seq (.region _ ops false) c => match rop ops with
    | some s => some (s, c)
    | none => none
  | _ => none

/-- What a function yields at its end. -/
noncomputable def fin (fn : Func) (tm : Tm) (H : AH) (k : Out → AH → Res) : Res :=
  match resv P tm H fn.results.toList with | some vs => bif outOK H.size vs then k (.ret (outv vs)) H else none | none => none

/-- The deferred call: v is what it recovers. -/
noncomputable def doCatch (loops : LH) (callK : CallK) (gn : Func) (s : Tmp) (c : Code) (d v : Value) (tm : Tm) (H : AH) (fn : Func) (k : Out → AH → Res) : Res :=
  exec P gn.ntmps [] loops callK c ((initTm [d] 0 .e).set s v) H fun e _ H2 => match e with
    | .normal | .ret => fin P fn tm H2 k
    | _ => none

noncomputable def doBody (loops : LH) (callK : CallK) (fn : Func) (c : Code) (args : List Value) (H : AH) (k : Out → AH → Res) : Res :=
  match dshape c with
  | none => exec P fn.ntmps [] loops callK c (initTm args 0 .e) H fun e tm' H' => match e with
      | .normal | .ret => fin P fn tm' H' k
      | .pan v => k (.pan v) H'
      | _ => none
  | some (c0, g, x, c1) => match P.funcs[g]? with
    | some gn => match gn.body with
      | some gb => match rshape gb with
        | some (s, c2) => if gn.results.toList = [] ∧ 1 ≤ gn.ntmps ∧ s < gn.ntmps then
            exec P fn.ntmps (rslots fn.results.toList) loops callK c0 (initTm args 0 .e) H fun e tm H => match e with
              | .normal => (match ev tm x with
                | some d => exec P fn.ntmps (rslots fn.results.toList) loops callK c1 tm H fun e tm' H' => match e with
                  | .normal | .ret => doCatch P loops callK gn s c2 d .nilIface tm' H' fn k
                  | .pan v => doCatch P loops callK gn s c2 d v tm' H' fn k
                  | _ => none
                | none => none)
              | _ => none
            else none
        | none => none
      | none => none
    | none => none

abbrev Tbl := FuncId → Option (List Value → AH → (Out → AH → Res) → Res)
/-- A call; tbl: functions whose calls are told by a table. -/
noncomputable def run (tbl : Tbl) (loops : LH) (n : Nat) : CallK :=
  Nat.rec (motive := fun _ => CallK) (fun _ _ _ _ => none)
    (fun _ ih f args H k => match tbl f with
      | some s => s args H k
      | none => match P.funcs[f]? with
        | some fn => (match fn.body with
          | some c => bif Nat.ble (llen args) fn.ntmps then doBody P loops ih fn c args H k else none
          | none => none)
        | none => none) n
end

def xexit (σ : Nat → Loc) : XE → Exit
  | .normal => .normal
  | .exit id => .exit id
  | .ret => .ret
  | .pan v => .panic [{ v := cV σ v, recovered := false }]
def xsc (n : Nat) : XE → Prop
  | .pan v => scV n v = true
  | _ => True
def ending (σ : Nat → Loc) : Out → Ending
  | .ret v => .returned (cV σ v)
  | .pan v => .panicked [{ v := cV σ v, recovered := false }]
def osc (n : Nat) : Out → Prop
  | .ret v => scV n v = true
  | .pan v => scV n v = true

/-- The state behind a piece of code: what is known of it beside the memory H0 before. -/
structure After (P : Program) (W0 : World) (S : Nat → Prop) (N : Nat) (D : List Deferred) (H0 : AH) (σ0 : Nat → Loc) (tm : Tm) (H : AH) (σ : Nat → Loc) (a : Act) (w : World) : Prop where
  ext : Ext H0.size σ0 σ
  keep : Keep H0 H
  rel : Rel P W0 S σ H w
  act : AR N D σ tm H.size a

theorem After.trans {P : Program} {W0 : World} {S : Nat → Prop} {N : Nat} {D : List Deferred} {H0 H1 : AH} {σ0 σ1 : Nat → Loc} {tm : Tm} {H : AH} {σ : Nat → Loc} {a : Act} {w : World} (h : After P W0 S N D H1 σ1 tm H σ a w) (he : Ext H0.size σ0 σ1) (hn : Keep H0 H1) : After P W0 S N D H0 σ0 tm H σ a w :=
  ⟨he.trans h.ext hn.len, hn.trans h.keep, h.rel, h.act⟩

theorem cV_undef (σ : Nat → Loc) : cV σ undef = undef := by simp [cV, undef]

/-- A way of telling calls that can be trusted. -/
def CallOK (P : Program) (callK : CallK) : Prop :=
  ∀ (f : FuncId) (args : List Value) (H : AH) (k : Out → AH → Res) (r : Out × AH), callK f args H k = some r →
    ∀ (W0 : World) (S : Nat → Prop) (R : Ending → World → Prop) (σ : Nat → Loc) (w : World), Rel P W0 S σ H w → (∀ v ∈ args, scV H.size v = true) →
    (∀ o H', k o H' = some r → ∀ σ' w', Ext H.size σ σ' → Keep H H' → Rel P W0 S σ' H' w' → osc H'.size o → R (ending σ' o) w') →
    Calls P f (args.map (cV σ)).toArray w R

section
variable {P : Program} {W0 : World} {S : Nat → Prop} {N : Nat} {D : List Deferred} {callK : CallK}
variable (hnum : ∀ (f : FuncId) (fn : Func), P.funcs[f]? = some fn → (fn.name == "runtime.NumGoroutine") = false)
variable (hcall : CallOK P callK)

/-- What is asked of what comes behind. -/
def KOK (P : Program) (W0 : World) (S : Nat → Prop) (N : Nat) (D : List Deferred) (H0 : AH) (σ0 : Nat → Loc) (r : Out × AH) (k : KX) (Q : Exit → Act → World → Prop) : Prop :=
  ∀ e tm' H', k e tm' H' = some r → xsc H'.size e → ∀ σ' a' w', After P W0 S N D H0 σ0 tm' H' σ' a' w' → Q (xexit σ' e) a' w'

theorem KOK.from {H0 H1 : AH} {σ0 σ1 : Nat → Loc} {r : Out × AH} {k : KX} {Q : Exit → Act → World → Prop} (h : KOK P W0 S N D H0 σ0 r k Q) (he : Ext H0.size σ0 σ1) (hn : Keep H0 H1) : KOK P W0 S N D H1 σ1 r k Q :=
  fun e tm' H' hk hx σ' a' w' ha => h e tm' H' hk hx σ' a' w' (ha.trans he hn)

theorem AR.tmsc {σ : Nat → Loc} {tm : Tm} {n : Nat} {a : Act} (h : AR N D σ tm n a) : TmSc tm n := fun t v hv => h.sc t v hv

include hnum hcall in
theorem doOp_ok {o : Oper} {tm : Tm} {H : AH} {k : KX} {r : Out × AH} (h : doOp P N callK o tm H k = some r) {σ : Nat → Loc} {a : Act} {w : World} (hR : Rel P W0 S σ H w) (hA : AR N D σ tm H.size a)
    {K : Act → World → Prop} {Q : Exit → Act → World → Prop} (hk : KOK P W0 S N D H σ r k (Exit.then K Q)) : o.wp P a w K Q := by
  unfold doOp at h
  obtain ⟨out, hop, hh⟩ := opK_way hA.tmsc h
  clear h
  cases out with
  | val v H' =>
    simp only [told] at hh
    obtain ⟨tm', htm, hh⟩ := putK_some hh
    obtain ⟨σ', w', e1, e2, e3, e4, e5⟩ := aop_run hnum hR hA o rfl hop
    have hput := (hA.ext e1 e2.len).put htm e4
    have := hk .normal _ _ hh trivial σ' _ w' ⟨e1, e2, e3, hput⟩
    unfold Oper.wp
    rcases e5 with e5 | ⟨e5, rfl⟩
    · rw [e5]; exact this
    · rw [e5]; rw [cV_undef] at this; exact this
  | pan v H' =>
    simp only [told] at hh
    obtain ⟨rfl, e2, e3, e4⟩ := aop_run hnum hR hA o rfl hop
    have := hk (.pan v) _ _ hh e2 σ a w ⟨Ext.refl _ _, Keep.refl _, hR, hA⟩
    unfold Oper.wp
    rw [e4]
    simp only [xexit, e3] at this
    exact this
  | enter f args H' =>
    simp only [told] at hh
    obtain ⟨rfl, e2, e3⟩ := aop_run hnum hR hA o rfl hop
    unfold Oper.wp
    rw [e3]
    refine hcall f args _ _ r hh W0 S _ σ w hR e2 ?_
    intro out H2 hout σ' w' x1 x2 x3 x4
    cases out with
    | ret v =>
      simp only at hout
      obtain ⟨tm', htm, hout⟩ := putK_some hout
      exact hk .normal _ _ hout trivial σ' _ w' ⟨x1, x2, x3, (hA.ext x1 x2.len).put htm x4⟩
    | pan v => exact hk (.pan v) _ _ hout x4 σ' _ w' ⟨x1, x2, x3, hA.ext x1 x2.len⟩

theorem skip_ok {o : Oper} {tm : Tm} {H : AH} {k : Tm → Res} {r : Out × AH} (h : putK N tm o.dst undef k = some r) {σ : Nat → Loc} {a : Act} (hA : AR N D σ tm H.size a) : ∃ tm', k tm' = some r ∧ AR N D σ tm' H.size (a.put o.dst undef) := by
  obtain ⟨tm', htm, h⟩ := putK_some h
  exact ⟨tm', h, by have := hA.put (v := undef) htm rfl; rwa [cV_undef] at this⟩

theorem yielded_of {σ : Nat → Loc} {tm : Tm} {n : Nat} {a : Act} (hA : AR N D σ tm n a) {ops : Array Oper} {j d : Nat} (hd : gslot ops j = some d) (hdN : d < N) {u : Value} (hu : tm.get d = some u) :
    yielded ops a.tmps j = match cV σ u with | .bool b => some b | _ => none := by
  unfold yielded
  unfold gslot at hd
  have hlt : d < a.tmps.size := by rw [hA.size]; exact hdN
  have hv := hA.val d u hu
  have h2 : a.tmps[d]? = some (cV σ u) := by
    rw [← hv, Array.getElem?_eq_getElem hlt]
    simp [hlt]
  rw [hd]
  simp only [Option.bind_some, h2]
  generalize cV σ u = u'
  cases u' <;> rfl

theorem guarded_ok {ops : Array Oper} {o : Oper} {tm : Tm} {n : Nat} {perform skip : Tm → Res} {r : Out × AH} {σ : Nat → Loc} {a : Act} (h : guarded N ops o tm perform skip = some r) (hA : AR N D σ tm n a) :
    (Region.wanted o (yielded ops a.tmps) = true ∧ ∃ tm', AR N D σ tm' n a ∧ perform tm' = some r) ∨
    (Region.wanted o (yielded ops a.tmps) = false ∧ ∃ tm', AR N D σ tm' n a ∧ skip tm' = some r) := by
  unfold guarded at h
  split at h
  · rename_i hg
    exact .inl ⟨by simp [Region.wanted, hg], tm, hA, h⟩
  · rename_i j want hg
    split at h
    · cases h
    · rename_i d hd
      obtain ⟨hdN, h⟩ := cond_some h
      rw [ble_lt'] at hdN
      split at h
      · rename_i b hb
        have hy := yielded_of hA hd hdN hb
        have hy' : yielded ops a.tmps j = some b := hy
        have hA' := hA.known hb
        cases b <;> cases want <;> simp only [cond_true, cond_false] at h
        · exact .inl ⟨by simp [Region.wanted, hg, hy'], _, hA', h⟩
        · exact .inr ⟨by simp [Region.wanted, hg, hy'], _, hA', h⟩
        · exact .inr ⟨by simp [Region.wanted, hg, hy'], _, hA', h⟩
        · exact .inl ⟨by simp [Region.wanted, hg, hy'], _, hA', h⟩
      · rename_i vs hb
        have hy := yielded_of hA hd hdN hb
        have hy' : yielded ops a.tmps j = none := hy
        exact .inr ⟨by simp [Region.wanted, hg, hy'], _, hA, h⟩
      · cases h

include hnum hcall in
theorem doOps_ok {ops : Array Oper} : ∀ (l : List Oper) (i : Nat), ops.toList.drop i = l → ∀ {tm : Tm} {H : AH} {k : KX} {r : Out × AH}, doOps P N callK ops l tm H k = some r →
    ∀ {σ : Nat → Loc} {a : Act} {w : World}, Rel P W0 S σ H w → AR N D σ tm H.size a → ∀ {Q : Exit → Act → World → Prop}, KOK P W0 S N D H σ r k Q → wpOps P ops Q (List.range' i l.length) a w := by
  intro l
  induction l with
  | nil =>
    intro i _ tm H k r h σ a w hR hA Q hk
    exact hk .normal tm H h trivial σ a w ⟨Ext.refl _ _, Keep.refl _, hR, hA⟩
  | cons o l ih =>
    intro i hdrop tm H k r h σ a w hR hA Q hk
    have hi : ops[i]? = some o := by
      have h1 : (ops.toList.drop i)[0]? = some o := by rw [hdrop]; rfl
      rw [List.getElem?_drop] at h1
      simpa using h1
    have hdrop' : ops.toList.drop (i + 1) = l := by
      rw [← List.drop_drop, hdrop]; rfl
    rw [List.length_cons, List.range'_succ]
    simp only [wpOps, hi]
    have h' : guarded N ops o tm (fun tm => doOp P N callK o tm H fun e tm' H' => match e with | .normal => doOps P N callK ops l tm' H' k | e => k e tm' H') (fun tm => putK N tm o.dst undef fun tm' => doOps P N callK ops l tm' H k) = some r := h
    rcases guarded_ok h' hA with ⟨hw, tm1, hA1, h1⟩ | ⟨hw, tm1, hA1, h1⟩
    · rw [if_pos hw]
      refine .inl (doOp_ok hnum hcall h1 hR hA1 ?_)
      intro e tm' H' he hx σ' a' w' ha
      cases e with
      | normal => exact ih (i + 1) hdrop' he ha.rel ha.act (hk.from ha.ext ha.keep)
      | exit id => exact hk _ _ _ he hx σ' a' w' ha
      | ret => exact hk _ _ _ he hx σ' a' w' ha
      | pan v => exact hk _ _ _ he hx σ' a' w' ha
    · rw [if_neg (by simp [hw])]
      obtain ⟨tm2, h2, hA2⟩ := skip_ok (H := H) h1 hA1
      exact ih (i + 1) hdrop' h2 hR hA2 hk
end
end Go.RX
