/- The executor, second part: operations, code, calls. -/
import Derived.Test.YtnidbincddpaaaaX1
import Derived.Orders
namespace Go.RX
open Go

/-- The temporaries, the newest first. -/
abbrev Tm := List (Nat × Value)
def get : Tm → Nat → Value
  | [], _ => undef
  | (d, v) :: r, t => if d = t then v else get r t

structure St where
  tm : Tm
  h : AH

inductive XE where
  | normal
  | exit (id : Nat)
  | ret
  | pan (v : Value)

inductive Out where
  | ret (v : Value)
  | pan (v : Value)

abbrev Res := Option (Out × AH)

def ev (tm : Tm) : Operand → Option Value
  | .tmp t => some (get tm t)
  | .const v => bif scV 0 v then some v else none
  | .func f => some (.func (.func f) #[] #[])
  | .global _ => none

def evs (tm : Tm) : List Operand → Option (List Value)
  | [] => some []
  | x :: r => match ev tm x, evs tm r with
    | some v, some vs => some (v :: vs)
    | _, _ => none

def evo (tm : Tm) : Option Operand → Option (Option Value)
  | none => some none
  | some x => match ev tm x with | some v => some (some v) | none => none

section
variable (P : Program)

def oval (H : AH) : Option Value → Option AOut
  | some v => some (.val v H)
  | none => none

def aop (tm : Tm) (H : AH) (op : Op) : Option AOut :=
  match op with
  | .move x | .assign x => oval H (ev tm x)
  | .pick c a b => match ev tm c, ev tm a, ev tm b with
    | some (.bool c), some a, some b => some (.val (merge c a b) H)
    | _, _, _ => none
  | .alloc t => match (P.info? t).bind (·.zero) with
    | some z => bif z.cells.toList.all (scS 0) && decide (z.cells.size ≤ 1000000) then some (.val (.pointer (some ⟨H.length, 0, none⟩)) (H ++ [⟨z.cells.toList, t, true, true⟩])) else none
    | none => none
  | .box t x => match ev tm x with
    | some v => bif v.cells.toList.all (scS H.length) && decide (v.cells.size ≤ 1000000) then some (.val (.pointer (some ⟨H.length, 0, none⟩)) (H ++ [⟨v.cells.toList, t, true, true⟩])) else none
    | none => none
  | .build t parts => match (P.info? t).bind (·.zero), P.underlying t, evs tm (parts.toList.map (·.2)) with
    | some z, some (.struct fields), some vs => match places P fields with
      | some pl => (match Instr.fill (pl.toArray[·]?) z.cells ((parts.toList.map (·.1)).zip vs) with
        | some cs => bif z.cells.toList.all (scS 0) && vs.all (fun v => v.cells.toList.all (scS H.length)) then some (.val (.agg cs) H) else none
        | none => none)
      | none => none
    | some z, some (.array _ e), some vs => match sizeB P e with
      | some s => (match Instr.fill (fun i => some (i * s, s)) z.cells ((parts.toList.map (·.1)).zip vs) with
        | some cs => bif z.cells.toList.all (scS 0) && vs.all (fun v => v.cells.toList.all (scS H.length)) then some (.val (.agg cs) H) else none
        | none => none)
      | none => none
    | _, _, _ => none
  | .buildSlice t len parts => match P.underlying t, evs tm (parts.toList.map (·.2)) with
    | some (.slice e), some vs => match P.info? e with
      | some ie => if len * ie.size > 16777216 ∨ len * ie.size = 0 then none else
        (match ie.zero with
        | some z => (match Instr.fill (fun i => some (i * ie.size, ie.size)) ((Array.range (len * ie.size)).map (z.cells[· % z.cells.size]!)) ((parts.toList.map (·.1)).zip vs) with
          | some cs => bif z.cells.toList.all (scS 0) && vs.all (fun v => v.cells.toList.all (scS H.length)) then
              some (.val (.slice (some ⟨H.length, 0, none⟩) len len) (H ++ [⟨cs.toList, e, true, true⟩])) else none
          | none => none)
        | none => none)
      | none => none
    | _, _ => none
  | .load t a => match ev tm a with
    | some p => oval H (aload P H t p)
    | none => none
  | .store t a x => match ev tm a, ev tm x with
    | some p, some v => (match astore P H t p v with | some H' => some (.val undef H') | none => none)
    | _, _ => none
  | .nilCheck x => match ev tm x with
    | some (.pointer (some a)) => some (.val (.pointer (some a)) H)
    | _ => none
  | .binOp op t x y _ => match ev tm x, ev tm y with
    | some a, some b => oval H (abinc P op t y a b)
    | _, _ => none
  | .unOp .not _ x => match ev tm x with
    | some (.bool b) => some (.val (.bool !b) H)
    | _ => none
  | .unOp .neg _ x => match ev tm x with
    | some (.int k n) => some (.val (.int k (k.wrap (0 - n))) H)
    | _ => none
  | .convert src dst x => match ev tm x with
    | some v => oval H (aconv P H src dst v)
    | none => none
  | .makeInterface t x => match ev tm x with
    | some v => (match P.underlying t with
      | some (.interface _) => none
      | some _ => bif scT 0 v then some (.val (.iface t v) H) else none
      | none => none)
    | none => none
  | .slice t x lo hi mx => match ev tm x, evo tm lo, evo tm hi, evo tm mx with
    | some v, some l, some h, some m => oval H (aslice P t v l h m)
    | _, _, _, _ => none
  | .fieldAddr t x f => match ev tm x, P.underlying t with
    | some (.pointer (some ⟨i, off, none⟩)), some (.struct fields) => match fields[f]? with
      | some fd => (match sizeB P fd.type with
        | some s => if s = 0 then none else some (.val (.pointer (some ((⟨i, off, none⟩ : Addr).add fd.offset))) H)
        | none => none)
      | none => none
    | _, _ => none
  | .field t x f => match ev tm x with
    | some v => oval H (afield P t v f)
    | none => none
  | .indexAddr t x ix => match ev tm x, ev tm ix with
    | some v, some i => oval H (aindexAddr P t v i)
    | _, _ => none
  | .index t x ix => match ev tm x, ev tm ix with
    | some v, some i => oval H (aindex P t v i)
    | _, _ => none
  | .extract x i => match ev tm x with
    | some (.tuple vs) => oval H vs[i]?
    | _ => none
  | .call { callee := .value (.func f), args, .. } => match evs tm args.toList with
    | some vs => (match P.funcs[f]? with | some fn => bif fn.body.isSome then some (.enter f vs H) else none | none => none)
    | none => none
  | .call { callee := .builtin .len, args, argTypes } => match evs tm args.toList, argTypes.toList with
    | some [v], [t] => oval H (alen P t v)
    | _, _ => none
  | .call { callee := .builtin .append, args, argTypes } => match evs tm args.toList, argTypes.toList with
    | some [s, .string x], [t, t'] => (match aappends P H t t' s x with | some (v, H') => some (.val v H') | none => none)
    | some [s, x], [t, t'] => if t = t' then (match aappend P H t s x with | some (v, H') => some (.val v H') | none => none) else none
    | _, _ => none
  | .typeAssert x _ T ok => match ev tm x with
    | some v => oval H (aassert P T ok v)
    | none => none
  | .panic x => match ev tm x with
    | some (.iface t v) => some (.pan (.iface t v) H)
    | _ => none
  | _ => none

/-- 0 ≤ k < n. -/
def inB (k : Int) (n : Nat) : Bool := !ltB k 0 && ltB k n
def bnd (x : Option Value) (top : Nat) : Bool :=
  match x with
  | some (.int _ i) => !ltB i 0 && !ltB top i
  | _ => true
def bndU (x : Option Value) (dflt : Nat) : Option Nat :=
  match x with
  | none => some dflt
  | some (.int _ i) => some i.toNat
  | _ => none
def isU8 : Value → Bool
  | .int .u8 _ => true
  | _ => false
def byteVal : Value → UInt8
  | .int .u8 n => UInt8.ofNat n.toNat
  | _ => 0
/-- n cells from off on of block i, unasked whether they are there. -/
def ldU (H : AH) (i off n : Nat) : List Value := match H[i]? with | some b => (b.cells.drop off).take n | none => []
def ldC (H : AH) (i off n : Nat) : Bool := match H[i]? with | some b => b.live && Nat.beq ((b.cells.drop off).take n).length n | none => false

/-- What an operation asks of its operands: asked first. -/
def achk (tm : Tm) (H : AH) (op : Op) : Bool :=
  match op with
  | .binOp .add _ x y _ => (match ev tm x, ev tm y with
    | some (.string a), some (.string b) => Nat.ble (a.size + b.size) 9223372036854775807
    | _, _ => true)
  | .convert src dst x => (match P.underlying src, P.underlying dst, ev tm x with
    | some (.slice _), some .string, some (.slice (some ⟨i, off, none⟩) n _) => ldC H i off n && (ldU H i off n).all isU8
    | _, _, _ => true)
  | .slice t x lo hi none => (match P.underlying t, ev tm x, evo tm lo, evo tm hi with
    | some .string, some (.string s), some l, some h => bnd h s.size && (match bndU h s.size with | some hv => bnd l hv | none => true)
    | some (.slice _), some (.slice (some ⟨_, _, none⟩) n c), some l, some h => bnd h n && (match bndU h n with
      | some hv => bnd l hv && (match bndU l 0 with | some lv => Nat.ble (Nat.succ lv) c && Nat.ble n c | none => true)
      | none => true)
    | _, _, _, _ => true)
  | .index t x ix => (match P.underlying t, ev tm x, ev tm ix with
    | some .string, some (.string s), some (.int _ k) => inB k s.size
    | some (.array len _), some (.agg _), some (.int _ k) => inB k len
    | _, _, _ => true)
  | .indexAddr t x ix => (match P.underlying t, ev tm x, ev tm ix with
    | some (.slice _), some (.slice (some ⟨_, _, none⟩) n _), some (.int _ k) => inB k n
    | _, _, _ => true)
  | .call { callee := .builtin .append, args, argTypes } => (match evs tm args.toList, argTypes.toList with
    | some [.slice none 0 0, .string x], [_, _] => Nat.ble 1 x.size && Nat.ble x.size 1000000000
    | some [.slice (some ⟨i, 0, none⟩) n c, .string x], [_, _] => Nat.ble 1 x.size && Nat.ble (n + x.size) 1000000000 && Nat.beq n c && (match H[i]? with | some b => Nat.beq b.cells.length n | none => true)
    | _, _ => true)
  | _ => true

/-- An operation, what it asks being true. -/
def aopU (tm : Tm) (H : AH) (op : Op) : Option AOut :=
  match op with
  | .binOp .add t x y z => (match ev tm x, ev tm y with
    | some (.string a), some (.string b) => some (.val (.string (a ++ b)) H)
    | _, _ => aop P tm H (.binOp .add t x y z))
  | .convert src dst x => (match P.underlying src, P.underlying dst, ev tm x with
    | some (.slice e), some .string, some (.slice (some ⟨i, off, none⟩) n _) => (match P.underlying e with
      | some (.int .u8) => some (.val (.string ⟨((ldU H i off n).map byteVal).toArray⟩) H)
      | _ => none)
    | _, _, _ => aop P tm H (.convert src dst x))
  | .slice t x lo hi none => (match P.underlying t, ev tm x, evo tm lo, evo tm hi with
    | some .string, some (.string s), some l, some h => (match bndU h s.size with
      | some hv => (match bndU l 0 with | some lv => some (.val (.string (s.extract lv hv)) H) | none => none)
      | none => none)
    | some (.slice e), some (.slice (some ⟨i, off, none⟩) n c), some l, some h => (match sizeB P e, bndU h n, bndU l 0 with
      | some s, some hv, some lv => some (.val (.slice (some ((⟨i, off, none⟩ : Addr).add (lv * s))) (hv - lv) (c - lv)) H)
      | _, _, _ => none)
    | _, _, _, _ => aop P tm H (.slice t x lo hi none))
  | .index t x ix => (match P.underlying t, ev tm x, ev tm ix with
    | some .string, some (.string s), some (.int _ k) => some (.val (.int .u8 (s.data.toList.getD k.toNat 0).toNat) H)
    | some (.array _ e), some (.agg cs), some (.int _ k) => (match sizeB P e with | some s => oval H (partB P e cs (k.toNat * s)) | none => none)
    | _, _, _ => aop P tm H (.index t x ix))
  | .indexAddr t x ix => (match P.underlying t, ev tm x, ev tm ix with
    | some (.slice e), some (.slice (some ⟨i, off, none⟩) _ _), some (.int _ k) => (match sizeB P e with
      | some s => some (.val (.pointer (some ((⟨i, off, none⟩ : Addr).add (k.toNat * s)))) H)
      | none => none)
    | _, _, _ => aop P tm H (.indexAddr t x ix))
  | .call { callee := .builtin .append, args, argTypes } => (match evs tm args.toList, argTypes.toList with
    | some [.slice none 0 0, .string x], [t, t'] => (match P.underlying t, P.underlying t' with
      | some (.slice e), some .string => (match P.info? e with
        | some ie => (match ie.zero with
          | some (.int .u8 0) => bif Nat.beq ie.size 1 && Nat.beq ie.bytes 1 then some (.val (.slice (some ⟨H.length, 0, none⟩) x.size x.size) (H ++ [⟨x.data.toList.map fun b => Value.int .u8 b.toNat, e, true, true⟩])) else none
          | _ => none)
        | none => none)
      | _, _ => none)
    | some [.slice (some ⟨i, 0, none⟩) n _, .string x], [t, t'] => (match P.underlying t, P.underlying t' with
      | some (.slice e), some .string => (match P.info? e with
        | some ie => (match ie.zero, H[i]? with
          | some (.int .u8 0), some b => bif Nat.beq ie.size 1 && Nat.beq ie.bytes 1 && b.live && b.wr && Nat.beq b.ty e then
              some (.val (.slice (some ⟨H.length, 0, none⟩) (n + x.size) (n + x.size)) (List.set H i { b with live := false } ++ [⟨b.cells ++ x.data.toList.map fun b => Value.int .u8 b.toNat, e, true, true⟩])) else none
          | _, _ => none)
        | none => none)
      | _, _ => none)
    | _, _ => aop P tm H (.call { callee := .builtin .append, args, argTypes }))
  | op => aop P tm H op

def putv (N : Nat) (tm : Tm) (dst : Option Tmp) (v : Value) : Option Tm :=
  match dst with
  | none => some tm
  | some d => if d < N then some ((d, v) :: tm) else none

/-- The slot that a guard asks. -/
def gslot (ops : Array Oper) (j : Nat) : Option Tmp := (ops[j]?).bind (·.dst)

abbrev CallK := FuncId → List Value → AH → (Out → AH → Res) → Res

/-- One operation, wanted. -/
def doOp (N : Nat) (callK : CallK) (o : Oper) (st : St) (k : XE → St → Res) : Res :=
  bif achk P st.tm st.h o.op then (match aopU P st.tm st.h o.op with
  | some (.val v H) => (match putv N st.tm o.dst v with | some tm => k .normal ⟨tm, H⟩ | none => none)
  | some (.pan v H) => k (.pan v) ⟨st.tm, H⟩
  | some (.enter f args H) => callK f args H fun out H' => match out with
    | .ret v => (match putv N st.tm o.dst v with | some tm => k .normal ⟨tm, H'⟩ | none => none)
    | .pan v => k (.pan v) ⟨st.tm, H'⟩
  | none => none) else none

def doSkip (N : Nat) (o : Oper) (st : St) (k : XE → St → Res) : Res :=
  match putv N st.tm o.dst undef with | some tm => k .normal ⟨tm, st.h⟩ | none => none

/-- The operations of a region, in the text's order. -/
def doOps (N : Nat) (callK : CallK) (ops : Array Oper) : List Oper → St → (XE → St → Res) → Res
  | [], st, k => k .normal st
  | o :: r, st, k =>
    let next : XE → St → Res := fun e st' => match e with | .normal => doOps N callK ops r st' k | e => k e st'
    match o.guard with
    | none => doOp P N callK o st next
    | some (j, want) => match gslot ops j with
      | none => none
      | some d => if d < N then (match get st.tm d with
        | .bool b => bif b then
            (bif want then doOp P N callK o ⟨(d, .bool true) :: st.tm, st.h⟩ next else doSkip N o ⟨(d, .bool true) :: st.tm, st.h⟩ next)
          else (bif want then doSkip N o ⟨(d, .bool false) :: st.tm, st.h⟩ next else doOp P N callK o ⟨(d, .bool false) :: st.tm, st.h⟩ next)
        | .tuple _ => doSkip N o st next
        | _ => none) else none

/-- Operations that yield a value and change nothing. -/
def light : Op → Bool
  | .move _ | .assign _ | .pick .. | .build .. | .load .. | .nilCheck _ | .binOp .. | .unOp .. | .convert .. | .makeInterface .. | .slice .. | .fieldAddr .. | .field .. | .indexAddr .. | .index .. | .extract .. => true
  | .call { callee := .builtin .len, .. } => true
  | _ => false

/-- Operations that read memory. -/
def reader : Op → Bool
  | .load .. | .convert .. => true
  | _ => false
/-- The blocks that such an operation reads. -/
def rdIds (tm : Tm) : Op → List Nat
  | .load _ a => match ev tm a with | some (.pointer (some p)) => [p.block] | _ => []
  | .convert _ _ x => match ev tm x with | some (.slice (some p) _ _) => [p.block] | _ => []
  | _ => []
/-- The blocks of F may not be written. -/
def frz : Nat → List Nat → AH → AH
  | _, _, [] => []
  | i, F, b :: r => (bif F.contains i then { b with wr := false } else b) :: frz (i + 1) F r
/-- The blocks of F are again what they were. -/
def thaw : Nat → List Nat → AH → AH → AH
  | i, F, b0 :: r0, b :: r => (bif F.contains i then b0 else b) :: thaw (i + 1) F r0 r
  | _, _, _, h => h
/-- An operation that waits for all that reads memory. -/
def isLate (ops : Array Oper) (o : Oper) : Bool :=
  (List.range ops.size).all fun i => match ops[i]? with
    | some oi => !reader oi.op || o.after.toList.any (fun e => Region.binds .any e && e.on == i)
    | none => true
def lateB (ops : Array Oper) (o : Oper) : Bool := !light o.op && isLate ops o
/-- Slots that a light operation may not write. -/
def keeps (K : List Tmp) : Option Tmp → Bool
  | none => true
  | some d => !K.contains d
def takeOK (K : List Tmp) (ops : Array Oper) (listed : Array Bool) (late : Bool) (i : Nat) : Bool :=
  match ops[i]? with
  | some o => light o.op && !(late && reader o.op) && keeps K o.dst && Region.free .any ops listed i
  | none => false

/-- An operation with its guard: wanted or not. -/
def guarded (N : Nat) (ops : Array Oper) (o : Oper) (st : St) (perform skip : St → Res) : Res :=
  match o.guard with
  | none => perform st
  | some (j, want) => match gslot ops j with
    | none => none
    | some d => if d < N then (match get st.tm d with
      | .bool b => bif b then
          (bif want then perform ⟨(d, .bool true) :: st.tm, st.h⟩ else skip ⟨(d, .bool true) :: st.tm, st.h⟩)
        else (bif want then skip ⟨(d, .bool false) :: st.tm, st.h⟩ else perform ⟨(d, .bool false) :: st.tm, st.h⟩)
      | .tuple _ => skip st
      | _ => none) else none

/-- The operations of a region that draws its order: light ones first; one heavy one at a time, what was read ahead of it kept from it. -/
def doDraw (N : Nat) (K : List Tmp) (callK : CallK) (ops : Array Oper) : Nat → Array Bool → List Nat → Bool → St → (XE → St → Res) → Res
  | 0, listed, _, _, st, k => match Region.ready .any ops listed with
    | [] => k .normal st
    | _ :: _ => none
  | n + 1, listed, F, late, st, k =>
    match (Region.ready .any ops listed).find? (takeOK K ops listed late) with
    | some i => (match ops[i]? with
      | some o => guarded N ops o st
          (fun st => bif achk P st.tm st.h o.op then (match aopU P st.tm st.h o.op with
            | some (.val v _) => (match putv N st.tm o.dst v with
              | some tm => doDraw N K callK ops n (listed.setIfInBounds i true) (rdIds st.tm o.op ++ F) late ⟨tm, st.h⟩ k
              | none => none)
            | _ => none) else none)
          (fun st => match putv N st.tm o.dst undef with
            | some tm => doDraw N K callK ops n (listed.setIfInBounds i true) F late ⟨tm, st.h⟩ k
            | none => none)
      | none => none)
    | none => match Region.ready .any ops listed with
      | [] => k .normal st
      | [i] => (match ops[i]? with
        | some o => guarded N ops o st
            (fun st =>
              bif late || lateB ops o then
                doOp P N callK o st fun e st' => match e with
                  | .normal => doDraw N K callK ops n (listed.setIfInBounds i true) [] true st' k
                  | e => k e st'
              else doOp P N callK o ⟨st.tm, frz 0 F st.h⟩ fun e st' => match e with
                  | .normal => doDraw N K callK ops n (listed.setIfInBounds i true) F false ⟨st'.tm, thaw 0 F st.h st'.h⟩ k
                  | e => k e ⟨st'.tm, thaw 0 F st.h st'.h⟩)
            (fun st => match putv N st.tm o.dst undef with
              | some tm => doDraw N K callK ops n (listed.setIfInBounds i true) (bif late || lateB ops o then [] else F) (late || lateB ops o) ⟨tm, st.h⟩ k
              | none => none)
        | none => none)
      | _ => none

def iter : Nat → (St → (XE → St → Res) → Res) → St → (XE → St → Res) → Res
  | 0, _, _, _ => none
  | n + 1, b, st, k => b st fun e st' => match e with | .normal => iter n b st' k | e => k e st'

def exec (N : Nat) (K : List Tmp) (fuel : Nat) (callK : CallK) : Code → St → (XE → St → Res) → Res
  | .skip, st, k => k .normal st
  | .seq x y, st, k => exec N K fuel callK x st fun e st' => match e with | .normal => exec N K fuel callK y st' k | e => k e st'
  | .cond (.tmp d) x y, st, k => if d < N then (match get st.tm d with
    | .bool b => bif b then exec N K fuel callK x ⟨(d, .bool true) :: st.tm, st.h⟩ k else exec N K fuel callK y ⟨(d, .bool false) :: st.tm, st.h⟩ k
    | _ => none) else none
  | .block id c, st, k => exec N K fuel callK c st fun e st' => match e with
    | .exit i => if i = id then k .normal st' else k (.exit i) st'
    | e => k e st'
  | .loop c, st, k => iter fuel (fun st k' => exec N K fuel callK c st k') st k
  | .ret, st, k => k .ret st
  | .exit i, st, k => k (.exit i) st
  | .region _ ops false, st, k => doOps P N callK ops ops.toList st k
  | .region _ ops true, st, k => bif Region.noSelect ops then doDraw P N K callK ops ops.size (Array.replicate ops.size false) [] false st k else none
  | _, _, _ => none

def resv (st : St) : List ResultVar → Option (List Value)
  | [] => some []
  | .tmp t :: r => match resv st r with | some vs => some (get st.tm t :: vs) | none => none
  | .cell a t :: r => match aload P st.h t (get st.tm a), resv st r with | some v, some vs => some (v :: vs) | _, _ => none

def outv : List Value → Value
  | [v] => v
  | vs => .tuple vs.toArray

def outOK (n : Nat) : List Value → Bool
  | [_] => true
  | vs => vs.all (scT n)

def initTm : Nat → List Value → Tm
  | _, [] => []
  | n, v :: vs => (n, v) :: initTm (n + 1) vs

def rslots : List ResultVar → List Tmp
  | [] => []
  | .tmp t :: r => t :: rslots r
  | .cell b _ :: r => b :: rslots r

/-- 'defer g(x)'. -/
def dop (ops : Array Oper) : Option (FuncId × Operand) :=
  match ops.toList with
  | [o] => match o.op, o.guard, o.dst with
    | .defer c, none, none => match c.callee, c.args.toList with
      | .value (.func g), [x] => some (g, x)
      | _, _ => none
    | _, _, _ => none
  | _ => none
/-- A body that defers one call, behind its first part. -/
def dshape : Code → Option (Code × FuncId × Operand × Code)
  | .seq c0 (.seq (.region _ ops false) c1) => match dop ops with
    | some (g, x) => some (c0, g, x, c1)
    | none => none
  | _ => none
/-- 's := recover()'. -/
def rop (ops : Array Oper) : Option Tmp :=
  match ops.toList with
  | [o] => match o.op, o.guard, o.dst with
    | .call c, none, some s => match c.callee, c.args.toList with
      | .builtin .recover, [] => some s
      | _, _ => none
    | _, _, _ => none
  | _ => none
/-- A body that first recovers. -/
def rshape : Code → Option (Tmp × Code)
  | .seq (.region _ ops false) c => match rop ops with
    | some s => some (s, c)
    | none => none
  | _ => none

/-- What a function yields at its end. -/
def fin (fn : Func) (st : St) (k : Out → AH → Res) : Res :=
  match resv P st fn.results.toList with | some vs => bif outOK st.h.length vs then k (.ret (outv vs)) st.h else none | none => none

/-- The deferred call: v is what it recovers. -/
def doCatch (loops : Nat) (callK : CallK) (gn : Func) (s : Tmp) (c : Code) (d v : Value) (st : St) (fn : Func) (k : Out → AH → Res) : Res :=
  exec P gn.ntmps [] loops callK c ⟨(s, v) :: initTm 0 [d], st.h⟩ fun e st2 => match e with
    | .normal | .ret => fin P fn ⟨st.tm, st2.h⟩ k
    | _ => none

def doBody (loops : Nat) (callK : CallK) (fn : Func) (c : Code) (args : List Value) (H : AH) (k : Out → AH → Res) : Res :=
  match dshape c with
  | none => exec P fn.ntmps [] loops callK c ⟨initTm 0 args, H⟩ fun e st => match e with
      | .normal | .ret => fin P fn st k
      | .pan v => k (.pan v) st.h
      | _ => none
  | some (c0, g, x, c1) => match P.funcs[g]? with
    | some gn => match gn.body with
      | some gb => match rshape gb with
        | some (s, c2) => if gn.results.toList = [] ∧ 1 ≤ gn.ntmps ∧ s < gn.ntmps then
            exec P fn.ntmps (rslots fn.results.toList) loops callK c0 ⟨initTm 0 args, H⟩ fun e st => match e with
              | .normal => (match ev st.tm x with
                | some d => exec P fn.ntmps (rslots fn.results.toList) loops callK c1 st fun e st' => match e with
                  | .normal | .ret => doCatch P loops callK gn s c2 d .nilIface st' fn k
                  | .pan v => doCatch P loops callK gn s c2 d v st' fn k
                  | _ => none
                | none => none)
              | _ => none
            else none
        | none => none
      | none => none
    | none => none

/-- A call; tbl: functions whose calls are told by a table. -/
def run (tbl : FuncId → Option (List Value → AH → (Out → AH → Res) → Res)) (loops : Nat) : Nat → CallK
  | 0, _, _, _, _ => none
  | n + 1, f, args, H, k =>
    match tbl f with
    | some s => s args H k
    | none => match P.funcs[f]? with
      | some fn => match fn.body with
        | some c => if args.length ≤ fn.ntmps then doBody P loops (run tbl loops n) fn c args H k else none
        | none => none
      | none => none
end
end Go.RX
