/- The executor: operations, told as they are. -/
import Derived.Test.YtnidbincddpaaaaE1
import Derived.Orders
namespace Go.RX
open Go

inductive AOut where
  | val (v : Value) (H : AH)
  | enter (f : FuncId) (args : List Value) (H : AH)
  | pan (v : Value) (H : AH)

/-- The temporaries that are known. -/
abbrev Tm := Tr Value

section
variable (P : Program)

def isAggD : TypeDesc → Bool
  | .struct _ => true
  | .array _ _ => true
  | _ => false
def sizeB (t : TypeId) : Option Nat := (P.info? t).map (·.size)
/-- A part of a struct or an array. -/
def partB (t : TypeId) (cs : Array Value) (off : Nat) : Option Value :=
  match P.underlying t, (P.info? t).map (·.size) with
  | some d, some n => bif isAggD d then some (.agg (cs.extract off (off + n))) else cs[off]?
  | _, _ => none
def esz (t : TypeId) : Nat := ((P.info? t).map (·.size)).getD 0

/-- n cells from off on of block i. -/
noncomputable def ld (H : AH) (i off n : Nat) : Option (List Value) :=
  match H.get i with
  | some b => bif b.live && Nat.beq ((b.cells.drop off).take n).length n then some ((b.cells.drop off).take n) else none
  | none => none

noncomputable def aload (H : AH) (t : TypeId) (p : Value) : Option Value :=
  match p with
  | .pointer (some ⟨i, off, none⟩) =>
    match P.underlying t, sizeB P t with
    | some d, some n =>
      bif isAggD d then (match ld H i off n with | some l => some (.agg l.toArray) | none => none)
      else (match H.get i with | some b => bif b.live then b.cells[off]? else none | none => none)
    | _, _ => none
  | _ => none

noncomputable def astore (H : AH) (t : TypeId) (p v : Value) : Option AH :=
  match p with
  | .pointer (some ⟨i, off, none⟩) =>
    match sizeB P t, H.get i with
    | some n, some b =>
      bif Nat.beq v.cells.size n && Nat.ble (off + n) b.cells.length && b.wr && b.live && v.cells.toList.all (scS H.size) && (!b.pl || v.cells.toList.all (scS 0)) then
        some (H.set i ⟨b.cells.take off ++ v.cells.toList ++ b.cells.drop (off + v.cells.toList.length), b.ty, true, true, b.pl, none⟩)
      else none
    | _, _ => none
  | _ => none

def places (fields : Array Field) : Option (List (Nat × Nat)) := fields.toList.mapM fun f => (sizeB P f.type).map fun n => (f.offset, n)

def merge (c : Bool) (a b : Value) : Value :=
  match a, b with
  | .bool x, .bool y => .bool (bif c then x else y)
  | .int k x, .int k' y => if k = k' then .int k (bif c then x else y) else bif c then a else b
  | _, _ => bif c then a else b

/-- '==' of two values of a type. -/
def aeq : Nat → TypeId → Value → Value → Option Bool
  | 0, _, _, _ => none
  | d + 1, t, x, y =>
    match P.underlying t, x, y with
    | some .bool, .bool a, .bool b => some (a == b)
    | some (.int _), .int k a, .int k' b => if k = k' then some (a == b) else none
    | some .string, .string a, .string b => some (a == b)
    | some (.pointer _), .pointer none, .pointer b => some b.isNone
    | some (.pointer _), .pointer (some _), .pointer none => some false
    | some (.slice _), .slice none _ _, .slice b _ _ => some b.isNone
    | some (.slice _), .slice (some _) _ _, .slice none _ _ => some false
    | some (.map _ _), .map none, .map b => some b.isNone
    | some (.map _ _), .map (some _), .map none => some false
    | some (.func _ _ _), .nilFunc, .nilFunc => some true
    | some (.func _ _ _), .nilFunc, .func _ _ _ => some false
    | some (.func _ _ _), .func _ _ _, .nilFunc => some false
    | some (.struct fields), .agg xs, .agg ys =>
      bif P.stoodInHeld t then none else
      fields.toList.foldr (fun f acc =>
        if f.name = "_" then acc else
        match partB P f.type xs f.offset, partB P f.type ys f.offset with
        | some u, some v => match aeq d f.type u v, acc with
          | some b, some c => some (b && c)
          | _, _ => none
        | _, _ => none) (some true)
    | _, _, _ => none

/-- '<' on integers, by cases: for an integer given as 'n + 11' too it computes. -/
def ltB : Int → Int → Bool
  | .ofNat a, .ofNat b => Nat.ble (Nat.succ a) b
  | .negSucc _, .ofNat _ => true
  | .ofNat _, .negSucc _ => false
  | .negSucc a, .negSucc b => Nat.ble (Nat.succ b) a

def abin (op : BinOp) (t : TypeId) (x y : Value) : Option Value :=
  match op, x, y with
  | .shl, .int k a, .int _ b => if b < 0 then none else some (.int k (k.wrap (a * 2 ^ (min b.toNat k.bits))))
  | .shr, .int k a, .int _ b => if b < 0 then none else some (.int k (a.fdiv (2 ^ (min b.toNat k.bits))))
  | .add, .int k a, .int k' b => if k = k' then some (.int k (k.wrap (a + b))) else none
  | .sub, .int k a, .int k' b => if k = k' then some (.int k (k.wrap (a - b))) else none
  | .mul, .int k a, .int k' b => if k = k' then some (.int k (k.wrap (a * b))) else none
  | .quo, .int k a, .int k' b => if k = k' then (if b = 0 then none else some (.int k (k.wrap (a.tdiv b)))) else none
  | .rem, .int k a, .int k' b => if k = k' then (if b = 0 then none else some (.int k (a.tmod b))) else none
  | .and, .int k a, .int k' b => if k = k' then some (.int k (k.wrap (BitVec.ofInt k.bits a &&& BitVec.ofInt k.bits b).toNat)) else none
  | .or, .int k a, .int k' b => if k = k' then some (.int k (k.wrap (BitVec.ofInt k.bits a ||| BitVec.ofInt k.bits b).toNat)) else none
  | .xor, .int k a, .int k' b => if k = k' then some (.int k (k.wrap (BitVec.ofInt k.bits a ^^^ BitVec.ofInt k.bits b).toNat)) else none
  | .andNot, .int k a, .int k' b => if k = k' then some (.int k (k.wrap (BitVec.ofInt k.bits a &&& ~~~ (BitVec.ofInt k.bits b)).toNat)) else none
  | .eql, .int k a, .int k' b => if k = k' then some (.bool (a == b)) else none
  | .neq, .int k a, .int k' b => if k = k' then some (.bool (a != b)) else none
  | .lss, .int k a, .int k' b => if k = k' then some (.bool (ltB a b)) else none
  | .leq, .int k a, .int k' b => if k = k' then some (.bool (!ltB b a)) else none
  | .gtr, .int k a, .int k' b => if k = k' then some (.bool (ltB b a)) else none
  | .geq, .int k a, .int k' b => if k = k' then some (.bool (!ltB a b)) else none
  | .eql, .string a, .string b => some (.bool (a.toList == b.toList))
  | .neq, .string a, .string b => some (.bool !(a.toList == b.toList))
  | .add, .string a, .string b => if a.size + b.size ≤ 9223372036854775807 then some (.string (a ++ b)) else none
  | .eql, .bool x, .bool y => (match aeq P 9999 t (.bool x) (.bool y) with | some b => some (.bool b) | none => none)
  | .eql, .pointer x, .pointer y => (match aeq P 9999 t (.pointer x) (.pointer y) with | some b => some (.bool b) | none => none)
  | .eql, .slice a l c, .slice b m d => (match aeq P 9999 t (.slice a l c) (.slice b m d) with | some b => some (.bool b) | none => none)
  | .eql, .map a, .map b => (match aeq P 9999 t (.map a) (.map b) with | some b => some (.bool b) | none => none)
  | .eql, .func a l c, .nilFunc => (match aeq P 9999 t (.func a l c) .nilFunc with | some b => some (.bool b) | none => none)
  | .eql, .agg x, .agg y => bif P.eqGuardType P.depth t then none else (match aeq P 9999 t (.agg x) (.agg y) with | some b => some (.bool b) | none => none)
  | .neq, .bool x, .bool y => (match aeq P 9999 t (.bool x) (.bool y) with | some b => some (.bool !b) | none => none)
  | .neq, .pointer x, .pointer y => (match aeq P 9999 t (.pointer x) (.pointer y) with | some b => some (.bool !b) | none => none)
  | .neq, .slice a l c, .slice b m d => (match aeq P 9999 t (.slice a l c) (.slice b m d) with | some b => some (.bool !b) | none => none)
  | .neq, .map a, .map b => (match aeq P 9999 t (.map a) (.map b) with | some b => some (.bool !b) | none => none)
  | .neq, .func a l c, .nilFunc => (match aeq P 9999 t (.func a l c) .nilFunc with | some b => some (.bool !b) | none => none)
  | .neq, .agg x, .agg y => bif P.eqGuardType P.depth t then none else (match aeq P 9999 t (.agg x) (.agg y) with | some b => some (.bool !b) | none => none)
  | _, _, _ => none

/-- '== nil' of an interface's value. -/
def anil (t : TypeId) (v : Value) : Option Bool :=
  match P.underlying t, v with
  | some (.interface _), .nilIface => some true
  | some (.interface _), .iface _ _ => some false
  | _, _ => none
def abinc (op : BinOp) (t : TypeId) (y : Operand) (a b : Value) : Option Value :=
  match abin P op t a b with
  | some v => some v
  | none => match op, y, b with
    | .eql, .const _, .nilIface => (anil P t a).map .bool
    | .neq, .const _, .nilIface => (anil P t a).map fun b => .bool !b
    | _, _, _ => none
/-- What may lie in an interface or in a function. -/
def inI (n : Nat) (v : Value) : Bool := scT n v && s2 n v
/-- A type assertion. -/
def aassert (n : Nat) (T : TypeId) (ok : Bool) (v : Value) : Option Value :=
  match P.underlying T with
  | some (.interface _) => none
  | some _ => (match v with
    | .iface t u => if t = T then (bif inI n u then some (bif ok then .tuple #[u, .bool true] else u) else none)
        else bif ok then (match (P.info? T).bind (·.zero) with | some z => bif scT 0 z then some (.tuple #[z, .bool false]) else none | none => none) else none
    | .nilIface => bif ok then (match (P.info? T).bind (·.zero) with | some z => bif scT 0 z then some (.tuple #[z, .bool false]) else none | none => none) else none
    | _ => none)
  | none => none

def bytesOf : List Value → ByteArray → Option ByteArray
  | [], s => some s
  | .int .u8 n :: r, s => bytesOf r (s.push (UInt8.ofNat n.toNat))
  | _, _ => none

/-- An address of elements that can be gone to: no mark, or mark 0 at a row. -/
noncomputable def reachB (H : AH) (a : Addr) : Bool :=
  match a.spot with
  | none => true
  | some 0 => (match H.get a.block with | some b => b.live | none => false)
  | some (_ + 1) => false

noncomputable def aconv (H : AH) (src dst : TypeId) (x : Value) : Option Value :=
  match P.underlying src, P.underlying dst, x with
  | some _, some (.int k), .int _ n => some (.int k (k.wrap n))
  | some (.slice e), some .string, .slice none _ _ => match P.underlying e with | some (.int .u8) => some (.string .empty) | _ => none
  | some (.slice e), some .string, .slice (some a) n _ => match P.underlying e with
    | some (.int .u8) => if n = 0 then some (.string .empty) else bif reachB H a then
        (match ld H a.block a.off n with | some l => (match bytesOf l .empty with | some s => some (.string s) | none => none) | none => none) else none
    | _ => none
  | some .string, some .string, .string s => some (.string s)
  | _, _, _ => none

noncomputable def aindexAddr (H : AH) (t : TypeId) (x ix : Value) : Option Value :=
  match P.underlying t, x, ix with
  | some (.slice e), .slice (some a) n _, .int _ k =>
    if 0 ≤ k ∧ k < n then (bif reachB H a then (match sizeB P e with | some s => some (.pointer (some ⟨a.block, a.off + k.toNat * s, none⟩)) | none => none) else none) else none
  | some (.array n e), .pointer (some ⟨i, off, none⟩), .int _ k =>
    if 0 ≤ k ∧ k < n then (match sizeB P e with | some s => some (.pointer (some ⟨i, off + k.toNat * s, none⟩)) | none => none) else none
  | _, _, _ => none

def aindex (t : TypeId) (x ix : Value) : Option Value :=
  match P.underlying t, x, ix with
  | some (.array len e), .agg cs, .int _ k =>
    if 0 ≤ k ∧ k < len then (match sizeB P e with
      | some s => partB P e cs (k.toNat * s)
      | none => none) else none
  | some .string, .string s, .int _ k => if 0 ≤ k then (match s[k.toNat]? with | some b => some (.int .u8 b.toNat) | none => none) else none
  | _, _, _ => none

def afield (t : TypeId) (x : Value) (f : Nat) : Option Value :=
  match P.underlying t, x with
  | some (.struct fields), .agg cs => match fields[f]? with
    | some fd => partB P fd.type cs fd.offset
    | none => none
  | _, _ => none

/-- A bound of a slice expression. -/
def abound (x : Option Value) (top dflt : Nat) : Option Nat :=
  match x with
  | none => some dflt
  | some (.int _ i) => if 0 ≤ i ∧ i ≤ top then some i.toNat else none
  | _ => none

/-- a[l:h:m] of a slice whose elements are of size s; c: the elements up to the capacity that is known. -/
def acut (a : Addr) (s l h c : Nat) (full : Option Nat) : Option Value :=
  match full, a.spot with
  | none, none => some (if l < c then .slice (some ⟨a.block, a.off + l * s, none⟩) (h - l) (c - l) else .slice (some ⟨a.block, a.off + l * s, some (l * s + 1)⟩) 0 0)
  | none, some 0 => some (if l < c then .slice (some ⟨a.block, a.off + l * s, some 0⟩) (h - l) (c - l) else .slice (some ⟨a.block, a.off, some 0⟩) 0 0)
  | some m, none => some (if l < m then .slice (some ⟨a.block, a.off + l * s, some 0⟩) (h - l) (m - l) else .slice (some ⟨a.block, a.off, some 0⟩) 0 0)
  | some m, some 0 => some (if l < m then .slice (some ⟨a.block, a.off + l * s, some 0⟩) (h - l) (m - l) else .slice (some ⟨a.block, a.off, some 0⟩) 0 0)
  | _, _ => none

noncomputable def liveB (H : AH) (i : Nat) : Bool := match H.get i with | some b => b.live | none => false

noncomputable def aslice (H : AH) (t : TypeId) (x : Value) (lo hi mx : Option Value) : Option Value :=
  match P.underlying t, x, mx with
  | some .string, .string s, none => match abound hi s.size s.size with
    | some h => (match abound lo h 0 with | some l => some (.string (s.extract l h)) | none => none)
    | none => none
  | some (.slice e), .slice (some a) n c, none =>
    match sizeB P e, abound hi n n with
    | some s, some h => (match abound lo h 0 with
      | some l => if n ≤ c then (bif liveB H a.block then acut a s l h c none else none) else none
      | none => none)
    | _, _ => none
  | some (.slice e), .slice (some a) _ c, some m =>
    match sizeB P e, abound (some m) c c with
    | some s, some m => (match hi, abound hi m m with
      | some _, some h => (match abound lo h 0 with
        | some l => bif liveB H a.block then acut a s l h c (some m) else none
        | none => none)
      | _, _ => none)
    | _, _ => none
  | some (.slice e), .slice none 0 0, none =>
    match sizeB P e, abound hi 0 0 with
    | some _, some h => (match abound lo h 0 with | some _ => some (.slice none 0 0) | none => none)
    | _, _ => none
  | some (.slice e), .slice none 0 0, some m =>
    match sizeB P e, abound (some m) 0 0, hi with
    | some _, some _, some _ => (match abound hi 0 0 with
      | some h => (match abound lo h 0 with | some _ => some (.slice none 0 0) | none => none)
      | none => none)
    | _, _, _ => none
  | _, _, _ => none

/-- What an append takes: cells, how many elements, whether they name no block. -/
noncomputable def asrc (H : AH) (t' : TypeId) (z : Value) (s : Nat) (x : Value) : Option (List Value × Nat × Bool) :=
  match P.underlying t', x with
  | some .string, .string b => (match z with
    | .int .u8 0 => if s = 1 then some (b.data.toList.map fun b => Value.int .u8 b.toNat, b.size, true) else none
    | _ => none)
  | some (.slice _), .slice none 0 _ => some ([], 0, true)
  | some (.slice _), .slice (some a) m _ => if m = 0 then some ([], 0, true) else
    bif reachB H a then (match ld H a.block a.off (m * s), H.get a.block with | some l, some b => some (l, m, b.pl) | _, _ => none) else none
  | _, _ => none

/-- A slice with a mark above 0 has no element. -/
def endB (s : Option Nat) (n c : Nat) : Bool :=
  match s with
  | some (_ + 1) => Nat.beq n 0 && Nat.beq c 0
  | _ => true

/-- append(s, x): elements of type e. What s owned lies in a new block from now on. -/
noncomputable def aappend (H : AH) (t t' : TypeId) (sl x : Value) : Option (Value × AH) :=
  match P.underlying t with
  | some (.slice e) =>
    match P.info? e with
    | some ie =>
      match ie.zero with
      | some z =>
        if z.cells.size = ie.size ∧ 0 < ie.size then
        match asrc P H t' z ie.size x with
        | some (new, m, pl) =>
          if m = 0 then (match sl with | .slice a n c => if n ≤ c then some (.slice a n c, H) else none | _ => none) else
          match sl with
          | .slice none 0 0 => if m * ie.bytes ≤ 1000000000 ∧ m ≤ 1000000000 then some (.slice (some ⟨H.size, 0, none⟩) m m, H.push (row new e pl)) else none
          | .slice (some a) n c =>
            (match ld H a.block a.off (n * ie.size), H.get a.block with
            | some old, some b =>
              if b.wr = true ∧ b.ty = e ∧ (n + m) * ie.bytes ≤ 1000000000 ∧ n + m ≤ 1000000000 ∧ n ≤ c ∧ a.off + c * ie.size ≤ b.cells.length ∧ endB a.spot n c = true then
                some (.slice (some ⟨H.size, 0, none⟩) (n + m) (n + m), (H.set a.block b.kill).push (row (old ++ new) e (b.pl && pl)))
              else none
            | _, _ => none)
          | _ => none
        | none => none
        else none
      | none => none
    | none => none
  | _ => none

def alen (t : TypeId) (x : Value) : Option Value :=
  match P.underlying t, x with
  | some .string, .string s => some (.int .i64 s.size)
  | some (.array n _), _ => some (.int .i64 n)
  | some (.slice _), .slice _ n _ => some (.int .i64 n)
  | _, _ => none

/-- min, max of integers. -/
def amin2 (most : Bool) : Value → Value → Option Value
  | .int k x, .int _ y => some (.int k (bif most then (bif ltB x y then y else x) else (bif ltB y x then y else x)))
  | _, _ => none
def aminmax (most : Bool) : List Value → Option Value
  | [] => none
  | .int k x :: r => r.foldlM (amin2 most) (.int k x)
  | _ => none

noncomputable def ev (tm : Tm) : Operand → Option Value
  | .tmp t => tm.get t
  | .const v => bif scV 0 v then some v else none
  | .func f => some (.func (.func f) #[] #[])
  | .global _ => none

noncomputable def evs (tm : Tm) : List Operand → Option (List Value)
  | [] => some []
  | x :: r => match ev tm x, evs tm r with
    | some v, some vs => some (v :: vs)
    | _, _ => none

noncomputable def evo (tm : Tm) : Option Operand → Option (Option Value)
  | none => some none
  | some x => match ev tm x with | some v => some (some v) | none => none

def oval (H : AH) : Option Value → Option AOut
  | some v => some (.val v H)
  | none => none

noncomputable def aop (tm : Tm) (H : AH) (op : Op) : Option AOut :=
  match op with
  | .move x | .assign x => oval H (ev tm x)
  | .pick c a b => match ev tm c, ev tm a, ev tm b with
    | some (.bool c), some a, some b => some (.val (merge c a b) H)
    | _, _, _ => none
  | .alloc t => match (P.info? t).bind (·.zero) with
    | some z => bif z.cells.toList.all (scS 0) then some (.val (.pointer (some ⟨H.size, 0, none⟩)) (H.push (row z.cells.toList t (z.cells.toList.all isScal)))) else none
    | none => none
  | .box t x => match ev tm x with
    | some v => bif v.cells.toList.all (scS H.size) then some (.val (.pointer (some ⟨H.size, 0, none⟩)) (H.push (row v.cells.toList t (v.cells.toList.all isScal)))) else none
    | none => none
  | .build t parts => match (P.info? t).bind (·.zero), P.underlying t, evs tm (parts.toList.map (·.2)) with
    | some z, some (.struct fields), some vs => match places P fields with
      | some pl => (match Instr.fill (pl.toArray[·]?) z.cells ((parts.toList.map (·.1)).zip vs) with
        | some cs => bif z.cells.toList.all (scS 0) && vs.all (fun v => v.cells.toList.all (scS H.size)) then some (.val (.agg cs) H) else none
        | none => none)
      | none => none
    | some z, some (.array _ e), some vs => match sizeB P e with
      | some s => (match Instr.fill (fun i => some (i * s, s)) z.cells ((parts.toList.map (·.1)).zip vs) with
        | some cs => bif z.cells.toList.all (scS 0) && vs.all (fun v => v.cells.toList.all (scS H.size)) then some (.val (.agg cs) H) else none
        | none => none)
      | none => none
    | _, _, _ => none
  | .buildSlice t len parts => match P.underlying t, evs tm (parts.toList.map (·.2)) with
    | some (.slice e), some vs => match P.info? e with
      | some ie => if len * ie.size > 16777216 then none else
        if len * ie.size = 0 then (if parts.toList.length = 0 then some (.val (.slice (some ⟨H.size, 0, none⟩) len len) (H.push (row [] e true))) else none) else
        (match ie.zero with
        | some z => (match Instr.fill (fun i => some (i * ie.size, ie.size)) ((Array.range (len * ie.size)).map (z.cells[· % z.cells.size]!)) ((parts.toList.map (·.1)).zip vs) with
          | some cs => bif z.cells.toList.all (scS 0) && vs.all (fun v => v.cells.toList.all (scS H.size)) then
              some (.val (.slice (some ⟨H.size, 0, none⟩) len len) (H.push (row cs.toList e (cs.toList.all isScal)))) else none
          | none => none)
        | none => none)
      | none => none
    | _, _ => none
  | .load t a => match ev tm a with
    | some p => oval H (aload P H t p)
    | none => none
  | .store t a x => match ev tm a, ev tm x with
    | some p, some v => (match astore P H t p v with | some H' => some (.val undef H') | none => none)
    | _, _ => none
  | .nilCheck x => match ev tm x with
    | some (.pointer (some a)) => some (.val (.pointer (some a)) H)
    | some (.func (.func f) a b) => some (.val (.func (.func f) a b) H)
    | _ => none
  | .binOp op t x y _ => match ev tm x, ev tm y with
    | some a, some b => oval H (abinc P op t y a b)
    | _, _ => none
  | .unOp .not _ x => match ev tm x with
    | some (.bool b) => some (.val (.bool !b) H)
    | _ => none
  | .unOp .neg _ x => match ev tm x with
    | some (.int k n) => some (.val (.int k (k.wrap (0 - n))) H)
    | _ => none
  | .convert src dst x => match ev tm x, P.underlying src, P.underlying dst with
    | some (.string s), some _, some (.slice e) => (match P.underlying e with
      | some (.int .u8) => if esz P e = 1 ∧ s.size ≤ 1000000000 then some (.val (.slice (some ⟨H.size, 0, none⟩) s.size s.size) (H.push (row (s.data.toList.map fun b => Value.int .u8 b.toNat) e true))) else none
      | _ => none)
    | some v, _, _ => oval H (aconv P H src dst v)
    | none, _, _ => none
  | .makeInterface t x => match ev tm x with
    | some v => (match P.underlying t with
      | some (.interface _) => none
      | some _ => bif inI H.size v then some (.val (.iface t v) H) else none
      | none => none)
    | none => none
  | .slice t x lo hi mx => match ev tm x, evo tm lo, evo tm hi, evo tm mx with
    | some v, some l, some h, some m => oval H (aslice P H t v l h m)
    | _, _, _, _ => none
  | .fieldAddr t x f => match ev tm x, P.underlying t with
    | some (.pointer (some ⟨i, off, none⟩)), some (.struct fields) => match fields[f]? with
      | some fd => (match sizeB P fd.type with
        | some s => if s = 0 then none else some (.val (.pointer (some ⟨i, off + fd.offset, none⟩)) H)
        | none => none)
      | none => none
    | _, _ => none
  | .field t x f => match ev tm x with
    | some v => oval H (afield P t v f)
    | none => none
  | .indexAddr t x ix => match ev tm x, ev tm ix with
    | some v, some i => oval H (aindexAddr P H t v i)
    | _, _ => none
  | .index t x ix => match ev tm x, ev tm ix with
    | some v, some i => oval H (aindex P t v i)
    | _, _ => none
  | .extract x i => match ev tm x with
    | some (.tuple vs) => oval H vs[i]?
    | _ => none
  | .call { callee := .value (.func f), args, .. } => match evs tm args.toList with
    | some vs => (match P.funcs[f]? with | some fn => bif fn.body.isSome then some (.enter f vs H) else none | none => none)
    | none => none
  | .call { callee := .builtin .len, args, argTypes } => match evs tm args.toList, argTypes.toList with
    | some [v], [t] => oval H (alen P t v)
    | _, _ => none
  | .call { callee := .builtin .min, args, .. } => match evs tm args.toList with
    | some vs => oval H (aminmax false vs)
    | _ => none
  | .call { callee := .builtin .max, args, .. } => match evs tm args.toList with
    | some vs => oval H (aminmax true vs)
    | _ => none
  | .call { callee := .builtin .append, args, argTypes } => match evs tm args.toList, argTypes.toList with
    | some [s, x], [t, t'] => (match aappend P H t t' s x with | some (v, H') => some (.val v H') | none => none)
    | _, _ => none
  | .typeAssert x _ T ok => match ev tm x with
    | some v => oval H (aassert P H.size T ok v)
    | none => none
  | .panic x => match ev tm x with
    | some (.iface t v) => bif scT 0 v && s2 0 v then some (.pan (.iface t v) H) else none
    | _ => none
  | _ => none
end
end Go.RX
