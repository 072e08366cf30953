/- An executor of the translated code over a small memory of its own: blocks have numbers of their own; what it computes, the machine computes in whatever memory. This text: the executor. -/
import Derived.Test.YtnidbincddpaaaaA
import Derived.Laws.CopyRow
namespace Go.RX
open Go

/-- A block that is known: its cells from the known place on; wr: it is ours alone. -/
structure Blk where
  cells : List Value
  ty : TypeId
  wr : Bool
  live : Bool
abbrev AH := List Blk

/-- Where a block lies: its number, where the known cells begin, how many elements lie behind them. -/
structure Loc where
  blk : Nat
  off : Nat
  ext : Nat

def cA (σ : Nat → Loc) (a : Addr) : Addr := ⟨(σ a.block).blk, (σ a.block).off + a.off, a.spot⟩
def cS (σ : Nat → Loc) : Value → Value
  | .pointer (some a) => .pointer (some (cA σ a))
  | .slice (some a) n c => .slice (some (cA σ a)) n (c + (σ a.block).ext)
  | v => v
def cT (σ : Nat → Loc) : Value → Value
  | .agg cs => .agg (cs.map (cS σ))
  | v => cS σ v
def cV (σ : Nat → Loc) : Value → Value
  | .tuple vs => .tuple (vs.map (cT σ))
  | v => cT σ v

/-- All blocks that are named are below n; an address has no spot. -/
def scS (n : Nat) : Value → Bool
  | .pointer (some a) => decide (a.block < n)
  | .slice (some a) _ _ => decide (a.block < n)
  | .agg _ => false
  | .tuple _ => false
  | _ => true
def scT (n : Nat) : Value → Bool
  | .agg cs => cs.toList.all (scS n)
  | v => scS n v
def scV (n : Nat) : Value → Bool
  | .tuple vs => vs.toList.all (scT n)
  | v => scT n v

inductive AOut where
  | val (v : Value) (H : AH)
  | enter (f : FuncId) (args : List Value) (H : AH)
  | pan (v : Value) (H : AH)

section
variable (P : Program)

def isAggD : TypeDesc → Bool
  | .struct _ => true
  | .array _ _ => true
  | _ => false
def sizeB (t : TypeId) : Option Nat := (P.info? t).map (·.size)
/-- A part of a struct or an array. -/
def partB (t : TypeId) (cs : Array Value) (off : Nat) : Option Value :=
  match P.underlying t, (P.info? t).map (·.size) with
  | some d, some n => bif isAggD d then some (.agg (cs.extract off (off + n))) else cs[off]?
  | _, _ => none
def esz (t : TypeId) : Nat := ((P.info? t).map (·.size)).getD 0

/-- n cells from off on of block i. -/
def ld (H : AH) (i off n : Nat) : Option (List Value) :=
  match H[i]? with
  | some b => bif b.live then (let l := (b.cells.drop off).take n; if l.length = n then some l else none) else none
  | none => none

def aload (H : AH) (t : TypeId) (p : Value) : Option Value :=
  match p with
  | .pointer (some ⟨i, off, none⟩) =>
    match P.underlying t, sizeB P t with
    | some d, some n =>
      bif isAggD d then (match ld H i off n with | some l => some (.agg l.toArray) | none => none)
      else (match ld H i off 1 with | some [v] => some v | _ => none)
    | _, _ => none
  | _ => none

def astore (H : AH) (t : TypeId) (p v : Value) : Option AH :=
  match p with
  | .pointer (some ⟨i, off, none⟩) =>
    match sizeB P t, H[i]? with
    | some n, some b =>
      if v.cells.size = n ∧ off + n ≤ b.cells.length ∧ b.wr = true ∧ b.live = true ∧ v.cells.toList.all (scS H.length) = true then
        some (H.set i { b with cells := b.cells.take off ++ v.cells.toList ++ b.cells.drop (off + v.cells.toList.length) })
      else none
    | _, _ => none
  | _ => none

def places (fields : Array Field) : Option (List (Nat × Nat)) := fields.toList.mapM fun f => (sizeB P f.type).map fun n => (f.offset, n)

def merge (c : Bool) (a b : Value) : Value :=
  match a, b with
  | .bool x, .bool y => .bool (bif c then x else y)
  | .int k x, .int k' y => if k = k' then .int k (bif c then x else y) else bif c then a else b
  | _, _ => bif c then a else b

/-- '==' of two values of a type. -/
def aeq : Nat → TypeId → Value → Value → Option Bool
  | 0, _, _, _ => none
  | d + 1, t, x, y =>
    match P.underlying t, x, y with
    | some .bool, .bool a, .bool b => some (a == b)
    | some (.int _), .int k a, .int k' b => if k = k' then some (a == b) else none
    | some .string, .string a, .string b => some (a == b)
    | some (.pointer _), .pointer none, .pointer b => some b.isNone
    | some (.pointer _), .pointer (some _), .pointer none => some false
    | some (.slice _), .slice none _ _, .slice b _ _ => some b.isNone
    | some (.slice _), .slice (some _) _ _, .slice none _ _ => some false
    | some (.struct fields), .agg xs, .agg ys =>
      bif P.stoodInHeld t then none else
      fields.toList.foldr (fun f acc =>
        if f.name = "_" then acc else
        match partB P f.type xs f.offset, partB P f.type ys f.offset with
        | some u, some v => match aeq d f.type u v, acc with
          | some b, some c => some (b && c)
          | _, _ => none
        | _, _ => none) (some true)
    | _, _, _ => none

/-- '<' on integers, by cases: for an integer given as 'n + 11' too it computes. -/
def ltB : Int → Int → Bool
  | .ofNat a, .ofNat b => Nat.ble (Nat.succ a) b
  | .negSucc _, .ofNat _ => true
  | .ofNat _, .negSucc _ => false
  | .negSucc a, .negSucc b => Nat.ble (Nat.succ b) a

def abin (op : BinOp) (t : TypeId) (x y : Value) : Option Value :=
  match op, x, y with
  | .shl, .int k a, .int _ b => if b < 0 then none else some (.int k (k.wrap (a * 2 ^ (min b.toNat k.bits))))
  | .shr, .int k a, .int _ b => if b < 0 then none else some (.int k (a.fdiv (2 ^ (min b.toNat k.bits))))
  | .add, .int k a, .int k' b => if k = k' then some (.int k (k.wrap (a + b))) else none
  | .sub, .int k a, .int k' b => if k = k' then some (.int k (k.wrap (a - b))) else none
  | .mul, .int k a, .int k' b => if k = k' then some (.int k (k.wrap (a * b))) else none
  | .quo, .int k a, .int k' b => if k = k' then (if b = 0 then none else some (.int k (k.wrap (a.tdiv b)))) else none
  | .rem, .int k a, .int k' b => if k = k' then (if b = 0 then none else some (.int k (a.tmod b))) else none
  | .and, .int k a, .int k' b => if k = k' then some (.int k (k.wrap (BitVec.ofInt k.bits a &&& BitVec.ofInt k.bits b).toNat)) else none
  | .or, .int k a, .int k' b => if k = k' then some (.int k (k.wrap (BitVec.ofInt k.bits a ||| BitVec.ofInt k.bits b).toNat)) else none
  | .xor, .int k a, .int k' b => if k = k' then some (.int k (k.wrap (BitVec.ofInt k.bits a ^^^ BitVec.ofInt k.bits b).toNat)) else none
  | .eql, .int k a, .int k' b => if k = k' then some (.bool (a == b)) else none
  | .neq, .int k a, .int k' b => if k = k' then some (.bool (a != b)) else none
  | .lss, .int k a, .int k' b => if k = k' then some (.bool (ltB a b)) else none
  | .leq, .int k a, .int k' b => if k = k' then some (.bool (!ltB b a)) else none
  | .gtr, .int k a, .int k' b => if k = k' then some (.bool (ltB b a)) else none
  | .geq, .int k a, .int k' b => if k = k' then some (.bool (!ltB a b)) else none
  | .eql, .string a, .string b => some (.bool (a.toList == b.toList))
  | .neq, .string a, .string b => some (.bool !(a.toList == b.toList))
  | .add, .string a, .string b => if a.size + b.size ≤ 9223372036854775807 then some (.string (a ++ b)) else none
  | .eql, .bool x, .bool y => (match aeq P 9999 t (.bool x) (.bool y) with | some b => some (.bool b) | none => none)
  | .eql, .pointer x, .pointer y => (match aeq P 9999 t (.pointer x) (.pointer y) with | some b => some (.bool b) | none => none)
  | .eql, .slice a l c, .slice b m d => (match aeq P 9999 t (.slice a l c) (.slice b m d) with | some b => some (.bool b) | none => none)
  | .eql, .agg x, .agg y => bif P.eqGuardType P.depth t then none else (match aeq P 9999 t (.agg x) (.agg y) with | some b => some (.bool b) | none => none)
  | .neq, .bool x, .bool y => (match aeq P 9999 t (.bool x) (.bool y) with | some b => some (.bool !b) | none => none)
  | .neq, .pointer x, .pointer y => (match aeq P 9999 t (.pointer x) (.pointer y) with | some b => some (.bool !b) | none => none)
  | .neq, .slice a l c, .slice b m d => (match aeq P 9999 t (.slice a l c) (.slice b m d) with | some b => some (.bool !b) | none => none)
  | .neq, .agg x, .agg y => bif P.eqGuardType P.depth t then none else (match aeq P 9999 t (.agg x) (.agg y) with | some b => some (.bool !b) | none => none)
  | _, _, _ => none

/-- '== nil' of an interface's value. -/
def anil (t : TypeId) (v : Value) : Option Value :=
  match P.underlying t, v with
  | some (.interface _), .nilIface => some (.bool true)
  | some (.interface _), .iface _ _ => some (.bool false)
  | _, _ => none
def abinc (op : BinOp) (t : TypeId) (y : Operand) (a b : Value) : Option Value :=
  match abin P op t a b with
  | some v => some v
  | none => match op, y, b with
    | .eql, .const _, .nilIface => anil P t a
    | _, _, _ => none
/-- A type assertion. -/
def aassert (T : TypeId) (ok : Bool) (v : Value) : Option Value :=
  match P.underlying T with
  | some (.interface _) => none
  | some _ => (match v with
    | .iface t u => if t = T then (bif scT 0 u then some (bif ok then .tuple #[u, .bool true] else u) else none)
        else bif ok then (match (P.info? T).bind (·.zero) with | some z => bif scT 0 z then some (.tuple #[z, .bool false]) else none | none => none) else none
    | .nilIface => bif ok then (match (P.info? T).bind (·.zero) with | some z => bif scT 0 z then some (.tuple #[z, .bool false]) else none | none => none) else none
    | _ => none)
  | none => none

def bytesOf : List Value → ByteArray → Option ByteArray
  | [], s => some s
  | .int .u8 n :: r, s => bytesOf r (s.push (UInt8.ofNat n.toNat))
  | _, _ => none

def aconv (H : AH) (src dst : TypeId) (x : Value) : Option Value :=
  match P.underlying src, P.underlying dst, x with
  | some _, some (.int k), .int _ n => some (.int k (k.wrap n))
  | some (.slice e), some .string, .slice none _ _ => match P.underlying e with | some (.int .u8) => some (.string .empty) | _ => none
  | some (.slice e), some .string, .slice (some ⟨i, off, none⟩) n _ => match P.underlying e with
    | some (.int .u8) => (match ld H i off n with | some l => (match bytesOf l .empty with | some s => some (.string s) | none => none) | none => none)
    | _ => none
  | some .string, some .string, .string s => some (.string s)
  | _, _, _ => none

def aindexAddr (t : TypeId) (x ix : Value) : Option Value :=
  match P.underlying t, x, ix with
  | some (.slice e), .slice (some ⟨i, off, none⟩) n _, .int _ k =>
    if 0 ≤ k ∧ k < n then (match sizeB P e with | some s => some (.pointer (some ((⟨i, off, none⟩ : Addr).add (k.toNat * s)))) | none => none) else none
  | _, _, _ => none

def aindex (t : TypeId) (x ix : Value) : Option Value :=
  match P.underlying t, x, ix with
  | some (.array len e), .agg cs, .int _ k =>
    if 0 ≤ k ∧ k < len then (match sizeB P e with
      | some s => partB P e cs (k.toNat * s)
      | none => none) else none
  | some .string, .string s, .int _ k => if 0 ≤ k then (match s[k.toNat]? with | some b => some (.int .u8 b.toNat) | none => none) else none
  | _, _, _ => none

def afield (t : TypeId) (x : Value) (f : Nat) : Option Value :=
  match P.underlying t, x with
  | some (.struct fields), .agg cs => match fields[f]? with
    | some fd => partB P fd.type cs fd.offset
    | none => none
  | _, _ => none

/-- A bound of a slice expression. -/
def abound (x : Option Value) (top dflt : Nat) : Option Nat :=
  match x with
  | none => some dflt
  | some (.int _ i) => if 0 ≤ i ∧ i ≤ top then some i.toNat else none
  | _ => none

def aslice (t : TypeId) (x : Value) (lo hi mx : Option Value) : Option Value :=
  match P.underlying t, x, mx with
  | some .string, .string s, none => match abound hi s.size s.size with
    | some h => (match abound lo h 0 with | some l => some (.string (s.extract l h)) | none => none)
    | none => none
  | some (.slice e), .slice (some ⟨i, off, none⟩) n c, none =>
    match sizeB P e, abound hi n n with
    | some s, some h => (match abound lo h 0 with
      | some l => if l < c ∧ n ≤ c then some (.slice (some ((⟨i, off, none⟩ : Addr).add (l * s))) (h - l) (c - l)) else none
      | none => none)
    | _, _ => none
  | some (.slice e), .slice none 0 0, none =>
    match sizeB P e, abound hi 0 0 with
    | some _, some h => (match abound lo h 0 with | some _ => some (.slice none 0 0) | none => none)
    | _, _ => none
  | _, _, _ => none

/-- append(s, x): elements of type e. What s owned lies in a new block from now on. -/
def aappend (H : AH) (t : TypeId) (s x : Value) : Option (Value × AH) :=
  match P.underlying t with
  | some (.slice e) =>
    match P.info? e with
    | some ie =>
      match ie.zero with
      | some z =>
        if z.cells.size = ie.size ∧ 0 < ie.size then
        match s, x with
        | .slice a n c, .slice _ 0 _ => if n ≤ c then some (.slice a n c, H) else none
        | .slice none 0 0, .slice (some ⟨j, off, none⟩) m _ =>
          (match ld H j off (m * ie.size) with
          | some new => if m * ie.bytes ≤ 1000000000 ∧ m ≤ 1000000000 then some (.slice (some ⟨H.length, 0, none⟩) m m, H ++ [⟨new, e, true, true⟩]) else none
          | none => none)
        | .slice (some ⟨i, 0, none⟩) n c, .slice (some ⟨j, off, none⟩) m _ =>
          (match ld H j off (m * ie.size), H[i]? with
          | some new, some b => if b.live = true ∧ b.wr = true ∧ b.ty = e ∧ n = c ∧ b.cells.length = n * ie.size ∧ (n + m) * ie.bytes ≤ 1000000000 ∧ n + m ≤ 1000000000 then
              some (.slice (some ⟨H.length, 0, none⟩) (n + m) (n + m), List.set H i { b with live := false } ++ [⟨b.cells ++ new, e, true, true⟩])
            else none
          | _, _ => none)
        | _, _ => none
        else none
      | none => none
    | none => none
  | _ => none

/-- append(bytes, a string...). -/
def aappends (H : AH) (t t' : TypeId) (s : Value) (x : ByteArray) : Option (Value × AH) :=
  match P.underlying t, P.underlying t' with
  | some (.slice e), some .string =>
    match P.info? e with
    | some ie =>
      match ie.zero with
      | some (.int .u8 0) =>
        if ie.size = 1 ∧ ie.bytes = 1 ∧ 0 < x.size then
        match s with
        | .slice none 0 0 => if x.size ≤ 1000000000 then some (.slice (some ⟨H.length, 0, none⟩) x.size x.size, H ++ [⟨x.data.toList.map fun b => Value.int .u8 b.toNat, e, true, true⟩]) else none
        | .slice (some ⟨i, 0, none⟩) n c =>
          (match H[i]? with
          | some b => if b.live = true ∧ b.wr = true ∧ b.ty = e ∧ n = c ∧ b.cells.length = n * ie.size ∧ n + x.size ≤ 1000000000 then
              some (.slice (some ⟨H.length, 0, none⟩) (n + x.size) (n + x.size), List.set H i { b with live := false } ++ [⟨b.cells ++ x.data.toList.map fun b => Value.int .u8 b.toNat, e, true, true⟩])
            else none
          | none => none)
        | _ => none
        else none
      | _ => none
    | none => none
  | _, _ => none

def alen (t : TypeId) (x : Value) : Option Value :=
  match P.underlying t, x with
  | some .string, .string s => some (.int .i64 s.size)
  | some (.array n _), _ => some (.int .i64 n)
  | some (.slice _), .slice _ n _ => some (.int .i64 n)
  | _, _ => none
end
end Go.RX
