/- The executor: an operation and what comes behind it. What an operation asks of lengths that are not known comes out as a condition. -/
import Derived.Test.YtnidbincddpaaaaE7
namespace Go.RX
open Go Go.RowKit

inductive Out where
  | ret (v : Value)
  | pan (v : Value)
abbrev Res := Option (Out × AH)
abbrev CallK := FuncId → List Value → AH → (Out → AH → Res) → Res

/-- Lists, by their recursor. -/
noncomputable def lget {α : Type} (l : List α) : Nat → Option α :=
  List.rec (motive := fun _ => Nat → Option α) (fun _ => none) (fun a _ ih n => Nat.rec (motive := fun _ => Option α) (some a) (fun m _ => ih m) n) l
noncomputable def llen {α : Type} (l : List α) : Nat := List.rec (motive := fun _ => Nat) 0 (fun _ _ ih => Nat.add ih 1) l
noncomputable def ldrop {α : Type} (l : List α) (n : Nat) : List α :=
  Nat.rec (motive := fun _ => List α → List α) (fun l => l) (fun _ ih l => List.casesOn (motive := fun _ => List α) l [] fun _ r => ih r) n l
noncomputable def ltake {α : Type} (l : List α) (n : Nat) : List α :=
  Nat.rec (motive := fun _ => List α → List α) (fun _ => []) (fun _ ih l => List.casesOn (motive := fun _ => List α) l [] fun a r => a :: ih r) n l
noncomputable def lapp {α : Type} (l m : List α) : List α := List.rec (motive := fun _ => List α) m (fun a _ ih => a :: ih) l
noncomputable def lset {α : Type} (l : List α) (v : α) : Nat → List α :=
  List.rec (motive := fun _ => Nat → List α) (fun _ => []) (fun a r ih n => Nat.rec (motive := fun _ => List α) (v :: r) (fun m _ => a :: ih m) n) l

theorem lget_eq {α : Type} (l : List α) : ∀ n, lget l n = l[n]? := by
  induction l with
  | nil => intro n; rfl
  | cons a l ih =>
    intro n
    cases n with
    | zero => rfl
    | succ n => show lget l n = _; rw [ih]; simp
theorem llen_eq {α : Type} (l : List α) : llen l = l.length := by
  induction l with
  | nil => rfl
  | cons a l ih => show llen l + 1 = _; rw [ih]; rfl
theorem ldrop_eq {α : Type} : ∀ (n : Nat) (l : List α), ldrop l n = l.drop n
  | 0, l => rfl
  | n + 1, [] => by show (List.nil : List α) = _; simp
  | n + 1, a :: l => by show ldrop l n = _; rw [ldrop_eq n l]; rfl
theorem ltake_eq {α : Type} : ∀ (n : Nat) (l : List α), ltake l n = l.take n
  | 0, l => by show (List.nil : List α) = _; simp
  | n + 1, [] => rfl
  | n + 1, a :: l => by show a :: ltake l n = _; rw [ltake_eq n l]; rfl
theorem lapp_eq {α : Type} (l m : List α) : lapp l m = l ++ m := by
  induction l with
  | nil => rfl
  | cons a l ih => show a :: lapp l m = _; rw [ih]; rfl
theorem lset_eq {α : Type} (v : α) (l : List α) : ∀ n, lset l v n = l.set n v := by
  induction l with
  | nil => intro n; rfl
  | cons a l ih =>
    intro n
    cases n with
    | zero => rfl
    | succ n => show a :: lset l v n = _; rw [ih]; rfl

section
variable (P : Program)

/-- 0 ≤ k < n. -/
def inB (k : Int) (n : Nat) : Bool := !ltB k 0 && ltB k n
def bnd (x : Option Value) (top : Nat) : Bool :=
  match x with
  | some (.int _ i) => !ltB i 0 && !ltB top i
  | _ => true
def bndU (x : Option Value) (dflt : Nat) : Option Nat :=
  match x with
  | none => some dflt
  | some (.int _ i) => some i.toNat
  | _ => none
def isU8 : Value → Bool
  | .int .u8 _ => true
  | _ => false
def byteVal : Value → UInt8
  | .int .u8 n => UInt8.ofNat n.toNat
  | _ => 0
/-- A value that is one word. -/
def isFlat : Value → Bool
  | .agg _ => false
  | .tuple _ => false
  | _ => true

/-- A type: whether it is a struct or an array, and how many cells it has. -/
def tyB (t : TypeId) : Option (Bool × Nat) :=
  match P.underlying t, sizeB P t with
  | some d, some n => some (isAggD d, n)
  | _, _ => none

abbrev KV := Value → AH → Res

/-- What an operation yields, told to what comes behind it. -/
def told (kv kp : KV) (kc : FuncId → List Value → AH → Res) : AOut → Res
  | .val v H => kv v H
  | .enter f args H => kc f args H
  | .pan v H => kp v H
noncomputable def hGen (tm : Tm) (H : AH) (op : Op) (kv kp : KV) (kc : FuncId → List Value → AH → Res) : Res :=
  match aop P tm H op with
  | some out => told kv kp kc out
  | none => none

noncomputable def hLoad (tm : Tm) (H : AH) (t : TypeId) (a : Operand) (kv : KV) : Res :=
  match ev tm a with
  | some (.pointer (some ⟨i, off, none⟩)) => (match tyB P t, H.get i with
    | some (agg, n), some b => bif b.live then
        (bif agg then (bif Nat.beq (llen (ltake (ldrop b.cells off) n)) n then kv (.agg ⟨ltake (ldrop b.cells off) n⟩) H else none)
        else (match lget b.cells off with | some v => kv v H | none => none)) else none
    | _, _ => none)
  | _ => none
noncomputable def hStore (tm : Tm) (H : AH) (t : TypeId) (a x : Operand) (kv : KV) : Res :=
  match ev tm a, ev tm x with
  | some (.pointer (some ⟨i, off, none⟩)), some v => (match tyB P t, H.get i with
    | some (agg, n), some b => bif b.live && b.wr then
        (bif agg then (match v with
          | .agg cs => bif Nat.beq (llen cs.toList) n && Nat.ble (off + n) (llen b.cells) && (cs.toList.all (scS 0) || !b.pl) then
              kv undef (H.set i ⟨lapp (ltake b.cells off) (lapp cs.toList (ldrop b.cells (off + n))), b.ty, true, true, b.pl, none⟩) else none
          | _ => none)
        else (bif isFlat v && Nat.beq n 1 && Nat.ble (off + 1) (llen b.cells) && (scS 0 v || !b.pl) then kv undef (H.set i ⟨lset b.cells v off, b.ty, true, true, b.pl, none⟩) else none)) else none
    | _, _ => none)
  | _, _ => none
noncomputable def hMove (tm : Tm) (H : AH) (x : Operand) (kv : KV) : Res := match ev tm x with | some v => kv v H | none => none
/-- Where a field lies. -/
def fieldB (t : TypeId) (f : Nat) : Option (Nat × Bool × Nat) :=
  match P.underlying t with
  | some (.struct fields) => (match fields[f]? with
    | some fd => (match tyB P fd.type with | some (agg, s) => some (fd.offset, agg, s) | none => none)
    | none => none)
  | _ => none
noncomputable def hFieldAddr (tm : Tm) (H : AH) (t : TypeId) (x : Operand) (f : Nat) (kv : KV) : Res :=
  match ev tm x, fieldB P t f with
  | some (.pointer (some ⟨i, off, none⟩)), some (o, _, s) => bif Nat.beq s 0 then none else kv (.pointer (some ⟨i, Nat.add off o, none⟩)) H
  | _, _ => none
noncomputable def hField (tm : Tm) (H : AH) (t : TypeId) (x : Operand) (f : Nat) (kv : KV) : Res :=
  match ev tm x, fieldB P t f with
  | some (.agg cs), some (o, agg, s) => bif agg then kv (.agg ⟨ltake (ldrop cs.toList o) s⟩) H else (match lget cs.toList o with | some v => kv v H | none => none)
  | _, _ => none
noncomputable def hExtract (tm : Tm) (H : AH) (x : Operand) (i : Nat) (kv : KV) : Res :=
  match ev tm x with
  | some (.tuple vs) => (match lget vs.toList i with | some v => kv v H | none => none)
  | _ => none
/-- A new cell of a type. -/
def zeroB (t : TypeId) : Option (List Value × Bool) :=
  match (P.info? t).bind (·.zero) with
  | some z => bif z.cells.toList.all (scS 0) then some (z.cells.toList, z.cells.toList.all isScal) else none
  | none => none
noncomputable def hAlloc (H : AH) (t : TypeId) (kv : KV) : Res :=
  match zeroB P t with
  | some (l, pl) => kv (.pointer (some ⟨H.size, 0, none⟩)) (H.push (row l t pl))
  | none => none
noncomputable def hBox (tm : Tm) (H : AH) (t : TypeId) (x : Operand) (kv : KV) : Res :=
  match ev tm x with
  | some (.tuple _) => none
  | some (.agg cs) => kv (.pointer (some ⟨H.size, 0, none⟩)) (H.push (row cs.toList t (cs.toList.all isScal)))
  | some v => kv (.pointer (some ⟨H.size, 0, none⟩)) (H.push (row [v] t (isScal v)))
  | none => none
noncomputable def hBin (tm : Tm) (H : AH) (op : BinOp) (t : TypeId) (x y : Operand) (kv : KV) : Res :=
  match ev tm x, ev tm y with
  | some (.string a), some (.string b) => (match op with
    | .add => bif Nat.ble (Nat.add a.size b.size) 9223372036854775807 then kv (.string (a ++ b)) H else none
    | op => (match abinc P op t y (.string a) (.string b) with | some v => kv v H | none => none))
  | some a, some b => (match abinc P op t y a b with | some v => kv v H | none => none)
  | _, _ => none
/-- n cells from off on of block i, unasked whether they are there. -/
noncomputable def ldU (H : AH) (i off n : Nat) : List Value := match H.get i with | some b => ltake (ldrop b.cells off) n | none => []
noncomputable def ldC (H : AH) (i off n : Nat) : Bool := match H.get i with | some b => b.live && Nat.beq (llen (ltake (ldrop b.cells off) n)) n | none => false
noncomputable def hConv (tm : Tm) (H : AH) (src dst : TypeId) (x : Operand) (kv : KV) : Res :=
  match ev tm x, P.underlying src, P.underlying dst with
  | some (.slice (some a) n _), some (.slice e), some .string => (match P.underlying e with
    | some (.int .u8) => bif reachB H a && (ldC H a.block a.off n && (ldU H a.block a.off n).all isU8) then kv (.string ⟨((ldU H a.block a.off n).map byteVal).toArray⟩) H else none
    | _ => none)
  | some (.string s), some _, some (.slice e) => (match P.underlying e with
    | some (.int .u8) => bif Nat.beq (esz P e) 1 && Nat.ble s.size 1000000000 then
        kv (.slice (some ⟨H.size, 0, none⟩) s.size s.size) (H.push (row (s.data.toList.map fun b => Value.int .u8 b.toNat) e true)) else none
    | _ => none)
  | some v, _, _ => (match aconv P H src dst v with | some v => kv v H | none => none)
  | none, _, _ => none
/-- a[l:h] of a slice. -/
def cutU (a : Addr) (s l h c : Nat) (k : Value → Res) : Res :=
  match a.spot with
  | none => bif Nat.ble (Nat.add l 1) c then k (.slice (some ⟨a.block, Nat.add a.off (Nat.mul l s), none⟩) (Nat.sub h l) (Nat.sub c l)) else k (.slice (some ⟨a.block, Nat.add a.off (Nat.mul l s), some (Nat.add (Nat.mul l s) 1)⟩) 0 0)
  | some 0 => bif Nat.ble (Nat.add l 1) c then k (.slice (some ⟨a.block, Nat.add a.off (Nat.mul l s), some 0⟩) (Nat.sub h l) (Nat.sub c l)) else k (.slice (some ⟨a.block, a.off, some 0⟩) 0 0)
  | _ => none
noncomputable def hSlice (tm : Tm) (H : AH) (t : TypeId) (x : Operand) (lo hi mx : Option Operand) (kv : KV) : Res :=
  match mx, ev tm x, P.underlying t, evo tm lo, evo tm hi with
  | none, some (.string s), some .string, some l, some h => bif bnd h s.size then (match bndU h s.size with
      | some hv => bif bnd l hv then (match bndU l 0 with | some lv => kv (.string (s.extract lv hv)) H | none => none) else none
      | none => none) else none
  | none, some (.slice (some a) n c), some (.slice e), some l, some h => (match sizeB P e with
      | some s => bif bnd h n then (match bndU h n with
        | some hv => bif bnd l hv then (match bndU l 0 with | some lv => bif Nat.ble n c then (bif liveB H a.block then cutU a s lv hv c (fun v => kv v H) else none) else none | none => none) else none
        | none => none) else none
      | none => none)
  | mx, some v, _, some l, some h => (match evo tm mx with
      | some m => (match aslice P H t v l h m with | some v => kv v H | none => none)
      | none => none)
  | _, _, _, _, _ => none
noncomputable def hIndex (tm : Tm) (H : AH) (t : TypeId) (x ix : Operand) (kv : KV) : Res :=
  match ev tm x, ev tm ix, P.underlying t with
  | some (.string s), some (.int _ k), some .string => bif inB k s.size then kv (.int .u8 (s.data.toList.getD k.toNat 0).toNat) H else none
  | some (.agg cs), some (.int _ k), some (.array len e) => bif inB k len then (match tyB P e with
      | some (agg, s) => bif agg then kv (.agg ⟨ltake (ldrop cs.toList (Nat.mul k.toNat s)) s⟩) H else (match lget cs.toList (Nat.mul k.toNat s) with | some v => kv v H | none => none)
      | none => none) else none
  | _, _, _ => none
noncomputable def hIndexAddr (tm : Tm) (H : AH) (t : TypeId) (x ix : Operand) (kv : KV) : Res :=
  match ev tm x, ev tm ix, P.underlying t with
  | some (.slice (some a) n _), some (.int _ k), some (.slice e) => bif inB k n then (bif reachB H a then (match sizeB P e with
      | some s => kv (.pointer (some ⟨a.block, Nat.add a.off (Nat.mul k.toNat s), none⟩)) H
      | none => none) else none) else none
  | some (.pointer (some ⟨i, off, none⟩)), some (.int _ k), some (.array n e) => bif inB k n then (match sizeB P e with
      | some s => kv (.pointer (some ⟨i, Nat.add off (Nat.mul k.toNat s), none⟩)) H
      | none => none) else none
  | _, _, _ => none
/-- What an append takes, its lengths being asked. -/
noncomputable def srcK (H : AH) (t' : TypeId) (z : Value) (s : Nat) (x : Value) (k : List Value → Nat → Bool → Res) : Res :=
  match P.underlying t', x with
  | some .string, .string b => (match z with
    | .int .u8 0 => bif Nat.beq s 1 then k (b.data.toList.map fun b => Value.int .u8 b.toNat) b.size true else none
    | _ => none)
  | some (.slice _), .slice none n _ => bif Nat.beq n 0 then k [] 0 true else none
  | some (.slice _), .slice (some a) m _ => bif Nat.beq m 0 then k [] 0 true else
    bif reachB H a && ldC H a.block a.off (Nat.mul m s) then (match H.get a.block with | some b => k (ldU H a.block a.off (Nat.mul m s)) m b.pl | none => none) else none
  | _, _ => none
noncomputable def hAppend (H : AH) (t t' : TypeId) (sl x : Value) (kv : KV) : Res :=
  match P.underlying t with
  | some (.slice e) => (match P.info? e with
    | some ie => (match ie.zero with
      | some z => bif Nat.beq z.cells.size ie.size && Nat.ble 1 ie.size then
          srcK P H t' z ie.size x fun new m pl =>
            bif Nat.beq m 0 then (match sl with | .slice a n c => bif Nat.ble n c then kv (.slice a n c) H else none | _ => none) else
            match sl with
            | .slice none 0 0 => bif Nat.ble (Nat.mul m ie.bytes) 1000000000 && Nat.ble m 1000000000 then kv (.slice (some ⟨H.size, 0, none⟩) m m) (H.push (row new e pl)) else none
            | .slice (some a) n c => (match H.get a.block with
              | some b => bif b.live && b.wr && Nat.beq b.ty e then
                  (bif Nat.ble (Nat.mul (Nat.add n m) ie.bytes) 1000000000 && Nat.ble (Nat.add n m) 1000000000 && Nat.ble n c && Nat.ble (Nat.add a.off (Nat.mul c ie.size)) (llen b.cells) && endB a.spot n c then
                    kv (.slice (some ⟨H.size, 0, none⟩) (Nat.add n m) (Nat.add n m)) ((H.set a.block b.kill).push (row (lapp (ltake (ldrop b.cells a.off) (Nat.mul n ie.size)) new) e (b.pl && pl))) else none) else none
              | none => none)
            | _ => none
        else none
      | none => none)
    | none => none)
  | _ => none

noncomputable def hCall (tm : Tm) (H : AH) (c : Call) (op : Op) (kv kp : KV) (kc : FuncId → List Value → AH → Res) : Res :=
  match c.callee with
  | .value (.func f) => (match evs tm c.args.toList with
    | some vs => (match P.funcs[f]? with | some fn => bif fn.body.isSome then kc f vs H else none | none => none)
    | none => none)
  | .builtin .append => (match evs tm c.args.toList, c.argTypes.toList with
    | some [s, x], [t, t'] => hAppend P H t t' s x kv
    | _, _ => none)
  | _ => hGen P tm H op kv kp kc

noncomputable def opK (tm : Tm) (H : AH) (op : Op) (kv kp : KV) (kc : FuncId → List Value → AH → Res) : Res :=
  match op with
  | .move x => hMove tm H x kv
  | .assign x => hMove tm H x kv
  | .load t a => hLoad P tm H t a kv
  | .store t a x => hStore P tm H t a x kv
  | .alloc t => hAlloc P H t kv
  | .box t x => hBox tm H t x kv
  | .binOp o t x y _ => hBin P tm H o t x y kv
  | .convert s d x => hConv P tm H s d x kv
  | .slice t x lo hi mx => hSlice P tm H t x lo hi mx kv
  | .fieldAddr t x f => hFieldAddr P tm H t x f kv
  | .field t x f => hField P tm H t x f kv
  | .indexAddr t x ix => hIndexAddr P tm H t x ix kv
  | .index t x ix => hIndex P tm H t x ix kv
  | .extract x i => hExtract tm H x i kv
  | .call c => hCall P tm H c (.call c) kv kp kc
  | op => hGen P tm H op kv kp kc
end

section
variable {P : Program} {tm : Tm} {H : AH} {kv kp : KV} {kc : FuncId → List Value → AH → Res} {r : Out × AH}

/-- The executor's way of an operation is the operation's. -/
def Way (P : Program) (tm : Tm) (H : AH) (op : Op) (kv kp : KV) (kc : FuncId → List Value → AH → Res) (r : Out × AH) : Prop := ∃ out, aop P tm H op = some out ∧ told kv kp kc out = some r

theorem hGen_way {op : Op} (h : hGen P tm H op kv kp kc = some r) : Way P tm H op kv kp kc r := by
  unfold hGen at h
  split at h
  · rename_i out ho; exact ⟨out, ho, h⟩
  · cases h

theorem cond_some {b : Bool} {x : Res} (h : (bif b then x else none) = some r) : b = true ∧ x = some r := by
  cases b with
  | true => exact ⟨rfl, h⟩
  | false => cases h

theorem tyB_some {t : TypeId} {agg : Bool} {n : Nat} (h : tyB P t = some (agg, n)) : ∃ d, P.underlying t = some d ∧ sizeB P t = some n ∧ isAggD d = agg := by
  unfold tyB at h
  split at h
  · rename_i d m hd hm
    injection h with h; injection h with h1 h2; subst h1 h2
    exact ⟨d, hd, hm, rfl⟩
  · cases h

theorem hLoad_way {t : TypeId} {a : Operand} (h : hLoad P tm H t a kv = some r) : Way P tm H (.load t a) kv kp kc r := by
  unfold hLoad at h
  split at h
  · rename_i i off ha
    split at h
    · rename_i agg n b ht hb
      obtain ⟨hl, h⟩ := cond_some h
      obtain ⟨d, hd, hn, hag⟩ := tyB_some ht
      cases agg with
      | true =>
        rw [cond_true] at h
        obtain ⟨hc, h⟩ := cond_some h
        rw [llen_eq, ltake_eq, ldrop_eq] at hc
        rw [ltake_eq, ldrop_eq] at h
        refine ⟨.val _ H, ?_, h⟩
        simp only [aop, ha, aload, hd, hn, hag, cond_true, ld, hb, hl, hc, Bool.and_self, oval]
      | false =>
        rw [cond_false] at h
        split at h
        · rename_i v hv
          rw [lget_eq] at hv
          refine ⟨.val v H, ?_, h⟩
          simp only [aop, ha, aload, hd, hn, hag, cond_false, hb, hl, cond_true, hv, oval]
        · cases h
    · cases h
  · cases h

/-- All that the temporaries bear names blocks that are there. -/
def TmSc (tm : Tm) (n : Nat) : Prop := ∀ t v, tm.get t = some v → scV n v = true
theorem ev_sc (hs : TmSc tm H.size) {x : Operand} {v : Value} (h : ev tm x = some v) : scV H.size v = true := by
  unfold ev at h
  split at h
  · exact hs _ _ h
  · rename_i u
    cases hu : scV 0 u with
    | false => simp [hu] at h
    | true =>
      rw [hu, cond_true] at h
      injection h with h; subst h
      exact scV_mono (Nat.zero_le _) _ hu
  · injection h with h; subst h; rfl
  · cases h
theorem flat_sc {n : Nat} {v : Value} (h : scV n v = true) (hf : isFlat v = true) : scS n v = true ∧ v.cells.toList = [v] := by
  cases v <;> first | exact ⟨h, rfl⟩ | (cases hf; done)

theorem hStore_way (hs : TmSc tm H.size) {t : TypeId} {a x : Operand} (h : hStore P tm H t a x kv = some r) : Way P tm H (.store t a x) kv kp kc r := by
  unfold hStore at h
  split at h
  · rename_i i off v ha hx
    split at h
    · rename_i agg n b ht hb
      obtain ⟨hl, h⟩ := cond_some h
      simp only [Bool.and_eq_true] at hl
      obtain ⟨d, hd, hn, hag⟩ := tyB_some ht
      have hv := ev_sc hs hx
      cases agg with
      | true =>
        rw [cond_true] at h
        cases v with
        | agg cs =>
          simp only at h
          obtain ⟨hc, h⟩ := cond_some h
          simp only [Bool.and_eq_true, Nat.beq_eq, Nat.ble_eq, llen_eq, Bool.or_eq_true] at hc
          obtain ⟨⟨h1, h2⟩, h3⟩ := hc
          rw [lapp_eq, lapp_eq, ltake_eq, ldrop_eq] at h
          refine ⟨.val undef _, ?_, h⟩
          have e1 : Nat.beq cs.size n = true := by rw [Nat.beq_eq, ← h1]; simp
          have e2 : Nat.ble (off + n) b.cells.length = true := by rw [Nat.ble_eq]; exact h2
          have e3 : cs.toList.all (scS H.size) = true := hv
          have e4 : (!b.pl || cs.toList.all (scS 0)) = true := by rw [Bool.or_eq_true]; exact h3.symm
          simp only [aop, ha, hx, astore, hn, hb, Value.cells, e1, e2, hl.1, hl.2, e3, e4, Bool.and_self, cond_true, h1, List.append_assoc]
        | _ => cases h
      | false =>
        rw [cond_false] at h
        obtain ⟨hc, hh⟩ := cond_some h
        clear h
        simp only [Bool.and_eq_true, Nat.beq_eq, Nat.ble_eq, llen_eq, Bool.or_eq_true] at hc
        obtain ⟨⟨⟨h1, h2⟩, h3⟩, h4⟩ := hc
        subst h2
        obtain ⟨g1, g2⟩ := flat_sc hv h1
        rw [lset_eq] at hh
        refine ⟨.val undef _, ?_, hh⟩
        have e1 : Nat.beq v.cells.size 1 = true := by rw [Nat.beq_eq, ← Array.length_toList, g2]; rfl
        have e2 : Nat.ble (off + 1) b.cells.length = true := by rw [Nat.ble_eq]; exact h3
        have e4 : (!b.pl || ([v] : List Value).all (scS 0)) = true := by
          rw [Bool.or_eq_true]
          simpa using h4.symm
        have e3 : ([v] : List Value).all (scS H.size) = true := by simpa using g1
        have e5 : b.cells.take off ++ [v] ++ b.cells.drop (off + ([v] : List Value).length) = b.cells.set off v := by
          rw [List.set_eq_take_append_cons_drop, if_pos (by omega)]
          simp
        simp only [aop, ha, hx, astore, hn, hb, e1, e2, hl.1, hl.2, g2, e3, e4, e5, Bool.and_self, cond_true]
    · cases h
  · cases h

theorem fieldB_some {t : TypeId} {f : Nat} {o : Nat} {agg : Bool} {s : Nat} (h : fieldB P t f = some (o, agg, s)) : ∃ fields fd d, P.underlying t = some (.struct fields) ∧ fields[f]? = some fd ∧ fd.offset = o ∧ P.underlying fd.type = some d ∧ sizeB P fd.type = some s ∧ isAggD d = agg := by
  unfold fieldB at h
  split at h
  · rename_i fields hu
    split at h
    · rename_i fd hf
      split at h
      · rename_i agg' s' ht
        injection h with h; injection h with h1 h2; injection h2 with h2 h3; subst h1 h2 h3
        obtain ⟨d, hd, hn, hag⟩ := tyB_some ht
        exact ⟨fields, fd, d, hu, hf, rfl, hd, hn, hag⟩
      · cases h
    · cases h
  · cases h

theorem part_agg {t : TypeId} {cs : Array Value} {off s : Nat} {d : TypeDesc} (hd : P.underlying t = some d) (hs : sizeB P t = some s) (ha : isAggD d = true) : partB P t cs off = some (.agg ⟨(cs.toList.drop off).take s⟩) := by
  have hs' : (P.info? t).map (·.size) = some s := hs
  simp only [partB, hd, hs', ha, cond_true]
  congr 2
  apply Array.toList_inj.1
  simp [Array.toList_extract, List.extract_eq_take_drop]
theorem part_flat {t : TypeId} {cs : Array Value} {off s : Nat} {d : TypeDesc} (hd : P.underlying t = some d) (hs : sizeB P t = some s) (ha : isAggD d = false) : partB P t cs off = cs.toList[off]? := by
  have hs' : (P.info? t).map (·.size) = some s := hs
  simp only [partB, hd, hs', ha, cond_false]
  rw [Array.getElem?_toList]

theorem hField_way {t : TypeId} {x : Operand} {f : Nat} (h : hField P tm H t x f kv = some r) : Way P tm H (.field t x f) kv kp kc r := by
  unfold hField at h
  split at h
  · rename_i cs o agg s hx hf
    obtain ⟨fields, fd, d, hu, hfd, ho, hd, hs, hag⟩ := fieldB_some hf
    cases agg with
    | true =>
      rw [cond_true, ltake_eq, ldrop_eq] at h
      exact ⟨.val _ H, by simp only [aop, hx, afield, hu, hfd, part_agg hd hs hag, ho, oval], h⟩
    | false =>
      rw [cond_false] at h
      split at h
      · rename_i v hv
        rw [lget_eq] at hv
        exact ⟨.val v H, by simp only [aop, hx, afield, hu, hfd, part_flat hd hs hag, ho, hv, oval], h⟩
      · cases h
  · cases h
theorem hFieldAddr_way {t : TypeId} {x : Operand} {f : Nat} (h : hFieldAddr P tm H t x f kv = some r) : Way P tm H (.fieldAddr t x f) kv kp kc r := by
  unfold hFieldAddr at h
  split at h
  · rename_i i off o agg s hx hf
    obtain ⟨fields, fd, d, hu, hfd, ho, hd, hs, hag⟩ := fieldB_some hf
    cases hb : Nat.beq s 0 with
    | true => rw [hb] at h; cases h
    | false =>
      rw [hb, cond_false] at h
      have : ¬ s = 0 := fun e => by rw [e] at hb; cases hb
      exact ⟨.val _ H, by simp only [aop, hx, hu, hfd, hs, if_neg this, ho]; rfl, h⟩
  · cases h
theorem hExtract_way {x : Operand} {i : Nat} (h : hExtract tm H x i kv = some r) : Way P tm H (.extract x i) kv kp kc r := by
  unfold hExtract at h
  split at h
  · rename_i vs hx
    split at h
    · rename_i v hv
      rw [lget_eq, Array.getElem?_toList] at hv
      exact ⟨.val v H, by simp only [aop, hx, hv, oval], h⟩
    · cases h
  · cases h
theorem hAlloc_way {t : TypeId} (h : hAlloc P H t kv = some r) : Way P tm H (.alloc t) kv kp kc r := by
  unfold hAlloc at h
  split at h
  · rename_i l pl hz
    unfold zeroB at hz
    split at hz
    · rename_i z hzz
      cases hc : z.cells.toList.all (scS 0) with
      | false => rw [hc] at hz; cases hz
      | true =>
        rw [hc, cond_true] at hz
        injection hz with hz; injection hz with h1 h2; subst h1 h2
        exact ⟨.val _ _, by simp only [aop, hzz, hc, cond_true], h⟩
    · cases hz
  · cases h
theorem hBox_way (hs : TmSc tm H.size) {t : TypeId} {x : Operand} (h : hBox tm H t x kv = some r) : Way P tm H (.box t x) kv kp kc r := by
  unfold hBox at h
  split at h
  · cases h
  · rename_i cs hx
    have hv : cs.toList.all (scS H.size) = true := ev_sc hs hx
    exact ⟨.val _ _, by simp only [aop, hx, Value.cells, hv, cond_true], h⟩
  · rename_i v h1 h2 hx
    have hv := ev_sc hs hx
    have hf : isFlat v = true := by
      cases v <;> first | rfl | exact (h1 _ rfl).elim | exact (h2 _ rfl).elim
    obtain ⟨g1, g2⟩ := flat_sc hv hf
    refine ⟨.val _ _, by simp only [aop, hx, g2, List.all_cons, List.all_nil, g1, Bool.and_true, cond_true]; rfl, ?_⟩
    simpa [told] using h
  · cases h
theorem hMove_way {x : Operand} {op : Op} (ho : op = .move x ∨ op = .assign x) (h : hMove tm H x kv = some r) : Way P tm H op kv kp kc r := by
  unfold hMove at h
  split at h
  · rename_i v hv
    rcases ho with rfl | rfl <;> exact ⟨.val v H, by simp only [aop, hv, oval], h⟩
  · cases h
theorem hBin_way {o : BinOp} {t t' : TypeId} {x y : Operand} (h : hBin P tm H o t x y kv = some r) : Way P tm H (.binOp o t x y t') kv kp kc r := by
  unfold hBin at h
  split at h
  · rename_i a b hx hy
    split at h
    · obtain ⟨hc, h⟩ := cond_some h
      rw [Nat.ble_eq] at hc
      have hc' : a.size + b.size ≤ 9223372036854775807 := hc
      exact ⟨.val _ H, by simp only [aop, hx, hy, abinc, abin, if_pos hc', oval], h⟩
    · split at h
      · rename_i v hv
        exact ⟨.val v H, by simp only [aop, hx, hy, hv, oval], h⟩
      · cases h
  · rename_i a b _ hx hy
    split at h
    · rename_i v hv
      exact ⟨.val v H, by simp only [aop, hx, hy, hv, oval], h⟩
    · cases h
  · cases h

theorem inB_iff {k : Int} {n : Nat} : inB k n = true ↔ 0 ≤ k ∧ k < n := by
  simp only [inB, Bool.and_eq_true, Bool.not_eq_true', ltB_eq, decide_eq_true_eq, decide_eq_false_iff_not]
  omega
theorem abound_of {x : Option Value} {top dflt q : Nat} (h : bnd x top = true) (hu : bndU x dflt = some q) : abound x top dflt = some q := by
  unfold bndU at hu
  split at hu
  · exact hu
  · simp only [bnd, Bool.and_eq_true, Bool.not_eq_true', ltB_eq, decide_eq_false_iff_not] at h
    unfold abound
    simp only
    rw [if_pos (by omega)]
    exact hu
  · cases hu
theorem ld_of {i off n : Nat} (h : ldC H i off n = true) : ld H i off n = some (ldU H i off n) := by
  unfold ldC at h
  unfold ld ldU
  cases hb : H.get i with
  | none => rw [hb] at h; cases h
  | some b =>
    rw [hb] at h
    simp only [llen_eq, ltake_eq, ldrop_eq] at h ⊢
    rw [h, cond_true]
theorem bytesOf_of : ∀ (l : List Value) (s : ByteArray), l.all isU8 = true → bytesOf l s = some ⟨s.data ++ (l.map byteVal).toArray⟩
  | [], s, _ => by simp [bytesOf]
  | v :: r, s, h => by
    simp only [List.all_cons, Bool.and_eq_true] at h
    cases v with
    | int k n =>
      cases k <;> first | (cases h.1; done) | skip
      simp only [bytesOf]
      rw [bytesOf_of r _ h.2]
      simp [ByteArray.push, byteVal]
    | _ => cases h.1

theorem hConv_way {src dst : TypeId} {x : Operand} (h : hConv P tm H src dst x kv = some r) : Way P tm H (.convert src dst x) kv kp kc r := by
  unfold hConv at h
  split at h
  · rename_i a n c e hx hs hd
    split at h
    · rename_i he
      obtain ⟨hc, h⟩ := cond_some h
      simp only [Bool.and_eq_true] at hc
      refine ⟨.val _ H, ?_, h⟩
      have hl := ld_of hc.2.1
      have e0 : (⟨ByteArray.empty.data ++ ((ldU H a.block a.off n).map byteVal).toArray⟩ : ByteArray) = ⟨((ldU H a.block a.off n).map byteVal).toArray⟩ := by congr 1; exact Array.empty_append
      simp only [aop, hx, hs, hd, aconv, he]
      by_cases hn : n = 0
      · subst hn
        rw [if_pos rfl]
        have : ldU H a.block a.off 0 = [] := by unfold ldU; split <;> first | rw [ltake_eq, List.take_zero] | rfl
        rw [this]; rfl
      · rw [if_neg hn, hc.1, cond_true, hl]
        simp only [bytesOf_of _ _ hc.2.2, oval, e0]
    · cases h
  · rename_i s d e hx hs hd
    split at h
    · rename_i he
      obtain ⟨hc, h⟩ := cond_some h
      simp only [Bool.and_eq_true, Nat.beq_eq, Nat.ble_eq] at hc
      exact ⟨.val _ _, by simp only [aop, hx, hs, hd, he]; rw [if_pos hc], h⟩
    · cases h
  · rename_i v hx _ h2
    split at h
    · rename_i u hu
      refine ⟨.val u H, ?_, h⟩
      simp only [aop]
      split
      · rename_i s d e hv hs hd
        rw [hx] at hv
        injection hv with hv; subst hv
        exact (h2 _ _ _ hs hd rfl).elim
      · rename_i v' hv _
        rw [hx] at hv
        injection hv with hv; subst hv
        simp only [hu, oval]
      · rename_i hv; rw [hx] at hv; cases hv
    · cases h
  · cases h

theorem cutU_some {a : Addr} {s l hh c : Nat} {k : Value → Res} (h : cutU a s l hh c k = some r) : ∃ v, acut a s l hh c none = some v ∧ k v = some r := by
  unfold cutU at h
  unfold acut
  split at h
  · rename_i hs
    rw [hs]
    rw [ble_lt] at h
    by_cases hl : l < c
    · rw [decide_eq_true hl, cond_true] at h
      exact ⟨_, by simp only; rw [if_pos hl]; rfl, h⟩
    · rw [decide_eq_false hl, cond_false] at h
      exact ⟨_, by simp only; rw [if_neg hl]; rfl, h⟩
  · rename_i hs
    rw [hs]
    rw [ble_lt] at h
    by_cases hl : l < c
    · rw [decide_eq_true hl, cond_true] at h
      exact ⟨_, by simp only; rw [if_pos hl]; rfl, h⟩
    · rw [decide_eq_false hl, cond_false] at h
      exact ⟨_, by simp only; rw [if_neg hl], h⟩
  · cases h

theorem evo_none (tm : Tm) : evo tm none = some none := rfl
theorem hSlice_way {t : TypeId} {x : Operand} {lo hi mx : Option Operand} (h : hSlice P tm H t x lo hi mx kv = some r) : Way P tm H (.slice t x lo hi mx) kv kp kc r := by
  unfold hSlice at h
  split at h
  · rename_i s l hh hx hu hl hhi
    obtain ⟨hc, h⟩ := cond_some h
    split at h
    · rename_i hv hhv
      obtain ⟨hc2, h⟩ := cond_some h
      split at h
      · rename_i lv hlv
        refine ⟨.val _ H, ?_, h⟩
        simp only [aop, hx, hl, hhi, evo_none, aslice, hu, abound_of hc hhv, abound_of hc2 hlv, oval]
      · cases h
    · cases h
  · rename_i a n c e l hh hx hu hl hhi
    split at h
    · rename_i s hs
      obtain ⟨hc, h⟩ := cond_some h
      split at h
      · rename_i hv hhv
        obtain ⟨hc2, h⟩ := cond_some h
        split at h
        · rename_i lv hlv
          obtain ⟨hnc, h⟩ := cond_some h
          obtain ⟨hlive, h⟩ := cond_some h
          rw [Nat.ble_eq] at hnc
          obtain ⟨v, hv1, hv2⟩ := cutU_some h
          refine ⟨.val v H, ?_, hv2⟩
          simp only [aop, hx, hl, hhi, evo_none, aslice, hu, hs, abound_of hc hhv, abound_of hc2 hlv, if_pos hnc, hlive, cond_true, hv1, oval]
        · cases h
      · cases h
    · cases h
  · rename_i v l hh hx hl hhi _ _
    split at h
    · rename_i m hm
      split at h
      · rename_i u hu'
        exact ⟨.val u H, by simp only [aop, hx, hl, hhi, hm, hu', oval], h⟩
      · cases h
    · cases h
  · cases h

theorem hIndex_way {t : TypeId} {x ix : Operand} (h : hIndex P tm H t x ix kv = some r) : Way P tm H (.index t x ix) kv kp kc r := by
  unfold hIndex at h
  split at h
  · rename_i s k q hx hix hu
    obtain ⟨hc, h⟩ := cond_some h
    obtain ⟨h0, h1⟩ := inB_iff.1 hc
    refine ⟨.val _ H, ?_, h⟩
    have hlt : q.toNat < s.size := by omega
    have e : s[q.toNat]? = some (s.data.toList.getD q.toNat 0) := by
      rw [getElem?_pos s q.toNat hlt]
      congr 1
      rw [List.getD_eq_getElem?_getD, List.getElem?_eq_getElem (by simpa using hlt)]
      rfl
    simp only [aop, hx, hix, aindex, hu, if_pos h0, e, oval]
  · rename_i cs k q len e hx hix hu
    obtain ⟨hc, h⟩ := cond_some h
    have h01 := inB_iff.1 hc
    split at h
    · rename_i agg s ht
      obtain ⟨d, hd, hs, hag⟩ := tyB_some ht
      cases agg with
      | true =>
        rw [cond_true, ltake_eq, ldrop_eq] at h
        refine ⟨.val _ H, ?_, h⟩
        simp only [aop, hx, hix, aindex, hu, if_pos h01, hs, part_agg hd hs hag, oval]; rfl
      | false =>
        rw [cond_false] at h
        split at h
        · rename_i v hv
          rw [lget_eq] at hv
          have hv' : cs.toList[q.toNat * s]? = some v := hv
          exact ⟨.val v H, by simp only [aop, hx, hix, aindex, hu, if_pos h01, hs, part_flat hd hs hag, hv', oval], h⟩
        · cases h
    · cases h
  · cases h
theorem hIndexAddr_way {t : TypeId} {x ix : Operand} (h : hIndexAddr P tm H t x ix kv = some r) : Way P tm H (.indexAddr t x ix) kv kp kc r := by
  unfold hIndexAddr at h
  split at h
  · rename_i a n c k q e hx hix hu
    obtain ⟨hc, h⟩ := cond_some h
    have h01 := inB_iff.1 hc
    obtain ⟨hr, h⟩ := cond_some h
    split at h
    · rename_i s hs
      refine ⟨.val _ H, ?_, h⟩
      simp only [aop, hx, hix, aindexAddr, hu, if_pos h01, hr, cond_true, hs, oval]; rfl
    · cases h
  · rename_i i off k q n e hx hix hu
    obtain ⟨hc, h⟩ := cond_some h
    have h01 := inB_iff.1 hc
    split at h
    · rename_i s hs
      refine ⟨.val _ H, ?_, h⟩
      simp only [aop, hx, hix, aindexAddr, hu, if_pos h01, hs, oval]; rfl
    · cases h
  · cases h

theorem srcK_some {t' : TypeId} {z : Value} {s : Nat} {x : Value} {k : List Value → Nat → Bool → Res} (h : srcK P H t' z s x k = some r) : ∃ new m pl, asrc P H t' z s x = some (new, m, pl) ∧ k new m pl = some r := by
  unfold srcK at h
  unfold asrc
  split at h
  · rename_i b hu
    split at h
    · obtain ⟨hc, h⟩ := cond_some h
      rw [Nat.beq_eq] at hc
      exact ⟨_, _, _, by simp only [hu, if_pos hc], h⟩
    · cases h
  · rename_i e n c hu
    obtain ⟨hc, h⟩ := cond_some h
    rw [Nat.beq_eq] at hc
    subst hc
    exact ⟨_, _, _, by simp only [hu], h⟩
  · rename_i e a m c hu
    cases hm : Nat.beq m 0 with
    | true =>
      rw [hm, cond_true] at h
      rw [Nat.beq_eq] at hm
      exact ⟨_, _, _, by simp only [hu, if_pos hm], h⟩
    | false =>
      rw [hm, cond_false] at h
      have hm0 : ¬ m = 0 := fun e => by subst e; cases hm
      obtain ⟨hc, h⟩ := cond_some h
      simp only [Bool.and_eq_true] at hc
      split at h
      · rename_i b hb
        refine ⟨_, _, _, ?_, h⟩
        have hl : ld H a.block a.off (m * s) = some (ldU H a.block a.off (Nat.mul m s)) := ld_of hc.2
        simp only [hu, if_neg hm0, hc.1, cond_true, hl, hb]
      · cases h
  · cases h

theorem hAppend_way {t t' : TypeId} {sl x : Value} (h : hAppend P H t t' sl x kv = some r) : ∃ v H', aappend P H t t' sl x = some (v, H') ∧ kv v H' = some r := by
  unfold hAppend at h
  unfold aappend
  split at h
  · rename_i e hu
    split at h
    · rename_i ie hi
      split at h
      · rename_i z hz
        obtain ⟨hc, h⟩ := cond_some h
        simp only [Bool.and_eq_true, Nat.beq_eq, Nat.ble_eq] at hc
        obtain ⟨new, m, pl, hsrc, h⟩ := srcK_some h
        have hc' : z.cells.size = ie.size ∧ 0 < ie.size := ⟨hc.1, hc.2⟩
        simp only [hu, hi, hz, if_pos hc', hsrc]
        cases hm : Nat.beq m 0 with
        | true =>
          rw [hm, cond_true] at h
          rw [Nat.beq_eq] at hm
          rw [if_pos hm]
          split at h
          · obtain ⟨hnc, h⟩ := cond_some h
            rw [Nat.ble_eq] at hnc
            exact ⟨_, _, if_pos hnc, h⟩
          · cases h
        | false =>
          rw [hm, cond_false] at h
          have hm0 : ¬ m = 0 := fun e => by subst e; cases hm
          rw [if_neg hm0]
          split at h
          · obtain ⟨hb, h⟩ := cond_some h
            simp only [Bool.and_eq_true, Nat.ble_eq] at hb
            exact ⟨_, _, if_pos hb, h⟩
          · rename_i a n c _ _
            split at h
            · rename_i b hb
              obtain ⟨hl, h⟩ := cond_some h
              obtain ⟨hd, h⟩ := cond_some h
              simp only [Bool.and_eq_true, Nat.beq_eq] at hl
              simp only [Bool.and_eq_true, Nat.ble_eq, llen_eq] at hd
              obtain ⟨⟨⟨⟨d1, d2⟩, d3⟩, d4⟩, d5⟩ := hd
              have hnc : n * ie.size ≤ c * ie.size := Nat.mul_le_mul_right _ d3
              have d4' : a.off + c * ie.size ≤ b.cells.length := d4
              have hld : ld H a.block a.off (n * ie.size) = some ((b.cells.drop a.off).take (n * ie.size)) := by
                unfold ld
                have e1 : Nat.beq ((b.cells.drop a.off).take (n * ie.size)).length (n * ie.size) = true := by
                  rw [Nat.beq_eq, List.length_take, List.length_drop]; omega
                simp only [hb, hl.1.1, e1, Bool.and_self, cond_true]
              rw [lapp_eq, ltake_eq, ldrop_eq] at h
              refine ⟨_, _, ?_, h⟩
              simp only [hld, hb]
              rw [if_pos ⟨hl.1.2, hl.2, d1, d2, d3, d4, d5⟩]
              rfl
            · cases h
          · cases h
      · cases h
    · cases h
  · cases h

theorem hCall_way {c : Call} (h : hCall P tm H c (.call c) kv kp kc = some r) : Way P tm H (.call c) kv kp kc r := by
  obtain ⟨callee, args, argTypes⟩ := c
  unfold hCall at h
  simp only at h
  split at h
  · rename_i f
    split at h
    · rename_i vs hvs
      split at h
      · rename_i fn hfn
        obtain ⟨hb, h⟩ := cond_some h
        exact ⟨.enter f vs H, by simp only [aop, hvs, hfn, hb, cond_true], h⟩
      · cases h
    · cases h
  · split at h
    · rename_i s x t t' hvs ht
      obtain ⟨v, H', h1, h2⟩ := hAppend_way h
      exact ⟨.val v H', by simp only [aop, hvs, ht, h1], h2⟩
    · cases h
  · exact hGen_way h

theorem opK_way (hs : TmSc tm H.size) {op : Op} (h : opK P tm H op kv kp kc = some r) : Way P tm H op kv kp kc r := by
  unfold opK at h
  split at h
  · exact hMove_way (.inl rfl) h
  · exact hMove_way (.inr rfl) h
  · exact hLoad_way h
  · exact hStore_way hs h
  · exact hAlloc_way h
  · exact hBox_way hs h
  · exact hBin_way h
  · exact hConv_way h
  · exact hSlice_way h
  · exact hFieldAddr_way h
  · exact hField_way h
  · exact hIndexAddr_way h
  · exact hIndex_way h
  · exact hExtract_way h
  · exact hCall_way h
  · exact hGen_way h
end
end Go.RX
