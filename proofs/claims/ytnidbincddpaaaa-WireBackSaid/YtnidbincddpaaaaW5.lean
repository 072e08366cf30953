/- Calls as data; SameCall. -/
import Derived.Test.YtnidbincddpaaaaW4
namespace Go.RX
open Go Go.Proofs Go.RowKit
set_option maxRecDepth 100000

structure Nm where
  v : Int
  f : Bool
structure Vc where
  x : Nm
  y : Nm
structure Ps where
  p : Vc
  c : Nm
  s : Nm
structure Shp where
  kind : Int
  r : Int
  w : Int
  h : Int
  pts : List (Int × Int)
structure Cl where
  kind : Int
  id : Int
  body : Int × Int
  ver : Int
  shape : Shp
  pose : Ps
  v : Vc
  w : Nm
  den : Int
  moves : Bool
  pt : Vc
  to : Vc
  grab : Int
  box : (Int × Int) × (Int × Int)
  fro : Int × Int
  unt : Int × Int

def iV (n : Int) : Value := .int .i64 n
@[reducible] def Nm.cells (n : Nm) : List Value := [.int .i64 n.v, .bool n.f]
@[reducible] def Vc.cells (v : Vc) : List Value := [.int .i64 v.x.v, .bool v.x.f, .int .i64 v.y.v, .bool v.y.f]
@[reducible] def Shp.cells (s : Shp) (p : Value) : List Value := [.int .i64 s.kind, .int .i64 s.r, .int .i64 s.w, .int .i64 s.h, p]
@[reducible] def Cl.cells (c : Cl) (p : Value) : List Value :=
  [.int .i64 c.kind, .int .i64 c.id, .int .i64 c.body.1, .int .i64 c.body.2, .int .i64 c.ver, .int .i64 c.shape.kind, .int .i64 c.shape.r, .int .i64 c.shape.w, .int .i64 c.shape.h, p,
   .int .i64 c.pose.p.x.v, .bool c.pose.p.x.f, .int .i64 c.pose.p.y.v, .bool c.pose.p.y.f, .int .i64 c.pose.c.v, .bool c.pose.c.f, .int .i64 c.pose.s.v, .bool c.pose.s.f,
   .int .i64 c.v.x.v, .bool c.v.x.f, .int .i64 c.v.y.v, .bool c.v.y.f, .int .i64 c.w.v, .bool c.w.f, .int .i64 c.den, .bool c.moves,
   .int .i64 c.pt.x.v, .bool c.pt.x.f, .int .i64 c.pt.y.v, .bool c.pt.y.f, .int .i64 c.to.x.v, .bool c.to.x.f, .int .i64 c.to.y.v, .bool c.to.y.f, .int .i64 c.grab,
   .int .i64 c.box.1.1, .int .i64 c.box.1.2, .int .i64 c.box.2.1, .int .i64 c.box.2.2, .int .i64 c.fro.1, .int .i64 c.fro.2, .int .i64 c.unt.1, .int .i64 c.unt.2]

def eN (a b : Nm) : Bool := a.v == b.v && (a.f == b.f && true)
def eV (a b : Vc) : Bool := eN a.x b.x && (eN a.y b.y && true)
def eP (a b : Ps) : Bool := eV a.p b.p && (eN a.c b.c && (eN a.s b.s && true) && true)
def e2 (a b : Int × Int) : Bool := a.1 == b.1 && (a.2 == b.2 && true)
def eB (a b : (Int × Int) × (Int × Int)) : Bool := a.1.1 == b.1.1 && (a.1.2 == b.1.2 && (a.2.1 == b.2.1 && (a.2.2 == b.2.2 && true)))
def eS (a b : Shp) : Bool := (a.kind == b.kind && (a.r == b.r && (a.w == b.w && (a.h == b.h && true)))) && (a.pts == b.pts)
theorem eN_iff {a b : Nm} : eN a b = true ↔ a = b := by
  cases a; cases b; simp [eN]
theorem eV_iff {a b : Vc} : eV a b = true ↔ a = b := by
  cases a; cases b; simp [eV, eN_iff]
theorem eP_iff {a b : Ps} : eP a b = true ↔ a = b := by
  cases a; cases b; simp [eP, eN_iff, eV_iff]
theorem e2_iff {a b : Int × Int} : e2 a b = true ↔ a = b := by
  cases a; cases b; simp [e2]
theorem eB_iff {a b : (Int × Int) × (Int × Int)} : eB a b = true ↔ a = b := by
  obtain ⟨⟨a1, a2⟩, a3, a4⟩ := a
  obtain ⟨⟨b1, b2⟩, b3, b4⟩ := b
  simp [eB]
  constructor
  · rintro ⟨h1, h2, h3, h4⟩; exact ⟨⟨h1, h2⟩, h3, h4⟩
  · rintro ⟨⟨h1, h2⟩, h3, h4⟩; exact ⟨h1, h2, h3, h4⟩
theorem eS_iff {a b : Shp} : eS a b = true ↔ a = b := by
  cases a; cases b; simp [eS]
  constructor
  · rintro ⟨⟨h1, h2, h3, h4⟩, h5⟩; exact ⟨h1, h2, h3, h4, h5⟩
  · rintro ⟨h1, h2, h3, h4, h5⟩; exact ⟨⟨h1, h2, h3, h4⟩, h5⟩
/-- Two calls are the same. -/
def sameB (a b : Cl) : Bool := a.kind == b.kind && (a.id == b.id && (e2 a.body b.body && (a.ver == b.ver && (eS a.shape b.shape && (eP a.pose b.pose && (eV a.v b.v && (eN a.w b.w && (a.den == b.den && (a.moves == b.moves &&
  (eV a.pt b.pt && (eV a.to b.to && (a.grab == b.grab && (eB a.box b.box && (e2 a.fro b.fro && e2 a.unt b.unt))))))))))))))
theorem sameB_iff {a b : Cl} : sameB a b = true ↔ a = b := by
  cases a; cases b; simp [sameB, eN_iff, eV_iff, eP_iff, e2_iff, eB_iff, eS_iff]

/-- A condition that is asked; it is shown elsewhere. -/
noncomputable def asks (p : Prop) : Bool := @decide p (Classical.propDecidable p)
theorem asks_iff {p : Prop} : asks p = true ↔ p := by unfold asks; exact @decide_eq_true_iff p (Classical.propDecidable p)
theorem asks_true {p : Prop} (h : p) : asks p = true := asks_iff.2 h
/-- What is told of slices.Equal where the rows are known. -/
noncomputable def rowC (H : AH) (t : TypeId) : Option Addr → Option (List Value)
  | none => some []
  | some ⟨i, o, sp⟩ => match H.get i with
    | some ⟨l, t', _, live, _, mp⟩ => bif live && (Nat.beq t' t && (Nat.beq o 0 && (sp.isNone && mp.isNone))) then some l else none
    | none => none
noncomputable def eqO (t : TypeId) (xs ys : List (Int × Int)) : List Value → AH → (Out → AH → Res) → Res := fun args H k =>
  match args with
  | [.slice p n _, .slice q m _] => (match rowC H t p, rowC H t q with
    | some l1, some l2 => bif asks ((n = xs.length ∧ m = ys.length ∧ n < 9223372036854775807) ∧ l1 = flat xs ∧ l2 = flat ys) then k (.ret (.bool (xs == ys))) H else none
    | _, _ => none)
  | _ => none

theorem flat_nil {xs : List (Int × Int)} (h : ([] : List Value) = flat xs) : xs = [] := by
  cases xs with
  | nil => rfl
  | cons p r => cases h
theorem rowC_cases {H : AH} {t : TypeId} {p : Option Addr} {l : List Value} (h : rowC H t p = some l) : (p = none ∧ l = []) ∨ ∃ i wr pl, p = some ⟨i, 0, none⟩ ∧ H.get i = some ⟨l, t, wr, true, pl, none⟩ := by
  unfold rowC at h
  split at h
  · injection h with h
    exact .inl ⟨rfl, h.symm⟩
  · rename_i i o sp
    split at h
    · rename_i l' t' wr live pl mp hb
      cases hc : (live && (Nat.beq t' t && (Nat.beq o 0 && (sp.isNone && mp.isNone)))) with
      | false => rw [hc, cond_false] at h; cases h
      | true =>
      rw [hc, cond_true] at h
      simp only [Bool.and_eq_true, Nat.beq_eq, Option.isNone_iff_eq_none] at hc
      obtain ⟨rfl, rfl, rfl, rfl, rfl⟩ := hc
      injection h with h
      subst h
      exact .inr ⟨i, wr, pl, rfl, hb⟩
    · cases h
theorem rowC_holds {H : AH} {t : TypeId} {p : Option Addr} {l : List Value} {xs : List (Int × Int)} (h : rowC H t p = some l) (hl : l = flat xs) : Holds H t p xs := by
  rcases rowC_cases h with ⟨_, rfl⟩ | ⟨i, wr, pl, rfl, hb⟩
  · exact .inl (flat_nil hl)
  · exact .inr ⟨i, _, rfl, hb, rfl, hl⟩
theorem eqO_ok {f : FuncId} {t : TypeId} (hf : EqFun f t) (hw : EqWhole f) (xs ys : List (Int × Int)) : CallOK Try.prog (fun g args H k => if g = f then eqO t xs ys args H k else none) := by
  refine callOK_of_fun fun args H k r hr => ?_
  unfold eqO at hr
  split at hr
  · rename_i p n c q m d
    split at hr
    · rename_i l1 l2 h1 h2
      obtain ⟨hc, hr2⟩ := cond_some hr
      clear hr
      obtain ⟨⟨rfl, rfl, hn⟩, h3, h4⟩ := asks_iff.1 hc
      exact ⟨_, eq_fun hf hw (rowC_holds (t := t) h1 h3) (rowC_holds (t := t) h2 h4) rfl rfl hn, fun o H' ⟨h1, h2⟩ => by rw [h1, h2]; exact hr2⟩
    · cases hr
  · cases hr

/-- Conditions one after the other; F where one fails. -/
noncomputable def andN (F : Res) (X : Res) : List Bool → Res := List.rec (motive := fun _ => Res) X (fun c _ ih => bif c then ih else F)
theorem andN_eq {F X : Res} (l : List Bool) : andN F X l = bif l.all id then X else F := by
  induction l with
  | nil => rfl
  | cons c l ih =>
    rw [List.all_cons]
    show (bif c then andN F X l else F) = _
    rw [ih]
    cases c <;> rfl

section
variable (a b : Cl) (g : Out → List (Option Blk) → Res) (B : List (Option Blk))
noncomputable def sameNest (D : Bool) : Res :=
  andN (g (.ret (.bool false)) B) (bif D then andN (g (.ret (.bool false)) B) (g (.ret (.bool (e2 a.unt b.unt))) B)
    [a.shape.pts == b.shape.pts, eP a.pose b.pose, eV a.v b.v, eN a.w b.w, a.den == b.den, a.moves == b.moves, eV a.pt b.pt, eV a.to b.to, a.grab == b.grab, eB a.box b.box, e2 a.fro b.fro] else none)
    [a.kind == b.kind, a.id == b.id, e2 a.body b.body, a.ver == b.ver, (a.shape.kind == b.shape.kind && (a.shape.r == b.shape.r && (a.shape.w == b.shape.w && (a.shape.h == b.shape.h && true))))]
theorem sameNest_eq : sameNest a b g B true = g (.ret (.bool (sameB a b))) B := by
  unfold sameNest
  rw [cond_true, andN_eq, andN_eq]
  simp only [List.all_cons, List.all_nil, Bool.and_true, id]
  unfold sameB eS
  simp only [Bool.and_assoc, Bool.and_true]
  generalize (a.kind == b.kind) = c1
  generalize (a.id == b.id) = c2
  generalize e2 a.body b.body = c3
  generalize (a.ver == b.ver) = c4
  generalize (a.shape.kind == b.shape.kind) = c5
  generalize (a.shape.r == b.shape.r) = c6
  generalize (a.shape.w == b.shape.w) = c7
  generalize (a.shape.h == b.shape.h) = c8
  cases c1 <;> cases c2 <;> cases c3 <;> cases c4 <;> cases c5 <;> cases c6 <;> cases c7 <;> cases c8 <;> try rfl
  simp only [Bool.true_and]
  rw [cond_true]
  generalize (a.shape.pts == b.shape.pts) = d1
  generalize eP a.pose b.pose = d2
  generalize eV a.v b.v = d3
  generalize eN a.w b.w = d4
  generalize (a.den == b.den) = d5
  generalize (a.moves == b.moves) = d6
  generalize eV a.pt b.pt = d7
  generalize eV a.to b.to = d8
  generalize (a.grab == b.grab) = d9
  generalize eB a.box b.box = d10
  generalize e2 a.fro b.fro = d11
  cases d1 <;> try rfl
  cases d2 <;> try rfl
  cases d3 <;> try rfl
  cases d4 <;> try rfl
  cases d5 <;> try rfl
  cases d6 <;> try rfl
  cases d7 <;> try rfl
  cases d8 <;> try rfl
  cases d9 <;> try rfl
  cases d10 <;> try rfl
  cases d11 <;> rfl
noncomputable def sameTbl (xs ys : List (Int × Int)) : Tbl := tblOf [(106, eqO 47 xs ys)]
theorem sameTbl_ok (xs ys : List (Int × Int)) : TblOK Try.prog (sameTbl xs ys) := tblOf_ok fun x hx => by
  simp only [List.mem_cons, List.not_mem_nil, or_false] at hx
  rcases hx with rfl
  exact eqO_ok eqFun106 eqWhole106 xs ys
@[reducible] def ptB (xs : List (Int × Int)) (wr pl : Bool) : Blk := ⟨flat xs, 47, wr, true, pl, none⟩
@[reducible] def slN (n c : Nat) : Value := .slice none n c
@[reducible] def slI (i n c : Nat) : Value := .slice (some ⟨i, 0, none⟩) n c
noncomputable def sameRun (p q : Value) (B : List Blk) (g : Out → List (Option Blk) → Res) : Res := run Try.prog (sameTbl a.shape.pts b.shape.pts) 100 30 25 [.agg ⟨a.cells p⟩, .agg ⟨b.cells q⟩] (AH.of B) (fun o H' => g o (seen H' B.length))
def sameAsk (n m : Nat) (l1 l2 : List Value) : Prop := (n = a.shape.pts.length ∧ m = b.shape.pts.length ∧ n < 9223372036854775807) ∧ l1 = flat a.shape.pts ∧ l2 = flat b.shape.pts
variable (n m c d : Nat) (w1 w2 p1 p2 : Bool)
theorem same00 : sameRun a b (slN n c) (slN m d) [] g = sameNest a b g [] (asks (sameAsk a b n m [] [])) := by kernel_rfl
theorem same10 : sameRun a b (slI 0 n c) (slN m d) [ptB a.shape.pts w1 p1] g = sameNest a b g [some (ptB a.shape.pts w1 p1)] (asks (sameAsk a b n m (flat a.shape.pts) [])) := by kernel_rfl
theorem same01 : sameRun a b (slN n c) (slI 0 m d) [ptB b.shape.pts w1 p1] g = sameNest a b g [some (ptB b.shape.pts w1 p1)] (asks (sameAsk a b n m [] (flat b.shape.pts))) := by kernel_rfl
theorem same11 : sameRun a b (slI 0 n c) (slI 1 m d) [ptB a.shape.pts w1 p1, ptB b.shape.pts w2 p2] g = sameNest a b g [some (ptB b.shape.pts w2 p2), some (ptB a.shape.pts w1 p1)] (asks (sameAsk a b n m (flat a.shape.pts) (flat b.shape.pts))) := by kernel_rfl
theorem same1e : sameRun a b (slI 0 n c) (slI 0 m d) [ptB a.shape.pts w1 p1] g = sameNest a b g [some (ptB a.shape.pts w1 p1)] (asks (sameAsk a b n m (flat a.shape.pts) (flat a.shape.pts))) := by kernel_rfl
end

def vI (x : List Value) (i : Nat) : Int := vInt (x.getD i undef)
def vF (x : List Value) (i : Nat) : Bool := match x.getD i undef with | .bool b => b | _ => false
def vN (x : List Value) (i : Nat) : Nm := ⟨vI x i, vF x (i + 1)⟩
def vVc (x : List Value) (i : Nat) : Vc := ⟨vN x i, vN x (i + 2)⟩
def Cl.of (x : List Value) (pts : List (Int × Int)) : Cl :=
  ⟨vI x 0, vI x 1, (vI x 2, vI x 3), vI x 4, ⟨vI x 5, vI x 6, vI x 7, vI x 8, pts⟩, ⟨vVc x 10, vN x 14, vN x 16⟩, vVc x 18, vN x 22, vI x 24, vF x 25, vVc x 26, vVc x 30, vI x 34,
    ((vI x 35, vI x 36), (vI x 37, vI x 38)), (vI x 39, vI x 40), (vI x 41, vI x 42)⟩
theorem Cl.of_cells (c : Cl) (p : Value) : Cl.of (c.cells p) c.shape.pts = c := rfl
def pairsOf : List Value → List (Int × Int)
  | a :: b :: r => (vInt a, vInt b) :: pairsOf r
  | _ => []
theorem pairsOf_flat : ∀ l, pairsOf (flat l) = l
  | [] => rfl
  | p :: r => by rw [flat, pairsOf, pairsOf_flat r]; rfl
/-- What SameCall is asked. -/
def SameAsk (x y : List Value) (p q : Value) (n m : Nat) (l1 l2 : List Value) : Prop :=
  x = (Cl.of x (pairsOf l1)).cells p ∧ y = (Cl.of y (pairsOf l2)).cells q ∧ sameAsk (Cl.of x (pairsOf l1)) (Cl.of y (pairsOf l2)) n m l1 l2
noncomputable def sameS : List Value → AH → (Out → AH → Res) → Res := fun args H k =>
  match args with
  | [.agg x, .agg y] => (match lget x.toList 9, lget y.toList 9 with
    | some (.slice p n c), some (.slice q m d) => (match rowC H 47 p, rowC H 47 q with
      | some l1, some l2 => bif asks (SameAsk x.toList y.toList (.slice p n c) (.slice q m d) n m l1 l2) then k (.ret (.bool (sameB (Cl.of x.toList (pairsOf l1)) (Cl.of y.toList (pairsOf l2))))) H else none
      | _, _ => none)
    | _, _ => none)
  | _ => none

section
variable {H : AH}
theorem ptB_fine (n : Nat) (xs : List (Int × Int)) (wr pl : Bool) : Fine n (ptB xs wr pl) := by
  have key : ∀ (m : Nat) (xs : List (Int × Int)), (flat xs).all (scS m) = true := by
    intro m xs
    induction xs with
    | nil => rfl
    | cons p r ih => rw [flat, List.all_cons, List.all_cons, ih]; rfl
  exact ⟨key n xs, fun _ => key 0 xs, rfl⟩
theorem rB_ptB (r : Nat → Nat) (xs : List (Int × Int)) (wr pl : Bool) : rB r (ptB xs wr pl) = ptB xs wr pl := by
  have key : (flat xs).map (rS r) = flat xs := by
    induction xs with
    | nil => rfl
    | cons p t ih => rw [flat, List.map_cons, List.map_cons, ih]; rfl
  unfold rB ptB
  rw [key]; rfl
theorem rS_cells (r : Nat → Nat) (c : Cl) (p : Value) : (c.cells p).map (rS r) = c.cells (rS r p) := rfl
theorem all_cells (f : Value → Bool) (hi : ∀ n, f (.int .i64 n) = true) (hb : ∀ b, f (.bool b) = true) (c : Cl) (p : Value) : (c.cells p).all f = f p := by
  simp only [List.all_cons, List.all_nil, hi, hb, Bool.true_and, Bool.and_true]
theorem sc_cells (n : Nat) (c : Cl) (p : Value) (h : scS n p = true) : scV n (.agg ⟨c.cells p⟩) = true := (all_cells (scS n) (fun _ => rfl) (fun _ => rfl) c p).trans h
theorem rV_cells (r : Nat → Nat) (c : Cl) (p : Value) : rV r (.agg ⟨c.cells p⟩) = .agg ⟨c.cells (rS r p)⟩ := by
  show Value.agg ((⟨c.cells p⟩ : Array Value).map (rS r)) = _
  rw [List.map_toArray, rS_cells]
theorem same_fun {a b : Cl} {p q : Value} {n m : Nat} {l1 l2 : List Value} (hask : sameAsk a b n m l1 l2) {B : List Blk} (hB : ∀ x ∈ B, Fine B.length x) {idx : List Nat} (hlen : idx.length = B.length)
    (hnd : ∀ i j, i < idx.length → j < idx.length → rI idx i = rI idx j → i = j) (hget : ∀ (j : Nat) (x : Blk), B[j]? = some x → H.get (rI idx j) = some (rB (rI idx) x)) (hp : scS B.length p = true) (hq : scS B.length q = true)
    (hrun : ∀ g, sameRun a b p q B g = sameNest a b g (B.reverse.map some) (asks (sameAsk a b n m l1 l2))) :
    Fun Try.prog H.size 25 [.agg ⟨a.cells (rS (rI idx) p)⟩, .agg ⟨b.cells (rS (rI idx) q)⟩] H fun o H' => o = .ret (.bool (sameB a b)) ∧ H' = H := by
  have h0 : Fun Try.prog B.length 25 [.agg ⟨a.cells p⟩, .agg ⟨b.cells q⟩] (AH.of B) fun o H' => o = .ret (.bool (sameB a b)) ∧ H' = AH.of B := by
    refine fun_of_see try_num try_mix (sameTbl_ok a.shape.pts b.shape.pts) (loops := 100) (n := 30) B (low_of B rfl) (fun g => (hrun g).trans ?_) (Nat.le_refl _) rfl ?_
    · rw [asks_true hask, sameNest_eq]
    · exact List.all_eq_true.2 fun x hx => by
        have := hB x hx
        rw [this.1, this.2.2]; rfl
  have h1 := fun_keep (H := H) h0 hlen hnd hget hB (by
    intro v hv
    simp only [List.mem_cons, List.not_mem_nil, or_false] at hv
    rcases hv with rfl | rfl
    · exact sc_cells _ a p hp
    · exact sc_cells _ b q hq)
  simp only [List.map_cons, List.map_nil, rV_cells] at h1
  exact h1
theorem sameS_ok : CallOK Try.prog (fun g args H k => if g = 25 then sameS args H k else none) := by
  refine callOK_of_fun fun args H k r hr => ?_
  unfold sameS at hr
  split at hr
  · rename_i x y
    split at hr
    · rename_i p n c q m d _ _
      split at hr
      · rename_i l1 l2 h1 h2
        obtain ⟨hc, hr2⟩ := cond_some hr
        clear hr
        obtain ⟨hx, hy, hask⟩ := asks_iff.1 hc
        refine ⟨fun o H' => o = .ret (.bool (sameB (Cl.of x.toList (pairsOf l1)) (Cl.of y.toList (pairsOf l2)))) ∧ H' = H, ?_, fun o' H' ⟨h1, h2⟩ => by rw [h1, h2]; exact hr2⟩
        have e1 : (Value.agg x) = .agg ⟨(Cl.of x.toList (pairsOf l1)).cells (.slice p n c)⟩ := by rw [← hx]
        have e2 : (Value.agg y) = .agg ⟨(Cl.of y.toList (pairsOf l2)).cells (.slice q m d)⟩ := by rw [← hy]
        rw [e1, e2]
        clear e1 e2 hx hy
        generalize Cl.of x.toList (pairsOf l1) = a at *
        generalize Cl.of y.toList (pairsOf l2) = b at *
        have hl1 := hask.2.1
        have hl2 := hask.2.2
        rcases rowC_cases h1 with ⟨rfl, e1⟩ | ⟨i, w1, p1, rfl, g1⟩
        · rcases rowC_cases h2 with ⟨rfl, e2⟩ | ⟨j, w2, p2, rfl, g2⟩
          · subst e1; subst e2
            exact same_fun (p := slN n c) (q := slN m d) (B := []) (idx := []) hask (by simp) rfl (by simp) (by simp) rfl rfl (fun g => same00 a b g n m c d)
          · subst e1
            rw [hl2] at hask
            refine same_fun (p := slN n c) (q := slI 0 m d) (B := [ptB b.shape.pts w2 p2]) (idx := [j]) hask ?_ rfl ?_ ?_ rfl rfl (fun g => same01 a b g n m c d w2 p2)
            · intro z hz
              rw [List.mem_singleton] at hz
              subst hz
              exact ptB_fine _ _ _ _
            · intro x y hx hy _
              simp only [List.length_singleton] at hx hy
              omega
            · intro z x hz
              match z, hz with
              | 0, hz =>
                have : ptB b.shape.pts w2 p2 = x := by simpa using hz
                rw [← this, rB_ptB]
                show H.get j = some ⟨flat b.shape.pts, 47, w2, true, p2, none⟩
                rw [← hl2]
                exact g2
        · rcases rowC_cases h2 with ⟨rfl, e2⟩ | ⟨j, w2, p2, rfl, g2⟩
          · subst e2
            rw [hl1] at hask
            refine same_fun (p := slI 0 n c) (q := slN m d) (B := [ptB a.shape.pts w1 p1]) (idx := [i]) hask ?_ rfl ?_ ?_ rfl rfl (fun g => same10 a b g n m c d w1 p1)
            · intro z hz
              rw [List.mem_singleton] at hz
              subst hz
              exact ptB_fine _ _ _ _
            · intro x y hx hy _
              simp only [List.length_singleton] at hx hy
              omega
            · intro z x hz
              match z, hz with
              | 0, hz =>
                have : ptB a.shape.pts w1 p1 = x := by simpa using hz
                rw [← this, rB_ptB]
                show H.get i = some ⟨flat a.shape.pts, 47, w1, true, p1, none⟩
                rw [← hl1]
                exact g1
          · by_cases hij : i = j
            · subst hij
              rw [g1] at g2
              injection g2 with g2
              injection g2 with g2
              subst g2
              rw [hl1] at hask
              refine same_fun (p := slI 0 n c) (q := slI 0 m d) (B := [ptB a.shape.pts w1 p1]) (idx := [i]) hask ?_ rfl ?_ ?_ rfl rfl (fun g => same1e a b g n m c d w1 p1)
              · intro z hz
                rw [List.mem_singleton] at hz
                subst hz
                exact ptB_fine _ _ _ _
              · intro x y hx hy _
                simp only [List.length_singleton] at hx hy
                omega
              · intro z x hz
                match z, hz with
                | 0, hz =>
                  have : ptB a.shape.pts w1 p1 = x := by simpa using hz
                  rw [← this, rB_ptB]
                  show H.get i = some ⟨flat a.shape.pts, 47, w1, true, p1, none⟩
                  rw [← hl1]
                  exact g1
            · rw [hl1, hl2] at hask
              refine same_fun (p := slI 0 n c) (q := slI 1 m d) (B := [ptB a.shape.pts w1 p1, ptB b.shape.pts w2 p2]) (idx := [i, j]) hask ?_ rfl ?_ ?_ rfl rfl (fun g => same11 a b g n m c d w1 w2 p1 p2)
              · intro z hz
                simp only [List.mem_cons, List.not_mem_nil, or_false] at hz
                rcases hz with rfl | rfl
                · exact ptB_fine _ _ _ _
                · exact ptB_fine _ _ _ _
              · intro x y hx hy h
                match x, y, hx, hy, h with
                | 0, 0, _, _, _ => rfl
                | 1, 1, _, _, _ => rfl
                | 0, 1, _, _, h => exact absurd h hij
                | 1, 0, _, _, h => exact absurd h.symm hij
              · intro z x hz
                match z, hz with
                | 0, hz =>
                  have : ptB a.shape.pts w1 p1 = x := by simpa using hz
                  rw [← this, rB_ptB]
                  show H.get i = some ⟨flat a.shape.pts, 47, w1, true, p1, none⟩
                  rw [← hl1]
                  exact g1
                | 1, hz =>
                  have : ptB b.shape.pts w2 p2 = x := by simpa using hz
                  rw [← this, rB_ptB]
                  show H.get j = some ⟨flat b.shape.pts, 47, w2, true, p2, none⟩
                  rw [← hl2]
                  exact g2
      · cases hr
    · cases hr
  · cases hr
end
end Go.RX
