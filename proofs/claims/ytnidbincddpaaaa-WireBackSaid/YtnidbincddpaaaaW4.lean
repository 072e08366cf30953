/- slices.Equal of spots and of handles. -/
import Derived.Test.YtnidbincddpaaaaE18
import Derived.Test.YtnidbincddpaaaaW3
namespace Go.RX
open Go Go.Proofs Go.RowKit
set_option maxRecDepth 100000

noncomputable def R0 : CallK := run Try.prog (fun _ => none) 100 30
noncomputable def eqLoop (f : FuncId) : Code := codeIn (codeR (codeL (codeR (codeR (bodyOf Try.prog f)))))
noncomputable def eqIn (f : FuncId) : Code := codeIn (eqLoop f)
noncomputable def eqCont (f : FuncId) : Code := .seq (codeR (codeR (codeIn (codeL (codeR (codeR (eqIn f))))))) (codeR (codeR (codeR (eqIn f))))
@[reducible] def eqSt (i1 i2 n c d : Nat) (x : Int) : List (Tmp × Value) := [(0, .slice (some ⟨i1,0,none⟩) n c), (1, .slice (some ⟨i2,0,none⟩) n d), (12, .int .i64 n), (13, .int .i64 x)]
noncomputable def eqNest (f : FuncId) (t : TypeId) (H : AH) (i1 i2 n c d : Nat) (x : Int) (K : XE → Tm → AH → Res) (y : Res) : Res :=
  bif ltB x n then bif inB x n then hLoad Try.prog (tmOf [(18, .pointer (some ⟨i1, Nat.add 0 (Nat.mul x.toNat 2), none⟩))]) H t (.tmp 18) (fun u _ => bif inB x n then
      hLoad Try.prog (tmOf [(22, .pointer (some ⟨i2, Nat.add 0 (Nat.mul x.toNat 2), none⟩))]) H t (.tmp 22) (fun v _ =>
        hBin Try.prog (tmOf [(19, u), (23, v)]) H .neq t (.tmp 19) (.tmp 23) (fun q _ => exec Try.prog 26 [] 100 R0 (eqCont f) (tmOf ((24, q) :: eqSt i1 i2 n c d x)) H K)) else none) else none
  else y
@[reducible] def outF : List (Tmp × Value) := [(4, .bool false)]
section
variable (H : AH) (i1 i2 n c d : Nat) (x : Int) (g : XE → List (Option Value) → AH → Res)
theorem eq_body106 : exec Try.prog 26 [] 100 R0 (eqIn 106) (tmOf (eqSt i1 i2 n c d x)) H (fun e tm' H' => g e (look tm' (eqSt i1 i2 n c d x)) H') = eqNest 106 47 H i1 i2 n c d x (fun e tm' H' => g e (look tm' (eqSt i1 i2 n c d x)) H') (g (.exit 0) (told2 (eqSt i1 i2 n c d x)) H) := by kernel_rfl
theorem eq_body82 : exec Try.prog 26 [] 100 R0 (eqIn 82) (tmOf (eqSt i1 i2 n c d x)) H (fun e tm' H' => g e (look tm' (eqSt i1 i2 n c d x)) H') = eqNest 82 32 H i1 i2 n c d x (fun e tm' H' => g e (look tm' (eqSt i1 i2 n c d x)) H') (g (.exit 0) (told2 (eqSt i1 i2 n c d x)) H) := by kernel_rfl
theorem eq_out106 : exec Try.prog 26 [] 100 R0 (eqIn 106) (tmOf (eqSt i1 i2 n c d x)) H (fun e tm' H' => g e (look tm' outF) H') = eqNest 106 47 H i1 i2 n c d x (fun e tm' H' => g e (look tm' outF) H') (g (.exit 0) [none] H) := by kernel_rfl
theorem eq_out82 : exec Try.prog 26 [] 100 R0 (eqIn 82) (tmOf (eqSt i1 i2 n c d x)) H (fun e tm' H' => g e (look tm' outF) H') = eqNest 82 32 H i1 i2 n c d x (fun e tm' H' => g e (look tm' outF) H') (g (.exit 0) [none] H) := by kernel_rfl
theorem cont_t106 : exec Try.prog 26 [] 100 R0 (eqCont 106) (tmOf ((24, .bool true) :: eqSt i1 i2 n c d x)) H (fun e tm' H' => g e (look tm' outF) H') = g .ret (told2 outF) H := by kernel_rfl
theorem cont_t82 : exec Try.prog 26 [] 100 R0 (eqCont 82) (tmOf ((24, .bool true) :: eqSt i1 i2 n c d x)) H (fun e tm' H' => g e (look tm' outF) H') = g .ret (told2 outF) H := by kernel_rfl
theorem cont_f106 : exec Try.prog 26 [] 100 R0 (eqCont 106) (tmOf ((24, .bool false) :: eqSt i1 i2 n c d x)) H (fun e tm' H' => g e (look tm' (eqSt i1 i2 n c d x)) H') = g .normal (told2 (eqSt i1 i2 n c d (IntKind.i64.wrap (x + 1)))) H := by kernel_rfl
theorem cont_f82 : exec Try.prog 26 [] 100 R0 (eqCont 82) (tmOf ((24, .bool false) :: eqSt i1 i2 n c d x)) H (fun e tm' H' => g e (look tm' (eqSt i1 i2 n c d x)) H') = g .normal (told2 (eqSt i1 i2 n c d (IntKind.i64.wrap (x + 1)))) H := by kernel_rfl
end

/-- Cells of pairs of numbers. -/
def flat : List (Int × Int) → List Value
  | [] => []
  | p :: r => .int .i64 p.1 :: .int .i64 p.2 :: flat r
theorem flat_len : ∀ l, (flat l).length = 2 * l.length
  | [] => rfl
  | p :: r => by rw [flat, List.length_cons, List.length_cons, flat_len r, List.length_cons]; omega
theorem flat_at : ∀ (l : List (Int × Int)) (j : Nat) (p : Int × Int), l[j]? = some p → ((flat l).drop (2 * j)).take 2 = [.int .i64 p.1, .int .i64 p.2]
  | [], j, p, h => by simp at h
  | q :: r, 0, p, h => by
    have : q = p := by simpa using h
    subst this
    rfl
  | q :: r, j + 1, p, h => by
    have h' : r[j]? = some p := by simpa using h
    have := flat_at r j p h'
    rw [flat, show 2 * (j + 1) = 2 * j + 1 + 1 by omega, List.drop_succ_cons, List.drop_succ_cons]
    exact this
section
variable {H : AH} {kv : KV}
theorem load_pair {t : TypeId} (ht : t = 47 ∨ t = 32) {s : Tmp} {i off : Nat} {b : Blk} (hi : H.get i = some b) (hl : b.live = true) {u v : Value} (hc : (b.cells.drop off).take 2 = [u, v]) :
    hLoad Try.prog (tmOf [(s, .pointer (some ⟨i, off, none⟩))]) H t (.tmp s) kv = kv (.agg #[u, v]) H := by
  have h1 : ev (tmOf [(s, Value.pointer (some ⟨i, off, none⟩))]) (.tmp s) = some (.pointer (some ⟨i, off, none⟩)) := by
    show (Tr.set Tr.e s (Value.pointer (some ⟨i, off, none⟩))).get s = _
    rw [Tr.get_set, if_pos rfl]
  have h2 : tyB Try.prog t = some (true, 2) := by rcases ht with rfl | rfl <;> kernel_rfl
  unfold hLoad
  rw [h1]
  simp only [h2, hi, hl, cond_true, ltake_eq, ldrop_eq, hc]
  rfl
theorem neq_pair {t : TypeId} (ht : t = 47 ∨ t = 32) (p q : Int × Int) :
    hBin Try.prog (tmOf [(19, .agg #[.int .i64 p.1, .int .i64 p.2]), (23, .agg #[.int .i64 q.1, .int .i64 q.2])]) H .neq t (.tmp 19) (.tmp 23) kv = kv (.bool !(p.1 == q.1 && (p.2 == q.2 && true))) H := by
  rcases ht with rfl | rfl <;> kernel_rfl
end

/-- A slice that is a row of pairs, whole; of no length: any. -/
def Holds (H : AH) (_ : TypeId) (p : Option Addr) (xs : List (Int × Int)) : Prop := xs = [] ∨ ∃ i b, p = some ⟨i, 0, none⟩ ∧ H.get i = some b ∧ b.live = true ∧ b.cells = flat xs
theorem low_keep (H : AH) : KeepM H.size H H := (Low.all H).refl
theorem pair_at {xs : List (Int × Int)} {j : Nat} {p : Int × Int} (h : xs[j]? = some p) : ((flat xs).drop (Nat.add 0 (Nat.mul ((j : Nat) : Int).toNat 2))).take 2 = [.int .i64 p.1, .int .i64 p.2] := by
  rw [show Nat.add 0 (Nat.mul ((j : Nat) : Int).toNat 2) = 2 * j by simp; omega]
  exact flat_at xs j p h

section
variable {H : AH} {f : FuncId} {t : TypeId}
theorem eqNest_true (ht : t = 47 ∨ t = 32) {i1 i2 n c d : Nat} {b1 b2 : Blk} {xs ys : List (Int × Int)} (h1 : H.get i1 = some b1) (l1 : b1.live = true) (e1 : b1.cells = flat xs) (h2 : H.get i2 = some b2) (l2 : b2.live = true) (e2 : b2.cells = flat ys)
    {j : Nat} {p q : Int × Int} (hj : j < n) (hp : xs[j]? = some p) (hq : ys[j]? = some q) (K : XE → Tm → AH → Res) (y : Res) :
    eqNest f t H i1 i2 n c d j K y = exec Try.prog 26 [] 100 R0 (eqCont f) (tmOf ((24, .bool !(p.1 == q.1 && (p.2 == q.2 && true))) :: eqSt i1 i2 n c d j)) H K := by
  unfold eqNest
  have a1 : ltB (j : Int) n = true := by rw [ltB_eq, decide_eq_true_iff]; omega
  have a2 : inB (j : Int) n = true := by
    simp only [inB, ltB_eq]
    simp only [Bool.and_eq_true, Bool.not_eq_true', decide_eq_false_iff_not, decide_eq_true_eq]
    omega
  rw [a1, cond_true, a2, cond_true, load_pair ht h1 l1 (by rw [e1]; exact pair_at hp), cond_true, load_pair ht h2 l2 (by rw [e2]; exact pair_at hq), neq_pair ht]

/-- One round, for either function. -/
structure EqFun (f : FuncId) (t : TypeId) : Prop where
  ty : t = 47 ∨ t = 32
  body : ∀ (H : AH) (i1 i2 n c d : Nat) (x : Int) (g : XE → List (Option Value) → AH → Res), exec Try.prog 26 [] 100 R0 (eqIn f) (tmOf (eqSt i1 i2 n c d x)) H (fun e tm' H' => g e (look tm' (eqSt i1 i2 n c d x)) H') = eqNest f t H i1 i2 n c d x (fun e tm' H' => g e (look tm' (eqSt i1 i2 n c d x)) H') (g (.exit 0) (told2 (eqSt i1 i2 n c d x)) H)
  out : ∀ (H : AH) (i1 i2 n c d : Nat) (x : Int) (g : XE → List (Option Value) → AH → Res), exec Try.prog 26 [] 100 R0 (eqIn f) (tmOf (eqSt i1 i2 n c d x)) H (fun e tm' H' => g e (look tm' outF) H') = eqNest f t H i1 i2 n c d x (fun e tm' H' => g e (look tm' outF) H') (g (.exit 0) [none] H)
  ct : ∀ (H : AH) (i1 i2 n c d : Nat) (x : Int) (g : XE → List (Option Value) → AH → Res), exec Try.prog 26 [] 100 R0 (eqCont f) (tmOf ((24, .bool true) :: eqSt i1 i2 n c d x)) H (fun e tm' H' => g e (look tm' outF) H') = g .ret (told2 outF) H
  cf : ∀ (H : AH) (i1 i2 n c d : Nat) (x : Int) (g : XE → List (Option Value) → AH → Res), exec Try.prog 26 [] 100 R0 (eqCont f) (tmOf ((24, .bool false) :: eqSt i1 i2 n c d x)) H (fun e tm' H' => g e (look tm' (eqSt i1 i2 n c d x)) H') = g .normal (told2 (eqSt i1 i2 n c d (IntKind.i64.wrap (x + 1)))) H
theorem eqFun106 : EqFun 106 47 := ⟨.inl rfl, eq_body106, eq_out106, cont_t106, cont_f106⟩
theorem eqFun82 : EqFun 82 32 := ⟨.inr rfl, eq_body82, eq_out82, cont_t82, cont_f82⟩

theorem eq_loop (hf : EqFun f t) {i1 i2 n c d : Nat} {b1 b2 : Blk} {xs ys : List (Int × Int)} (h1 : H.get i1 = some b1) (l1 : b1.live = true) (e1 : b1.cells = flat xs) (h2 : H.get i2 = some b2) (l2 : b2.live = true) (e2 : b2.cells = flat ys)
    (hx : xs.length = n) (hy : ys.length = n) (hn : n < 9223372036854775807) :
    Seg Try.prog 26 [] [] H.size (.loop (eqIn f)) (tmOf (eqSt i1 i2 n c d 0)) H (fun e tm' H' => match e with
      | .exit i => i = 0 ∧ xs = ys ∧ H' = H
      | .ret => xs ≠ ys ∧ tm' = tmOf outF ∧ H' = H
      | _ => False) := by
  refine seg_loop (fun k tm H' => ∃ j : Nat, k = n - j ∧ j ≤ n ∧ tm = tmOf (eqSt i1 i2 n c d j) ∧ H' = H ∧ xs.take j = ys.take j) ?_ n ⟨0, rfl, Nat.zero_le _, rfl, rfl, rfl⟩ (Low.all H)
  rintro k tm H' ⟨j, rfl, hj, rfl, rfl, hpre⟩ _
  by_cases hlt : j < n
  · have hp : xs[j]? = some xs[j] := List.getElem?_eq_getElem (by omega)
    have hq : ys[j]? = some ys[j] := List.getElem?_eq_getElem (by omega)
    by_cases heq : xs[j] = ys[j]
    · refine (seg_see try_num try_mix tbl_none (loops := 100) (n := 30) (fuel := 100) (e1 := .normal) (eqSt i1 i2 n c d ((j + 1 : Nat) : Int)) (Low.all H') trivial (fun g => ?_) (low_keep H')).mono ?_
      · refine (hf.body H' i1 i2 n c d j g).trans ?_
        rw [eqNest_true hf.ty h1 l1 e1 h2 l2 e2 hlt hp hq]
        rw [heq, beq_self_eq_true, beq_self_eq_true]
        refine (hf.cf H' i1 i2 n c d j g).trans ?_
        rw [show IntKind.i64.wrap ((j : Int) + 1) = ((j + 1 : Nat) : Int) by rw [IntKind.wrap_i64]; omega]
      · rintro e tm' H'' ⟨rfl, rfl, rfl⟩
        refine ⟨n - (j + 1), by omega, j + 1, rfl, by omega, rfl, rfl, ?_⟩
        rw [List.take_add_one, List.take_add_one, hpre, hp, hq, heq]
    · refine (seg_see try_num try_mix tbl_none (loops := 100) (n := 30) (fuel := 100) (e1 := .ret) outF (Low.all H') trivial (fun g => ?_) (low_keep H')).mono ?_
      · refine (hf.out H' i1 i2 n c d j g).trans ?_
        rw [eqNest_true hf.ty h1 l1 e1 h2 l2 e2 hlt hp hq]
        have : (!(xs[j].1 == ys[j].1 && (xs[j].2 == ys[j].2 && true))) = true := by
          simp only [Bool.and_true, Bool.not_eq_true', Bool.and_eq_false_iff, beq_eq_false_iff_ne]
          by_cases h : xs[j].1 = ys[j].1
          · exact .inr fun h' => heq (Prod.ext h h')
          · exact .inl h
        rw [this]
        exact hf.ct H' i1 i2 n c d j g
      · rintro e tm' H'' ⟨rfl, rfl, rfl⟩
        refine ⟨fun he => heq (by subst he; rfl), rfl, rfl⟩
  · have hjn : j = n := by omega
    subst hjn
    refine (seg_see try_num try_mix tbl_none (loops := 100) (n := 30) (fuel := 100) (e1 := .exit 0) (eqSt i1 i2 j c d j) (Low.all H') trivial (fun g => ?_) (low_keep H')).mono ?_
    · refine (hf.body H' i1 i2 j c d j g).trans ?_
      unfold eqNest
      rw [show ltB (j : Int) j = false by rw [ltB_eq, decide_eq_false_iff_not]; omega, cond_false]
    · rintro e tm' H'' ⟨rfl, rfl, rfl⟩
      refine ⟨rfl, ?_, rfl⟩
      rw [← List.take_of_length_le (Nat.le_of_eq hx), ← List.take_of_length_le (Nat.le_of_eq hy)]
      exact hpre
end

@[reducible] def eqAB (p q : Option Addr) (n m c d : Nat) : List (Tmp × Value) := [(0, .slice p n c), (1, .slice q m d)]
@[reducible] def eqS0 (p q : Option Addr) (n c d : Nat) : List (Tmp × Value) := [(0, .slice p n c), (1, .slice q n d), (12, .int .i64 n), (13, .int .i64 0)]
@[reducible] def outT : List (Tmp × Value) := [(4, .bool true)]
/-- The pieces of either function. -/
structure EqWhole (f : FuncId) : Prop where
  nt : ntOf Try.prog f = 26
  a : ∀ (H : AH) (p q : Option Addr) (n m c d : Nat) (g : XE → List (Option Value) → AH → Res), exec Try.prog 26 [] 100 R0 (codeL (bodyOf Try.prog f)) (initTm [.slice p n c, .slice q m d] 0 .e) H (fun e tm' H' => g e (look tm' (eqAB p q n m c d)) H') = g .normal (told2 (eqAB p q n m c d)) H
  b1 : ∀ (H : AH) (p q : Option Addr) (n m c d : Nat) (g : XE → List (Option Value) → AH → Res), exec Try.prog 26 [] 100 R0 (codeL (codeR (bodyOf Try.prog f))) (tmOf (eqAB p q n m c d)) H (fun e tm' H' => g e (look tm' (eqAB p q n m c d)) H') =
    bif (n : Int) != m then g .ret (told2 (eqAB p q n m c d)) H else g .normal (told2 (eqAB p q n m c d)) H
  b2 : ∀ (H : AH) (p q : Option Addr) (n m c d : Nat) (g : XE → List (Option Value) → AH → Res), exec Try.prog 26 [] 100 R0 (codeL (codeR (bodyOf Try.prog f))) (tmOf (eqAB p q n m c d)) H (fun e tm' H' => g e (look tm' outF) H') =
    bif (n : Int) != m then g .ret (told2 outF) H else g .normal [none] H
  c : ∀ (H : AH) (p q : Option Addr) (n c d : Nat) (g : XE → List (Option Value) → AH → Res), exec Try.prog 26 [] 100 R0 (codeL (codeL (codeR (codeR (bodyOf Try.prog f))))) (tmOf (eqAB p q n n c d)) H (fun e tm' H' => g e (look tm' (eqS0 p q n c d)) H') = g .normal (told2 (eqS0 p q n c d)) H
  z : ∀ (H : AH) (p q : Option Addr) (c d : Nat) (g : XE → List (Option Value) → AH → Res), exec Try.prog 26 [] 100 R0 (eqLoop f) (tmOf (eqS0 p q 0 c d)) H (fun e tm' H' => g e (look tm' []) H') = g (.exit 0) [] H
  e : ∀ (H : AH) (g : XE → List (Option Value) → AH → Res), exec Try.prog 26 [] 100 R0 (codeR (codeR (codeR (bodyOf Try.prog f)))) .e H (fun e tm' H' => g e (look tm' outT) H') = g .ret (told2 outT) H
  loop : eqLoop f = .loop (eqIn f)
  shape : bodyOf Try.prog f = .seq (codeL (bodyOf Try.prog f)) (.seq (codeL (codeR (bodyOf Try.prog f))) (.seq (.seq (codeL (codeL (codeR (codeR (bodyOf Try.prog f))))) (.block 0 (eqLoop f))) (codeR (codeR (codeR (bodyOf Try.prog f))))))
  fn : ∃ fn, Try.prog.funcs[f]? = some fn ∧ fn.body = some (bodyOf Try.prog f) ∧ fn.ntmps = 26 ∧ fn.results = #[.tmp 4]
theorem eqWhole106 : EqWhole 106 := by
  refine ⟨by kernel_rfl, ?_, ?_, ?_, ?_, ?_, ?_, by kernel_rfl, by kernel_rfl, ⟨Try.f106, by kernel_rfl, by kernel_rfl, by kernel_rfl, by kernel_rfl⟩⟩
  all_goals intros
  all_goals kernel_rfl
theorem eqWhole82 : EqWhole 82 := by
  refine ⟨by kernel_rfl, ?_, ?_, ?_, ?_, ?_, ?_, by kernel_rfl, by kernel_rfl, ⟨Try.f82, by kernel_rfl, by kernel_rfl, by kernel_rfl, by kernel_rfl⟩⟩
  all_goals intros
  all_goals kernel_rfl

theorem ret_of {H : AH} {b : Bool} {Q : Out → AH → Prop} (h : Q (.ret (.bool b)) H) (l : List (Tmp × Value)) (hl : (tmOf l).get 4 = some (.bool b)) : ∃ vs, resv Try.prog (tmOf l) H [.tmp 4] = some vs ∧ outOK H.size vs = true ∧ Q (.ret (outv vs)) H :=
  ⟨[.bool b], by simp only [resv, hl], rfl, h⟩
theorem eq_fun {f : FuncId} {t : TypeId} (hf : EqFun f t) (hw : EqWhole f) {H : AH} {p q : Option Addr} {n m c d : Nat} {xs ys : List (Int × Int)} (hp : Holds H t p xs) (hq : Holds H t q ys) (hx : xs.length = n) (hy : ys.length = m) (hn : n < 9223372036854775807) :
    Fun Try.prog H.size f [.slice p n c, .slice q m d] H fun o H' => o = .ret (.bool (xs == ys)) ∧ H' = H := by
  obtain ⟨fn, h1, h2, h3, h4⟩ := hw.fn
  refine fun_of_seg h1 h2 (by rw [h3]; simp) ?_
  rw [h3, h4, hw.shape]
  refine seg_seq (Q1 := fun e tm' H' => e = .normal ∧ tm' = tmOf (eqAB p q n m c d) ∧ H' = H) (seg_see try_num try_mix tbl_none (loops := 100) (n := 30) (fuel := 100) _ (Low.all H) trivial (fun g => hw.a H p q n m c d g) (low_keep H)) ?_ (by rintro e tm' H' ⟨rfl, _⟩ h; exact absurd rfl h)
  rintro tm' H' ⟨_, rfl, rfl⟩ _
  by_cases hnm : n = m
  · subst hnm
    refine seg_seq (Q1 := fun e tm' H'' => e = .normal ∧ tm' = tmOf (eqAB p q n n c d) ∧ H'' = H') (seg_see try_num try_mix tbl_none (loops := 100) (n := 30) (fuel := 100) _ (Low.all H') trivial (fun g => (hw.b1 H' p q n n c d g).trans (by rw [show ((n : Int) != n) = false by simp, cond_false])) (low_keep H')) ?_ (by rintro e tm' H' ⟨rfl, _⟩ h; exact absurd rfl h)
    rintro tm' H'' ⟨_, rfl, rfl⟩ _
    have hE : ∀ tm', Seg Try.prog 26 [] [] H''.size (codeR (codeR (codeR (bodyOf Try.prog f)))) tm' H'' (fun e tm' H' => e = .ret ∧ tm' = tmOf outT ∧ H' = H'') := fun tm' =>
      Seg.pre (tm0 := .e) (Fits.forget _ _ _ (fun t v hv => by rw [Tr.get_e] at hv; cases hv)) (low_keep H'') (seg_see try_num try_mix tbl_none (loops := 100) (n := 30) (fuel := 100) _ (Low.all H'') trivial (fun g => hw.e H'' g) (low_keep H''))
    refine seg_seq (Q1 := fun e tm' H' => match e with
      | .normal => xs = ys ∧ H' = H''
      | .ret => xs ≠ ys ∧ tm' = tmOf outF ∧ H' = H''
      | _ => False) ?_ ?_ ?_
    · refine seg_seq (Q1 := fun e tm' H' => e = .normal ∧ tm' = tmOf (eqS0 p q n c d) ∧ H' = H'') (seg_see try_num try_mix tbl_none (loops := 100) (n := 30) (fuel := 100) _ (Low.all H'') trivial (fun g => hw.c H'' p q n c d g) (low_keep H'')) ?_ (by rintro e tm' H' ⟨rfl, _⟩ h; exact absurd rfl h)
      rintro tm' H' ⟨_, rfl, rfl⟩ _
      refine seg_block ?_
      by_cases h0 : n = 0
      · subst h0
        refine (seg_see try_num try_mix tbl_none (loops := 100) (n := 30) (fuel := 100) (e1 := .exit 0) [] (Low.all H') trivial (fun g => hw.z H' p q c d g) (low_keep H')).mono ?_
        rintro e tm' H'' ⟨rfl, _, rfl⟩
        have e1 := List.eq_nil_of_length_eq_zero hx
        have e2 := List.eq_nil_of_length_eq_zero hy
        subst e1; subst e2
        exact ⟨rfl, rfl⟩
      · rcases hp with rfl | ⟨i1, b1, rfl, g1, g2, g3⟩
        · exact absurd hx.symm h0
        · rcases hq with rfl | ⟨i2, b2, rfl, k1, k2, k3⟩
          · exact absurd hy.symm h0
          · rw [hw.loop]
            refine (eq_loop hf g1 g2 g3 k1 k2 k3 hx hy hn).mono ?_
            intro e tm' H'' hQ
            cases e with
            | exit i =>
              obtain ⟨rfl, h1, h2⟩ := hQ
              exact ⟨h1, h2⟩
            | ret => exact hQ
            | normal => exact hQ.elim
            | pan v => exact hQ.elim
    · rintro tm' H' ⟨rfl, rfl⟩ _
      refine (hE tm').mono ?_
      rintro e tm' H'' ⟨rfl, rfl, rfl⟩
      exact ret_of (Q := fun o H' => o = .ret (.bool (xs == xs)) ∧ H' = H'') ⟨by rw [beq_self_eq_true], rfl⟩ outT rfl
    · intro e tm' H' hQ hne
      cases e with
      | normal => exact absurd rfl hne
      | ret =>
        obtain ⟨h1, rfl, rfl⟩ := hQ
        exact ret_of (Q := fun o H'' => o = .ret (.bool (xs == ys)) ∧ H'' = H') ⟨by rw [show (xs == ys) = false by simpa using h1], rfl⟩ outF rfl
      | exit i => exact hQ
      | pan v => exact hQ.elim
  · refine seg_seq (Q1 := fun e tm' H'' => e = .ret ∧ tm' = tmOf outF ∧ H'' = H') (seg_see try_num try_mix tbl_none (loops := 100) (n := 30) (fuel := 100) _ (Low.all H') trivial (fun g => (hw.b2 H' p q n m c d g).trans (by rw [show ((n : Int) != m) = true by simp only [bne_iff_ne, ne_eq]; omega, cond_true])) (low_keep H')) (by rintro tm' H' ⟨h, _⟩; cases h) ?_
    rintro e tm' H'' ⟨rfl, rfl, rfl⟩ _
    have : (xs == ys) = false := by
      rw [beq_eq_false_iff_ne]
      rintro rfl
      exact hnm (hx.symm.trans hy)
    exact ret_of (Q := fun o H' => o = .ret (.bool (xs == ys)) ∧ H' = H'') ⟨by rw [this], rfl⟩ outF rfl
end Go.RX
