/- Pieces of code told by a few slots. -/
import Derived.Test.YtnidbincddpaaaaE17
namespace Go.RX
open Go Go.RowKit

/-- Temporaries from a list; the first of a slot counts. -/
noncomputable def tmOf : List (Tmp × Value) → Tm := List.rec (motive := fun _ => Tm) .e (fun p _ ih => ih.set p.1 p.2)
noncomputable def look (tm : Tm) : List (Tmp × Value) → List (Option Value) := List.rec (motive := fun _ => List (Option Value)) [] (fun p _ ih => tm.get p.1 :: ih)
def told2 : List (Tmp × Value) → List (Option Value)
  | [] => []
  | p :: r => some p.2 :: told2 r
theorem tmOf_look {tm : Tm} : ∀ {l : List (Tmp × Value)}, look tm l = told2 l → ∀ t v, (tmOf l).get t = some v → tm.get t = some v
  | [], _, t, v, h => by
    rw [show tmOf [] = Tr.e from rfl, Tr.get_e] at h; cases h
  | p :: r, hl, t, v, h => by
    have hl' : tm.get p.1 :: look tm r = some p.2 :: told2 r := hl
    injection hl' with h1 h2
    rw [show tmOf (p :: r) = (tmOf r).set p.1 p.2 from rfl, Tr.get_set] at h
    split at h
    · rename_i e
      subst e
      injection h with h
      rw [h1, h]
    · exact tmOf_look h2 t v h

/-- Parts of a piece of code. -/
def codeL : Code → Code | .seq a _ => a | c => c
def codeR : Code → Code | .seq _ b => b | c => c
def codeIn : Code → Code | .block _ b => b | .loop b => b | c => c
def bodyOf (P : Program) (f : FuncId) : Code := match P.funcs[f]? with | some fn => (match fn.body with | some c => c | none => .skip) | none => .skip
def ntOf (P : Program) (f : FuncId) : Nat := match P.funcs[f]? with | some fn => fn.ntmps | none => 0

section
variable {P : Program} {N : Nat} {K : List Tmp} {D : List Deferred} {m : Nat} {c : Code} {tm : Tm} {H : AH} {Q : XE → Tm → AH → Prop}
variable (hnum : ∀ (f : FuncId) (fn : Func), P.funcs[f]? = some fn → (fn.name == "runtime.NumGoroutine") = false) (hmix : P.follows .mixedOrders = true)

include hnum hmix in
/-- A piece that ends in one way. -/
theorem seg_see {tbl : Tbl} (ht : TblOK P tbl) {loops : LH} [LHGood P loops] {n : Nat} {fuel : LH} [LHGood P fuel] {e1 : XE} (l : List (Tmp × Value)) {H1 : AH} (hl : Low m H) (hx : xshut e1)
    (h : ∀ g : XE → List (Option Value) → AH → Res, exec P N K fuel (run P tbl loops n) c tm H (fun e tm' H' => g e (look tm' l) H') = g e1 (told2 l) H1)
    (hk : KeepM m H1 H1) : Seg P N K D m c tm H (fun e tm' H' => e = e1 ∧ tm' = tmOf l ∧ H' = H1) := by
  classical
  intro W0 S σ a w hR hA Qm hp hk2
  have h1 := h (fun e x H' => if e = e1 ∧ x = told2 l ∧ H' = H1 then some (.ret undef, .nil) else none)
  rw [if_pos ⟨rfl, rfl, rfl⟩] at h1
  refine exec_ok hnum (run_ok hnum hmix ht loops n) hmix fuel c h1 hR hA hp ?_
  intro e tm' H' he _ σ' a' w' ha
  by_cases hq : e = e1 ∧ look tm' l = told2 l ∧ H' = H1
  · obtain ⟨rfl, hlk, rfl⟩ := hq
    have hf : ∀ t v, (tmOf l).get t = some v → tm'.get t = some v := tmOf_look hlk
    refine hk2 e (tmOf l) H' ⟨rfl, rfl, rfl⟩ hx σ' a' w' (ha.ext.mono hl.len) ((ha.keep.low hl).trans hk) ha.rel ?_
    exact ⟨ha.act.size, fun t v hv => ha.act.val t v (hf t v hv), fun t v hv => ha.act.sc t v (hf t v hv), ha.act.df⟩
  · simp only [if_neg hq] at he; cases he

theorem Seg.mono {Q' : XE → Tm → AH → Prop} (h : Seg P N K D m c tm H Q) (hq : ∀ e tm' H', Q e tm' H' → Q' e tm' H') : Seg P N K D m c tm H Q' :=
  fun W0 S σ a w hR hA Qm hp hk => h W0 S σ a w hR hA Qm hp (fun e tm' H' hQ => hk e tm' H' (hq e tm' H' hQ))
end

section
variable {P : Program} {H : AH} {f : FuncId}
/-- Where the blocks of a small memory lie. -/
def rI (idx : List Nat) : Nat → Nat := fun j => idx.getD j 0
theorem rI_some {idx : List Nat} {j : Nat} (h : j < idx.length) : idx[j]? = some (rI idx j) := by
  unfold rI
  rw [List.getD_eq_getElem?_getD, List.getElem?_eq_getElem h]; rfl
theorem liesI {idx : List Nat} {B : List Blk} (hlen : idx.length = B.length) (hnd : ∀ i j, i < idx.length → j < idx.length → rI idx i = rI idx j → i = j) (hget : ∀ (j : Nat) (b : Blk), B[j]? = some b → H.get (rI idx j) = some (rB (rI idx) b))
    (hfine : ∀ b ∈ B, Fine B.length b) : Lies (rI idx) (AH.of B) H := by
  have hsz : (AH.of B).size = B.length := AH.size_of _
  have hin : ∀ {i : Nat} {b : Blk}, (AH.of B).get i = some b → B[i]? = some b := fun h => by rwa [AH.get_of] at h
  refine ⟨fun i b h => ?_, fun i j hi hj => ?_, fun i b h => hget i b (hin h), fun i hi => ?_, full_of B⟩
  · have := hfine b (List.mem_of_getElem? (hin h))
    rw [hsz]
    exact ⟨this.1, this.2.1, fun es he => by rw [this.2.2] at he; cases he⟩
  · rw [hsz, ← hlen] at hi hj
    exact hnd i j hi hj
  · rw [hsz] at hi
    exact AH.get_lt (hget i B[i] (List.getElem?_eq_getElem hi))
/-- A call that keeps the blocks it looks at. -/
theorem fun_keep {idx : List Nat} {B : List Blk} {args0 : List Value} {o1 : Out} (h : Fun P B.length f args0 (AH.of B) (fun o H' => o = o1 ∧ H' = AH.of B)) (hlen : idx.length = B.length) (hnd : ∀ i j, i < idx.length → j < idx.length → rI idx i = rI idx j → i = j)
    (hget : ∀ (j : Nat) (b : Blk), B[j]? = some b → H.get (rI idx j) = some (rB (rI idx) b)) (hfine : ∀ b ∈ B, Fine B.length b) (hargs : ∀ v ∈ args0, scV B.length v = true) :
    Fun P H.size f (args0.map (rV (rI idx))) H (fun o H' => o = rO (rr (rI idx) B.length H.size) o1 ∧ H' = H) := by
  have hsz : (AH.of B).size = B.length := AH.size_of _
  have hl := liesI hlen hnd hget hfine
  have hmp : ∀ (i : Nat) (b0 : Blk), (AH.of B).get i = some b0 → b0.mp = none := fun i b0 hi => by
    rw [AH.get_of] at hi
    exact (hfine b0 (List.mem_of_getElem? hi)).2.2
  have := Fun.place (H0 := AH.of B) (H2 := AH.of B) (H' := H) (by rw [hsz]; exact h) hl hmp (by rw [hsz]; exact hargs) (full_of B) (Merged.none hl rfl (fun _ _ => rfl) hmp)
  rwa [hsz] at this
end

/-- Blocks are turned, the j-th of them lies at r j. -/
noncomputable def setsH (r : Nat → Nat) : List Blk → Nat → AH → AH
  | [], _, H => H
  | b :: l, j, H => setsH r l (j + 1) (H.set (r j) b)
noncomputable def pushL : List Blk → AH → AH
  | [], H => H
  | b :: l, H => pushL l (H.push b)
theorem setsH_size (r : Nat → Nat) : ∀ (l : List Blk) (j : Nat) (H : AH), (setsH r l j H).size = H.size
  | [], _, _ => rfl
  | b :: l, j, H => by rw [setsH, setsH_size r l]; rfl
theorem setsH_far (r : Nat → Nat) : ∀ (l : List Blk) (j : Nat) (H : AH) (k : Nat), (∀ i, j ≤ i → i < j + l.length → r i ≠ k) → (setsH r l j H).get k = H.get k
  | [], _, _, _, _ => rfl
  | b :: l, j, H, k, h => by
    rw [setsH, setsH_far r l (j + 1) _ k (fun i h1 h2 => h i (by omega) (by simp only [List.length_cons]; omega)), AH.get_set, if_neg (fun e => h j (Nat.le_refl _) (by simp) e.1)]
theorem setsH_at (r : Nat → Nat) : ∀ (l : List Blk) (j : Nat) (H : AH) (i : Nat) (b : Blk), l[i]? = some b → r (j + i) < H.size → (∀ x y, j ≤ x → x < j + l.length → j ≤ y → y < j + l.length → r x = r y → x = y) → (setsH r l j H).get (r (j + i)) = some b
  | [], _, _, i, b, h, _, _ => by simp at h
  | b0 :: l, j, H, 0, b, h, hs, hi => by
    have : b0 = b := by simpa using h
    subst this
    show (setsH r l (j + 1) (H.set (r j) b0)).get (r j) = some b0
    rw [setsH_far r l (j + 1) _ (r j) (fun i h1 h2 e => by
      have := hi i j (by omega) (by simp only [List.length_cons]; omega) (Nat.le_refl _) (by simp) e
      omega), AH.get_set, if_pos ⟨rfl, hs⟩]
  | b0 :: l, j, H, i + 1, b, h, hs, hi => by
    have h' : l[i]? = some b := by simpa using h
    have := setsH_at r l (j + 1) (H.set (r j) b0) i b h' (by rw [show j + 1 + i = j + (i + 1) by omega]; exact hs) (fun x y h1 h2 h3 h4 => hi x y (by omega) (by simp only [List.length_cons]; omega) (by omega) (by simp only [List.length_cons]; omega))
    rw [show j + 1 + i = j + (i + 1) by omega] at this
    exact this
theorem pushL_size : ∀ (l : List Blk) (H : AH), (pushL l H).size = H.size + l.length
  | [], _ => rfl
  | b :: l, H => by rw [pushL, pushL_size l, AH.size_push, List.length_cons]; omega
theorem pushL_get : ∀ (l : List Blk) (H : AH) (k : Nat), (pushL l H).get k = if k < H.size then H.get k else l[k - H.size]?
  | [], H, k => by
    rw [pushL]
    split
    · rfl
    · rw [AH.get_none (by omega)]; simp
  | b :: l, H, k => by
    rw [pushL, pushL_get l, AH.size_push, AH.get_push]
    by_cases h : k < H.size
    · rw [if_pos (by omega), if_neg (by omega), if_pos h]
    · rw [if_neg h]
      by_cases h2 : k = H.size
      · subst h2
        rw [if_pos (by omega), if_pos rfl]; simp
      · rw [if_neg (by omega), show k - H.size = (k - (H.size + 1)) + 1 by omega]; rfl

section
variable {P : Program} {H : AH} {f : FuncId}
/-- The memory behind a call: the blocks that it was given, as they are then, and the new ones. -/
noncomputable def placed (H : AH) (r : Nat → Nat) (m : Nat) (B2 : List Blk) : AH := pushL ((B2.drop m).map (rB (rr r m H.size))) (setsH r ((B2.take m).map (rB (rr r m H.size))) 0 H)
theorem Merged.list {r : Nat → Nat} {B0 B2 : List Blk} (hl : Lies r (AH.of B0) H) (hm : B0.length ≤ B2.length) : Merged r B0.length (AH.of B0) H (AH.of B2) (placed H r B0.length B2) := by
  have hsz : (AH.of B0).size = B0.length := AH.size_of _
  have hlen : (((B2.take B0.length).map (rB (rr r B0.length H.size)))).length = B0.length := by rw [List.length_map, List.length_take]; omega
  have hinj : ∀ x y, x < B0.length → y < B0.length → r x = r y → x = y := fun x y hx hy => hl.inj x y (by omega) (by omega)
  have hlt : ∀ x, x < B0.length → r x < H.size := fun x hx => hl.lt x (by omega)
  unfold placed
  refine ⟨?_, fun i hi => ?_, fun k hk hn => ?_, fun i h1 h2 => by omega, fun i h1 h2 => ?_⟩
  · rw [pushL_size, setsH_size, AH.size_of, List.length_map, List.length_drop]
  · rw [pushL_get, setsH_size, if_pos (hlt i hi)]
    have hg : ((B2.take B0.length).map (rB (rr r B0.length H.size)))[i]? = some (rB (rr r B0.length H.size) B2[i]) := by
      rw [List.getElem?_map, List.getElem?_take_of_lt hi, List.getElem?_eq_getElem (by omega)]; rfl
    have := setsH_at r _ 0 H i _ hg (by rw [Nat.zero_add]; exact hlt i hi) (fun x y _ h2 _ h4 => hinj x y (by omega) (by omega))
    rw [Nat.zero_add] at this
    rw [this, AH.get_of, List.getElem?_eq_getElem (by omega)]; rfl
  · rw [pushL_get, setsH_size, if_pos hk]
    exact setsH_far r _ 0 H k (fun i _ h2 => hn i (by rw [hsz]; omega))
  · rw [AH.size_of] at h2
    rw [pushL_get, setsH_size, if_neg (by omega), show H.size + (i - B0.length) - H.size = i - B0.length by omega, List.getElem?_map, List.getElem?_drop, AH.get_of, show B0.length + (i - B0.length) = i by omega]
/-- What was shown in a small memory, in a greater one. -/
theorem fun_placed {idx : List Nat} {B B2 : List Blk} {args0 : List Value} {o1 : Out} (h : Fun P B.length f args0 (AH.of B) (fun o H' => o = o1 ∧ H' = AH.of B2)) (hm : B.length ≤ B2.length) (hlen : idx.length = B.length) (hnd : ∀ i j, i < idx.length → j < idx.length → rI idx i = rI idx j → i = j)
    (hget : ∀ (j : Nat) (b : Blk), B[j]? = some b → H.get (rI idx j) = some (rB (rI idx) b)) (hfine : ∀ b ∈ B, Fine B.length b) (hargs : ∀ v ∈ args0, scV B.length v = true) :
    Fun P H.size f (args0.map (rV (rI idx))) H (fun o H' => o = rO (rr (rI idx) B.length H.size) o1 ∧ H' = placed H (rI idx) B.length B2) := by
  have hsz : (AH.of B).size = B.length := AH.size_of _
  have hl := liesI hlen hnd hget hfine
  have hmp : ∀ (i : Nat) (b0 : Blk), (AH.of B).get i = some b0 → b0.mp = none := fun i b0 hi => by
    rw [AH.get_of] at hi
    exact (hfine b0 (List.mem_of_getElem? hi)).2.2
  have := Fun.place (H0 := AH.of B) (H2 := AH.of B2) (H' := placed H (rI idx) B.length B2) (by rw [hsz]; exact h) hl hmp (by rw [hsz]; exact hargs) (full_of B2) (by rw [hsz]; exact Merged.list hl hm)
  rwa [hsz] at this
end

section
variable {P : Program} {N : Nat} {K : List Tmp} {D : List Deferred} {m : Nat} {c : Code} {tm : Tm} {H : AH} {Q : XE → Tm → AH → Prop}
variable (hnum : ∀ (f : FuncId) (fn : Func), P.funcs[f]? = some fn → (fn.name == "runtime.NumGoroutine") = false) (hmix : P.follows .mixedOrders = true)
theorem tmOf_mem : ∀ {l : List (Tmp × Value)} {t : Tmp} {v : Value}, (tmOf l).get t = some v → ∃ p ∈ l, p.2 = v
  | [], t, v, h => by
    rw [show tmOf [] = Tr.e from rfl, Tr.get_e] at h; cases h
  | p :: r, t, v, h => by
    rw [show tmOf (p :: r) = (tmOf r).set p.1 p.2 from rfl, Tr.get_set] at h
    split at h
    · injection h with h
      exact ⟨p, by simp, h⟩
    · obtain ⟨q, h1, h2⟩ := tmOf_mem h
      exact ⟨q, by simp [h1], h2⟩
include hnum hmix in
/-- A piece that ends in one way; the memory behind it by its first blocks. -/
theorem seg_seen {tbl : Tbl} (ht : TblOK P tbl) {loops : LH} [LHGood P loops] {n : Nat} {fuel : LH} [LHGood P fuel] {e1 : XE} (l : List (Tmp × Value)) (B : List Blk) (hl : Low m H) (hx : xshut e1)
    (h : ∀ g : XE → List (Option Value) → List (Option Blk) → Res, exec P N K fuel (run P tbl loops n) c tm H (fun e tm' H' => g e (look tm' l) (seen H' B.length)) = g e1 (told2 l) (B.reverse.map some))
    (hm : m ≤ B.length) (hs : B.all (fun b => b.cells.all (scS B.length) && b.mp.isNone) = true) (hv : ∀ p ∈ l, scV B.length p.2 = true) : Seg P N K D m c tm H (fun e tm' H' => e = e1 ∧ tm' = tmOf l ∧ H' = AH.of B) := by
  classical
  intro W0 S σ a w hR hA Qm hp hk2
  have h1 := h (fun e x y => if e = e1 ∧ x = told2 l ∧ y = B.reverse.map some then some (.ret undef, .nil) else none)
  rw [if_pos ⟨rfl, rfl, rfl⟩] at h1
  refine exec_ok hnum (run_ok hnum hmix ht loops n) hmix fuel c h1 hR hA hp ?_
  intro e tm' H' he _ σ' a' w' ha
  by_cases hq : e = e1 ∧ look tm' l = told2 l ∧ seen H' B.length = B.reverse.map some
  · obtain ⟨rfl, hlk, hseen⟩ := hq
    have hf : ∀ t v, (tmOf l).get t = some v → tm'.get t = some v := tmOf_look hlk
    have hfr := front_of hseen hs
    have hkm := ha.keep.low hl
    refine hk2 e (tmOf l) (AH.of B) ⟨rfl, rfl, rfl⟩ hx σ' a' w' (ha.ext.mono hl.len) ⟨by rw [AH.size_of]; exact hm, fun i b hi hb hw => ?_, fun i b hi hw => hkm.back i b (hfr.old hi) hw⟩ (ha.rel.front hfr) ?_
    · rw [hfr.get i (by rw [AH.size_of]; omega)]
      exact hkm.ro i b hi hb hw
    · refine ⟨ha.act.size, fun t v hv => ha.act.val t v (hf t v hv), fun t v htv => ?_, ha.act.df⟩
      obtain ⟨p, hp1, rfl⟩ := tmOf_mem htv
      rw [AH.size_of]
      exact hv p hp1
  · simp only [if_neg hq] at he; cases he
end

section
variable {P : Program} {W0 : World} {S : Nat → Prop} {σ : Nat → Loc} {w : World} {H : AH} {m : Nat} {f : FuncId} {args : List Value}
/-- What is known of memory by its Rel may be used. -/
theorem Fun.of_rel {Q : Out → AH → Prop} (h : (∃ W0 S σ w, Rel P W0 S σ H w) → Fun P m f args H Q) : Fun P m f args H Q :=
  fun W0 S R σ w hR => h ⟨W0, S, σ, w, hR⟩ W0 S R σ w hR
/-- The memory behind a call told anew; what it yields names no block. -/
theorem Fun.fits {v : Value} {H1 H2 : AH} (h : Fun P m f args H (fun o H' => o = .ret v ∧ H' = H1)) (hv : scV 0 v = true) (hf : Fits P m .e H1 .e H2) (hk : Low m H1 → KeepM m H1 H2) : Fun P m f args H (fun o H' => o = .ret v ∧ H' = H2) := by
  intro W0 S R σ w hR hargs hkk
  refine h W0 S R σ w hR hargs (fun o H' hQ hos σ' w' he hke hr => ?_)
  obtain ⟨rfl, rfl⟩ := hQ
  obtain ⟨σ2, e2, r2, _⟩ := hf W0 S σ' w' hr (fun t v hv => by rw [Tr.get_e] at hv; cases hv)
  have := hkk (.ret v) H2 ⟨rfl, rfl⟩ (scV_mono (Nat.zero_le _) _ hv) σ2 w' (he.trans e2 (Nat.le_refl _)) (hke.trans (hk hke.low)) r2
  rw [ending, cV_const v hv] at this ⊢
  exact this
end

section
variable {r : Nat → Nat}
theorem r0_id {v : Value} (h : s0 0 v = true) : r0 r v = v := by
  cases v with
  | pointer a => cases a with
    | none => rfl
    | some a => simp [s0] at h
  | slice a l c => cases a with
    | none => rfl
    | some a => simp [s0] at h
  | map g => cases g with
    | none => rfl
    | some g => simp [s0] at h
  | _ => rfl
theorem arr_id {s : Value → Bool} {f : Value → Value} (h : ∀ v, s v = true → f v = v) {a : Array Value} (ha : a.toList.all s = true) : a.map f = a := by
  have : a.toList.map f = a.toList := (List.map_congr_left (g := id) fun v hv => h v (List.all_eq_true.1 ha v hv)).trans (List.map_id _)
  apply Array.toList_inj.1
  rw [Array.toList_map, this]
theorem up_id {s : Value → Bool} {f : Value → Value} (h : ∀ v, s v = true → f v = v) {v : Value} (hv : sUp s v = true) : cUp f v = v := by
  cases v with
  | agg cs => simp only [cUp]; rw [arr_id h hv]
  | iface t u => simp only [cUp]; rw [h u hv]
  | func g a b =>
    simp only [sUp, Bool.and_eq_true] at hv
    simp only [cUp]; rw [arr_id h hv.1, arr_id h hv.2]
  | _ => exact h _ hv
theorem r2_id {v : Value} (h : s2 0 v = true) : r2 r v = v := up_id (fun _ h => up_id (fun _ h => r0_id h) h) h
theorem rS_sc0 {v : Value} (h : scS 0 v = true) : rS r v = v := by
  cases v with
  | pointer a => cases a with
    | none => rfl
    | some a => simp [scS] at h
  | slice a l c => cases a with
    | none => rfl
    | some a => simp [scS] at h
  | map g => cases g with
    | none => rfl
    | some g => simp [scS] at h
  | iface t u => simp only [rS]; rw [r2_id h]
  | func g a b =>
    simp only [scS, Bool.and_eq_true] at h
    simp only [rS]; rw [arr_id (fun _ h => r2_id h) h.1, arr_id (fun _ h => r2_id h) h.2]
  | agg cs => simp [scS] at h
  | tuple cs => simp [scS] at h
  | _ => rfl
end
end Go.RX
