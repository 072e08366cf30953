/- What a run of the executor says of a call; what a law's row asks beside. -/
import Derived.Test.YtnidbincddpaaaaE11
import Derived.Below
import Derived.KernelRfl
import Derived.ProofKit
import Derived.ChangeSame
namespace Go.RX
open Go Go.RowKit Go.WideShapes Go.ChangeShapes

section
variable {P : Program}

/-- The continuation that asks for one answer. -/
def want (v : Value) (p : Value → Bool) : Out → AH → Res := fun o _ => match o with | .ret u => bif p u then some (.ret v, .nil) else none | .pan _ => none
def isTrue : Value → Bool | .bool b => b | _ => false
def tt : Out → AH → Res := want (.bool true) isTrue

theorem fr_below {w w' : World} (h : Fr (fun _ => False) w w') : Below w.heap.size w w' := ⟨h.os, h.tape, h.output, h.size, fun k hk => h.block k hk (fun hf => hf)⟩

theorem calls_true (hnum : ∀ (f : FuncId) (fn : Func), P.funcs[f]? = some fn → (fn.name == "runtime.NumGoroutine") = false) (hmix : P.follows .mixedOrders = true)
    {tbl : Tbl} (ht : TblOK P tbl) {loops : LH} [LHGood P loops] {n : Nat} {f : FuncId} {args : List Value} {H : AH} (h : run P tbl loops n f args H tt = some (.ret (.bool true), .nil))
    {σ : Nat → Loc} {w : World} (hR : Rel P w (fun _ => False) σ H w) (hs : ∀ v ∈ args, scV H.size v = true) :
    Calls P f (args.map (cV σ)).toArray w fun e w' => e = .returned (.bool true) ∧ Below w.heap.size w w' := by
  refine run_ok hnum hmix ht loops n f args H tt _ h w (fun _ => False) _ σ w hR hs ?_
  intro o H' hk σ' w' _ _ hR' _
  cases o with
  | pan v => cases hk
  | ret u =>
    cases u with
    | bool b =>
      cases b with
      | false => simp [tt, want, isTrue] at hk
      | true => exact ⟨rfl, fr_below hR'.fr⟩
    | _ => simp [tt, want, isTrue] at hk

theorem rel_nil (w : World) (S : Nat → Prop) (σ : Nat → Loc) : Rel P w S σ .nil w := by
  have key : ∀ {i : Nat} {b : Blk}, AH.nil.get i = some b → False := fun h => by rw [AH.get_nil] at h; cases h
  exact ⟨Fr.refl _ _, fun _ _ h => (key h).elim, fun _ _ h => (key h).elim, fun _ _ h => (key h).elim, fun _ _ h => (key h).elim, fun _ _ h => (key h).elim, fun _ _ h => (key h).elim, fun _ _ _ h => (key h).elim, fun _ _ h => (key h).elim, fun _ _ _ _ h => (key h).elim⟩

def σ0 : Nat → Loc := fun _ => ⟨0, 0, 0, none⟩

/-- What a pure function returns: the run tells it to whatever asks. -/
theorem calls_pure (hnum : ∀ (f : FuncId) (fn : Func), P.funcs[f]? = some fn → (fn.name == "runtime.NumGoroutine") = false) (hmix : P.follows .mixedOrders = true)
    {tbl : Tbl} (ht : TblOK P tbl) {loops : LH} [LHGood P loops] {n : Nat} {f : FuncId} {args : List Value} {v : Value}
    (h : ∀ g : Out → Res, run P tbl loops n f args .nil (fun o _ => g o) = g (.ret v)) (hs : ∀ a ∈ args, scV 0 a = true) (hv : scV 0 v = true) (w : World) :
    Calls P f args.toArray w fun e w' => e = .returned v ∧ Below w.heap.size w w' := by
  classical
  have h1 := h (fun o => if o = .ret v then some (.ret (.bool true), .nil) else none)
  rw [if_pos rfl] at h1
  have := run_ok hnum hmix ht loops n f args .nil _ _ h1 w (fun _ => False) (fun e w' => e = .returned v ∧ Below w.heap.size w w') σ0 w (rel_nil w _ _) hs ?_
  · have he : args.map (cV σ0) = args := by
      rw [List.map_congr_left (g := id) fun a ha => cV_const a (hs a ha), List.map_id]
    rwa [he] at this
  · intro o H' hk σ' w' _ _ hR' _
    have ho : o = .ret v := by
      by_cases ho : o = .ret v
      · exact ho
      · simp [ho] at hk
    subst ho
    exact ⟨by rw [ending, cV_const v hv], fr_below hR'.fr⟩

theorem tbl_none : TblOK P (fun _ => none) := fun f s h => by cases h
end

section
variable {H : Type} {enc : TypeId × Value → H} {P : Program}

theorem trodAll_stays (hl : laidOutB P = true) {W W' : World} (hb : Below W.heap.size W W') {sp : Nat → Bool} : ∀ (ts : List TypeId) (vs : List Value) (ds : List (DataW H)) (ps : List MemPlace),
    ts.all (fun t => P.readableRec t && decide (t < P.types.size)) = true → DataW.TrodAll enc P W 0 (fun _ => true) true ts vs ds ps → (∀ x ∈ ps, x.block < W.heap.size) → (∀ x ∈ ps, sp x.block = true) → DataW.TrodAll enc P W' 0 sp true ts vs ds ps := by
  intro ts
  induction ts with
  | nil =>
    intro vs ds ps _ h _ _
    cases vs <;> cases ds <;> first | exact h | exact h.elim
  | cons t ts ih =>
    intro vs ds ps ht h hlt hsp
    cases vs with
    | nil => exact h.elim
    | cons v vs =>
      cases ds with
      | nil => exact h.elim
      | cons d ds =>
        obtain ⟨p, q, h1, h2, rfl⟩ := h
        simp only [List.all_cons, Bool.and_eq_true, decide_eq_true_eq] at ht
        refine ⟨p, q, WideElems.Trod_stays hl ht.1.1 ht.1.2 h1 (fun x hx => hb.same (hlt x (by simp [hx]))) (fun x hx => hsp x (by simp [hx])), ih vs ds q ht.2 h2 (fun x hx => hlt x (by simp [hx])) (fun x hx => hsp x (by simp [hx])), rfl⟩

/-- WHAT A LAW's ROW ASKS: it returned true, and what was there before has not turned. -/
theorem law_post {f : Func} {s : ChangeSpec} {apart fresh handsOn again : Bool} {W W' : World} {args : Array Value} {ds gs : List (DataW H)} {before : List MemPlace} {tb : TypeId}
    (hl : laidOutB P = true) (hpar : f.params.toList.all (fun t => P.readableRec t && decide (t < P.types.size)) = true) (hrt : f.resultTypes = #[tb]) (htb : P.underlying tb = some .bool) (hsv : s.vars = [])
    (hfn : s.fn H ds = { results := [.lit (.bool true)], args := ds })
    (hW : DataW.Whole enc P f.params.toList s.vars apart W args.toList ds gs before) (hb : Below W.heap.size W W') :
    s.post enc P f apart fresh handsOn again W args (.bool true) W' := by
  have hlt : ∀ p ∈ before, p.block < W.heap.size := fun p hp => hW.lt p hp
  have hold : ∀ p ∈ before, (fun b => decide (b < W.heap.size)) p.block = true := fun p hp => by simpa using hlt p hp
  have hW' := hW
  obtain ⟨p, q, hA, hV, hbe, hz, hn⟩ := hW
  rw [hsv] at hV
  obtain ⟨rfl, rfl⟩ := trodVars_none hV
  have hbp : before = p := by rw [hbe]; simp
  subst hbp
  have hfn' : s.fn H (ds ++ []) = { results := [.lit (.bool true)], args := ds } := by rw [List.append_nil]; exact hfn
  have hargs : ∀ sp : Nat → Bool, (∀ p ∈ before, sp p.block = true) → DataW.TrodAll enc P W' 0 sp true f.params.toList args.toList (s.fn H (ds ++ [])).args before := by
    intro sp hsp
    rw [hfn']
    exact trodAll_stays hl hb _ _ _ _ hpar hA hlt hsp
  have hvars : ∀ sp : Nat → Bool, DataW.TrodVars enc P W' sp s.vars (s.fn H (ds ++ [])).vars [] := by
    intro sp
    rw [hfn', hsv]; rfl
  have hres : ∀ (b : Nat) (sp : Nat → Bool) (hd : Bool), DataW.TrodAll enc P W' b sp hd f.resultTypes.toList ((Value.bool true).resultList f.resultTypes.size) (s.fn H (ds ++ [])).results [] := by
    intro b sp hd
    rw [hfn', hrt]
    exact trodAll_mk1 (shut_bool htb true)
  refine ⟨ds, [], before, [], before, [], hW', hres _ _ _, hargs _ hold, hvars _, World.keptBut_mono (fun p hp => ⟨hp, ?_⟩) (hb.frame (· ∈ before)), fun _ => ?_⟩
  · simpa using hp
  · refine ⟨ok_one hrt rfl (okWide_bool_mk htb true), _, _, ([] ++ before) ++ [], ⟨[] ++ before, [], trodAll_append (hargs _ (fun _ _ => rfl)) (hres _ _ _), hvars _, rfl, ?_, ?_⟩, ?_⟩
    · intro b off hp
      have hin : MemPlace.cell b off ∈ before := by simpa using hp
      rw [hb.frozen (hlt _ hin)]
      exact hz b off (by simpa using hin)
    · intro ha
      have := hn ha
      simpa using this
    · intro p hp _
      simpa using hp
end
section
variable {P : Program}

theorem Rel.below {W0 w w' : World} {S : Nat → Prop} {σ : Nat → Loc} {H : AH} (h : Rel P W0 S σ H w) (hb : Below w.heap.size w w') : Rel P W0 S σ H w' := by
  have hcell : ∀ {k o : Nat}, k < w.heap.size → w'.cell? ⟨k, o, none⟩ = w.cell? ⟨k, o, none⟩ := fun hk => hb.cell hk
  refine ⟨h.fr.trans (Fr.of_below hb fun _ => False) (fun _ hf => hf.elim), h.sc, h.pl, ?_, h.sp, ?_, ?_, ?_, h.lm, h.inj⟩
  · intro i b hi hl
    exact Nat.lt_of_lt_of_le (h.lt i b hi hl) hb.size
  · intro i b hi hl hw j v hj
    rw [hcell (h.lt i b hi (act_live hl))]
    exact h.ro i b hi hl hw j v hj
  · intro i b hi hl hw
    obtain ⟨h1, h2⟩ := h.wb i b hi hl hw
    exact ⟨h1, h2.of_heap (hb.block _ (h.lt i b hi (act_live hl)))⟩
  · intro i b es hi hm
    obtain ⟨h1, h2, h3, h4⟩ := h.mp i b es hi hm
    exact ⟨h1, h2, h3, h4.of_heap (hb.block _ (h.lt i b hi (act_mp hm)))⟩

/-- A function that only tells a value. -/
def pureS (spec : List Value → Option Value) : List Value → AH → (Out → AH → Res) → Res := fun args H k =>
  match spec args with
  | some v => bif args.all (scV 0) then k (.ret v) H else none
  | none => none

theorem pureS_ok {f : FuncId} {spec : List Value → Option Value}
    (h : ∀ args v, spec args = some v → scV 0 v = true ∧ ∀ w, Calls P f args.toArray w fun e w' => e = .returned v ∧ Below w.heap.size w w') :
    CallOK P (fun g args H k => if g = f then pureS spec args H k else none) := by
  intro g args H k r hr W0 S R σ w hR hargs hk
  simp only at hr
  split at hr
  · rename_i hg
    subst hg
    unfold pureS at hr
    split at hr
    · rename_i v hv
      cases hc : args.all (scV 0) with
      | false => rw [hc, cond_false] at hr; cases hr
      | true =>
        rw [hc, cond_true] at hr
        obtain ⟨h1, h2⟩ := h args v hv
        have he : args.map (cV σ) = args := by
          rw [List.map_congr_left (g := id) fun a ha => cV_const a (List.all_eq_true.1 hc a ha), List.map_id]
        rw [he]
        refine (h2 w).mono fun e w' ⟨he, hb⟩ => ?_
        have := hk (.ret v) H hr σ w' (Ext.refl _ _) (Keep.refl _) (hR.below hb) (scV_mono (Nat.zero_le _) v h1)
        rw [ending, cV_const v h1] at this
        rw [he]; exact this
    · cases hr
  · cases hr

/-- A table from a list. -/
def tblOf : List (FuncId × (List Value → AH → (Out → AH → Res) → Res)) → FuncId → Option (List Value → AH → (Out → AH → Res) → Res)
  | [], _ => none
  | (g, s) :: r, f => bif f == g then some s else tblOf r f

theorem tblOf_ok : ∀ {l : List (FuncId × (List Value → AH → (Out → AH → Res) → Res))}, (∀ x ∈ l, CallOK P (fun g args H k => if g = x.1 then x.2 args H k else none)) → TblOK P (tblOf l)
  | [], _ => fun f s h => by cases h
  | (g, s) :: r, hl => fun f s' h => by
    unfold tblOf at h
    cases hg : (f == g) with
    | true =>
      rw [hg, cond_true] at h
      injection h with h; subst h
      have := hl (g, s) (by simp)
      have hfg : f = g := by simpa using hg
      subst hfg
      exact this
    | false =>
      rw [hg, cond_false] at h
      exact tblOf_ok (fun x hx => hl x (by simp [hx])) f s' h
end
end Go.RX
