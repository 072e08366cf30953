/- Functions that are told by a table: what was shown of a function once is used wherever it is called. -/
import Derived.Test.YtnidbincddpaaaaX15
namespace Go.RX
open Go Go.Proofs Go.Proofs.Ytnidbincddpaaaa Go.RowKit

section
variable {P : Program}

theorem Rel.below {W0 w w' : World} {S : Nat → Prop} {σ : Nat → Loc} {H : AH} (h : Rel P W0 S σ H w) (hb : Below w.heap.size w w') : Rel P W0 S σ H w' := by
  have hcell : ∀ {k o : Nat}, k < w.heap.size → w'.cell? ⟨k, o, none⟩ = w.cell? ⟨k, o, none⟩ := fun hk => hb.cell hk
  refine ⟨h.fr.trans (Fr.of_below hb fun _ => False) (fun _ hf => hf.elim), h.sc, ?_, ?_, ?_, h.inj⟩
  · intro i b hi hl
    exact Nat.lt_of_lt_of_le (h.lt i b hi hl) hb.size
  · intro i b hi hl hw j v hj
    rw [hcell (h.lt i b hi hl)]
    exact h.ro i b hi hl hw j v hj
  · intro i b hi hl hw
    obtain ⟨h1, h2, h3, tl, h4, h5⟩ := h.wb i b hi hl hw
    exact ⟨h1, h2, h3, tl, h4, by rw [hb.block _ (h.lt i b hi hl)]; exact h5⟩

/-- A function that only tells a value. -/
def pureS (spec : List Value → Option Value) : List Value → AH → (Out → AH → Res) → Res := fun args H k =>
  match spec args with
  | some v => bif args.all (scV 0) then k (.ret v) H else none
  | none => none

theorem pureS_ok {f : FuncId} {spec : List Value → Option Value}
    (h : ∀ args v, spec args = some v → scV 0 v = true ∧ ∀ w, Calls P f args.toArray w fun e w' => e = .returned v ∧ Below w.heap.size w w') :
    CallOK P (fun g args H k => if g = f then pureS spec args H k else none) := by
  intro g args H k r hr W0 S R σ w hR hargs hk
  simp only at hr
  split at hr
  · rename_i hg
    subst hg
    unfold pureS at hr
    split at hr
    · rename_i v hv
      cases hc : args.all (scV 0) with
      | false => rw [hc, cond_false] at hr; cases hr
      | true =>
        rw [hc, cond_true] at hr
        obtain ⟨h1, h2⟩ := h args v hv
        have he : args.map (cV σ) = args := by
          rw [List.map_congr_left (g := id) fun a ha => cV_const a (List.all_eq_true.1 hc a ha), List.map_id]
        rw [he]
        refine (h2 w).mono fun e w' ⟨he, hb⟩ => ?_
        have := hk (.ret v) H hr σ w' (Ext.refl _ _) (Keep.refl _) (hR.below hb) (scV_mono (Nat.zero_le _) v h1)
        rw [ending, cV_const v h1] at this
        rw [he]; exact this
    · cases hr
  · cases hr

/-- A table from a list. -/
def tblOf : List (FuncId × (List Value → AH → (Out → AH → Res) → Res)) → FuncId → Option (List Value → AH → (Out → AH → Res) → Res)
  | [], _ => none
  | (g, s) :: r, f => bif f == g then some s else tblOf r f

theorem tblOf_ok : ∀ {l : List (FuncId × (List Value → AH → (Out → AH → Res) → Res))}, (∀ x ∈ l, CallOK P (fun g args H k => if g = x.1 then x.2 args H k else none)) → TblOK P (tblOf l)
  | [], _ => fun f s h => by cases h
  | (g, s) :: r, hl => fun f s' h => by
    unfold tblOf at h
    cases hg : (f == g) with
    | true =>
      rw [hg, cond_true] at h
      injection h with h; subst h
      have := hl (g, s) (by simp)
      have hfg : f = g := by simpa using hg
      subst hfg
      exact this
    | false =>
      rw [hg, cond_false] at h
      exact tblOf_ok (fun x hx => hl x (by simp [hx])) f s' h
end
end Go.RX
