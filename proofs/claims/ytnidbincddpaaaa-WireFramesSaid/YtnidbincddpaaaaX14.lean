/- What a run of the executor says of a call. -/
import Derived.Test.YtnidbincddpaaaaX13
import Derived.Test.YtnidbincddpaaaaProg
import Derived.Below
import Derived.KernelRfl
namespace Go.RX
open Go Go.Proofs Go.Proofs.Ytnidbincddpaaaa Go.RowKit

section
variable {P : Program}

/-- The continuation that asks for one answer. -/
def want (v : Value) (p : Value → Bool) : Out → AH → Res := fun o _ => match o with | .ret u => bif p u then some (.ret v, []) else none | .pan _ => none
def isTrue : Value → Bool | .bool b => b | _ => false
def tt : Out → AH → Res := want (.bool true) isTrue

theorem fr_below {w w' : World} (h : Fr (fun _ => False) w w') : Below w.heap.size w w' := ⟨h.os, h.tape, h.output, h.size, fun k hk => h.block k hk (fun hf => hf)⟩

theorem calls_true (hnum : ∀ (f : FuncId) (fn : Func), P.funcs[f]? = some fn → (fn.name == "runtime.NumGoroutine") = false) (hmix : P.follows .mixedOrders = true)
    {tbl : FuncId → Option (List Value → AH → (Out → AH → Res) → Res)} (ht : TblOK P tbl) {loops n : Nat} {f : FuncId} {args : List Value} {H : AH} (h : run P tbl loops n f args H tt = some (.ret (.bool true), []))
    {σ : Nat → Loc} {w : World} (hR : Rel P w (fun _ => False) σ H w) (hs : ∀ v ∈ args, scV H.length v = true) :
    Calls P f (args.map (cV σ)).toArray w fun e w' => e = .returned (.bool true) ∧ Below w.heap.size w w' := by
  refine run_ok hnum hmix ht loops n f args H tt _ h w (fun _ => False) _ σ w hR hs ?_
  intro o H' hk σ' w' _ _ hR' _
  cases o with
  | pan v => cases hk
  | ret u =>
    cases u with
    | bool b =>
      cases b with
      | false => simp [tt, want, isTrue] at hk
      | true => exact ⟨rfl, fr_below hR'.fr⟩
    | _ => simp [tt, want, isTrue] at hk

theorem rel_nil (w : World) (S : Nat → Prop) (σ : Nat → Loc) : Rel P w S σ [] w :=
  ⟨Fr.refl _ _, by simp, by simp, by simp, by simp, by simp⟩

/-- What a pure function returns: the run tells it to whatever asks. -/
theorem calls_pure (hnum : ∀ (f : FuncId) (fn : Func), P.funcs[f]? = some fn → (fn.name == "runtime.NumGoroutine") = false) (hmix : P.follows .mixedOrders = true)
    {tbl : FuncId → Option (List Value → AH → (Out → AH → Res) → Res)} (ht : TblOK P tbl) {loops n : Nat} {f : FuncId} {args : List Value} {v : Value}
    (h : ∀ g : Out → Res, run P tbl loops n f args [] (fun o _ => g o) = g (.ret v)) (hs : ∀ a ∈ args, scV 0 a = true) (hv : scV 0 v = true) (w : World) :
    Calls P f args.toArray w fun e w' => e = .returned v ∧ Below w.heap.size w w' := by
  classical
  have h1 := h (fun o => if o = .ret v then some (.ret (.bool true), []) else none)
  rw [if_pos rfl] at h1
  have := run_ok hnum hmix ht loops n f args [] _ _ h1 w (fun _ => False) (fun e w' => e = .returned v ∧ Below w.heap.size w w') (fun _ => ⟨0, 0, 0⟩) w (rel_nil w _ _) hs ?_
  · have he : args.map (cV fun _ => ⟨0, 0, 0⟩) = args := by
      rw [List.map_congr_left (g := id) fun a ha => cV_const a (hs a ha), List.map_id]
    rwa [he] at this
  · intro o H' hk σ' w' _ _ hR' _
    have ho : o = .ret v := by
      by_cases ho : o = .ret v
      · exact ho
      · simp [ho] at hk
    subst ho
    exact ⟨by rw [ending, cV_const v hv], fr_below hR'.fr⟩

/-- A block of which nothing is known. -/
theorem rel_dead (w : World) {S : Nat → Prop} (σ : Nat → Loc) : Rel P w S σ [⟨[], 5, false, false⟩] w := by
  have key : ∀ (i : Nat) (b : Blk), ([⟨[], 5, false, false⟩] : AH)[i]? = some b → b = ⟨[], 5, false, false⟩ := by
    intro i b h
    cases i with
    | zero => simpa using h.symm
    | succ i => simp at h
  refine ⟨Fr.refl _ _, ?_, ?_, ?_, ?_, ?_⟩
  · intro i b h; rw [key i b h]; rfl
  · intro i b h hl; rw [key i b h] at hl; cases hl
  · intro i b h hl; rw [key i b h] at hl; cases hl
  · intro i b h hl; rw [key i b h] at hl; cases hl
  · intro i j b c hi _ hl; rw [key i b hi] at hl; cases hl

theorem tbl_none : TblOK P (fun _ => none) := fun f s h => by cases h
end

def σ0 : Nat → Loc := fun _ => ⟨0, 0, 0⟩

/-- The program names no function that asks for the number of goroutines. -/
theorem try_num : ∀ (f : FuncId) (fn : Func), Try.prog.funcs[f]? = some fn → (fn.name == "runtime.NumGoroutine") = false := by
  have h : Try.prog.funcs.toList.all (fun fn => !(fn.name == "runtime.NumGoroutine")) = true := by kernel_rfl
  intro f fn hf
  have := List.all_eq_true.1 h fn (Array.mem_toList_iff.2 (Array.mem_of_getElem? hf))
  simpa using this
theorem try_mix : Try.prog.follows .mixedOrders = true := by kernel_rfl

end Go.RX
