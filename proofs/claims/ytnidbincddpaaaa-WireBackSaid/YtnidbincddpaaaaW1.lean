/- The program: what the executor asks of it; functions of numbers. -/
import Derived.Test.YtnidbincddpaaaaE17
import Derived.Test.YtnidbincddpaaaaProg
namespace Go.RX
open Go Go.Proofs Go.RowKit
set_option maxRecDepth 100000

theorem try_num : ∀ (f : FuncId) (fn : Func), Try.prog.funcs[f]? = some fn → (fn.name == "runtime.NumGoroutine") = false := by
  have h : Try.prog.funcs.toList.all (fun fn => !(fn.name == "runtime.NumGoroutine")) = true := by kernel_rfl
  intro f fn hf
  have := List.all_eq_true.1 h fn (Array.mem_toList_iff.2 (Array.mem_of_getElem? hf))
  simpa using this
theorem try_mix : Try.prog.follows .mixedOrders = true := by kernel_rfl

theorem awake_run (g : Out → Res) : run Try.prog (fun _ => none) 100 30 20 [] .nil (fun o _ => g o) = g (.ret (.bool true)) := by kernel_rfl
def awakeS : List Value → Option Value
  | [] => some (.bool true)
  | _ => none
theorem awakeS_ok : CallOK Try.prog (fun g args H k => if g = 20 then pureS awakeS args H k else none) :=
  pureS_ok fun args v hv => by
    unfold awakeS at hv
    split at hv
    · injection hv with hv; subst hv
      exact ⟨rfl, calls_pure try_num try_mix tbl_none awake_run (by simp) rfl⟩
    · cases hv
end Go.RX
