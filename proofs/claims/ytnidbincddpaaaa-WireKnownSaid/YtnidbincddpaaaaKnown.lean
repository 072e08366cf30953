/- WireKnown: the examples, evaluated. -/
import Derived.Test.YtnidbincddpaaaaX15
namespace Go.Proofs.Ytnidbincddpaaaa
open Go Go.RX Go.RowKit Go.WideShapes Go.ChangeShapes Go.ChangeAt

set_option maxRecDepth 100000

theorem known_own : ownKnob Try.prog.godebug = none := by kernel_rfl
theorem known_laidOut : laidOutB Try.prog = true := by kernel_rfl

theorem known_run : run Try.prog (fun _ => none) 100 30 9 [] [] tt = some (.ret (.bool true), []) := by kernel_rfl

theorem known_walk (w : World) : Calls Try.prog 9 #[] w fun e w' => e = .returned (.bool true) ∧ Below w.heap.size w w' :=
  calls_true try_num try_mix tbl_none known_run (rel_nil w _ σ0) (by simp)

theorem wireKnown_lifted (os : Os) (started : os.Started) (H : Type) (enc : TypeId × Value → H) :
    ReturnsInHanded {} Try.checked os 9 .any (Rows.wireKnownSpec.pre6 enc Try.prog Try.f9 Rows.wireKnownRow.domain false) (Rows.wireKnownSpec.post enc Try.prog Try.f9 false true false false) := by
  refine returnsInHanded_of_change (C := Try.checked) known_own started (by kernel_rfl) Try.func9
    (ChangeSpec.witness6 (enc := enc) (C := Try.checked) false ⟨#[], #[], []⟩ 8 (by kernel_rfl) (by kernel_rfl) (by kernel_rfl) (by kernel_rfl)) ?_
  intro W base args ds gs before hval hW hcnd _
  have hW' := hW
  obtain ⟨p, q, hA0, hV, rfl, hfz, hnd⟩ := hW
  have hA : DataW.TrodAll enc Try.prog W 0 (fun _ => true) true Try.f9.params.toList args.toList ds p := hA0
  rw [show Try.f9.params.toList = [] from rfl] at hA
  obtain ⟨h1, rfl, rfl⟩ := trodAll_nil hA
  have h1' : args = #[] := by apply Array.toList_inj.1; exact h1
  subst h1'
  exact (known_walk W).mono fun e W' ⟨he, hb⟩ => ⟨_, he, law_post (tb := 4) known_laidOut (by kernel_rfl) rfl Try.underlying4 rfl rfl hW' hb⟩

theorem wireKnown_holds : Rows.WireKnownSaid :=
  OpenClaim.holds_of_wide 9 Try.f9 rfl rfl rfl rfl rfl rfl rfl ⟨rfl, rfl, rfl, rfl, rfl⟩ rfl rfl rfl rfl rfl (by kernel_rfl) Try.func9 (by kernel_rfl)
    (of_decide_eq_true (by kernel_rfl)) (by unfold Func.isWrapper; first | (rw [if_pos (by decide +kernel)]; kernel_rfl) | (rw [if_neg (by decide +kernel)]; exact ⟨rfl, rfl⟩))
    (fun os started H enc _ => wireKnown_lifted os started H enc)
#print axioms wireKnown_holds
end Go.Proofs.Ytnidbincddpaaaa
