/- WireNone: methods of feeds that are not valid: for every input the law returns true, and the input reads as before. -/
import Derived.Test.YtnidbincddpaaaaX15
namespace Go.Proofs.Ytnidbincddpaaaa
open Go Go.RX Go.RowKit Go.WideShapes Go.ChangeShapes Go.ChangeAt

set_option maxRecDepth 100000

theorem none_own : ownKnob Try.prog.godebug = none := by kernel_rfl
theorem none_laidOut : laidOutB Try.prog = true := by kernel_rfl

theorem none_run (s : Option Nat) (n c : Nat) : run Try.prog (fun _ => none) 100 30 11 [.slice (some ⟨0, 0, s⟩) n c] [⟨[], 5, false, false⟩] tt = some (.ret (.bool true), []) := by kernel_rfl
theorem none_run0 (n c : Nat) : run Try.prog (fun _ => none) 100 30 11 [.slice none n c] [] tt = some (.ret (.bool true), []) := by kernel_rfl

theorem none_walk (a : Option Addr) (n c : Nat) (w : World) : Calls Try.prog 11 #[.slice a n c] w fun e w' => e = .returned (.bool true) ∧ Below w.heap.size w w' := by
  cases a with
  | none => exact calls_true try_num try_mix tbl_none (none_run0 n c) (rel_nil w _ σ0) (by simp [scV, scT, scS])
  | some a =>
    have := calls_true try_num try_mix tbl_none (none_run a.spot n c) (rel_dead (S := fun _ => False) w (fun _ => ⟨a.block, a.off, 0⟩)) (by simp [scV, scT, scS])
    simpa [cV, cT, cS, cA] using this

theorem wireNone_lifted (os : Os) (started : os.Started) (H : Type) (enc : TypeId × Value → H) :
    ReturnsInHanded {} Try.checked os 11 .any (Rows.wireNoneSpec.pre6 enc Try.prog Try.f11 Rows.wireNoneRow.domain false) (Rows.wireNoneSpec.post enc Try.prog Try.f11 false true false false) := by
  refine returnsInHanded_of_change (C := Try.checked) none_own started (by kernel_rfl) Try.func11
    (ChangeSpec.witness6 (enc := enc) (C := Try.checked) false ⟨#[], #[.slice none 0 0], []⟩ 8 (by kernel_rfl) (by kernel_rfl) (by kernel_rfl) (by kernel_rfl)) ?_
  intro W base args ds gs before hval0 hW hcnd _
  have hval : ∀ (j : Nat) t v, Try.f11.params[j]? = some t → args[j]? = some v → Value.okWide Try.prog W .any base t v := hval0
  have hW' := hW
  obtain ⟨p, q, hA0, hV, rfl, hfz, hnd⟩ := hW
  have hA : DataW.TrodAll enc Try.prog W 0 (fun _ => true) true Try.f11.params.toList args.toList ds p := hA0
  rw [Try.params11] at hA hval
  obtain ⟨v0, d0, rfl, rfl, h0⟩ := trodAll_one hA
  obtain ⟨a, n, c, rfl⟩ := okWide_slice Try.underlying71 (hval 0 71 v0 rfl rfl)
  exact (none_walk a n c W).mono fun e W' ⟨he, hb⟩ => ⟨_, he, law_post (tb := 4) none_laidOut (by kernel_rfl) rfl Try.underlying4 rfl rfl hW' hb⟩

theorem wireNone_holds : Rows.WireNoneSaid :=
  OpenClaim.holds_of_wide 11 Try.f11 rfl rfl rfl rfl rfl rfl rfl ⟨rfl, rfl, rfl, rfl, rfl⟩ rfl rfl rfl rfl rfl (by kernel_rfl) Try.func11 (by kernel_rfl)
    (of_decide_eq_true (by kernel_rfl)) (by unfold Func.isWrapper; first | (rw [if_pos (by decide +kernel)]; kernel_rfl) | (rw [if_neg (by decide +kernel)]; exact ⟨rfl, rfl⟩))
    (fun os started H enc _ => wireNone_lifted os started H enc)
#print axioms wireNone_holds
end Go.Proofs.Ytnidbincddpaaaa
