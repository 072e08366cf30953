/- WireNames: the names of kinds and the kinds of names: for every input the law returns true, and the input reads as before. -/
import Derived.Test.YtnidbincddpaaaaX16
namespace Go.Proofs.Ytnidbincddpaaaa
open Go Go.RX Go.RowKit Go.WideShapes Go.ChangeShapes Go.ChangeAt

set_option maxRecDepth 100000

def nm (l : List UInt8) : ByteArray := ⟨l.toArray⟩
/-- The kinds and their names. -/
def nameTab : List (Int × ByteArray) :=
  [(1, nm [115, 112, 97, 119, 110]), (2, nm [100, 101, 115, 116, 114, 111, 121]), (3, nm [112, 117, 115, 104]), (4, nm [103, 114, 97, 98]), (5, nm [100, 114, 97, 103]), (6, nm [114, 101, 108, 101, 97, 115, 101]), (7, nm [108, 111, 111, 107]), (8, nm [110, 101, 97, 114]), (9, nm [114, 97, 121]), (10, nm [99, 111, 117, 110, 116])]
def nameNest {α : Type} (g : ByteArray → α) (kind : Int) : List (Int × ByteArray) → α
  | [] => g ⟨#[]⟩
  | (i, s) :: r => bif i == kind then g s else nameNest g kind r
def kindNest {α : Type} (g : Int → α) (name : ByteArray) : List (Int × ByteArray) → α
  | [] => g 0
  | (i, s) :: r => bif s.toList == name.toList then g i else kindNest g name r
def nameOf (kind : Int) : ByteArray := nameNest id kind nameTab
def kindOf (name : ByteArray) : Int := kindNest id name nameTab

theorem nameNest_map {α : Type} (g : ByteArray → α) (kind : Int) : ∀ l, nameNest g kind l = g (nameNest id kind l)
  | [] => rfl
  | (i, s) :: r => by
    unfold nameNest
    cases (i == kind)
    · exact nameNest_map g kind r
    · rfl
theorem kindNest_map {α : Type} (g : Int → α) (name : ByteArray) : ∀ l, kindNest g name l = g (kindNest id name l)
  | [] => rfl
  | (i, s) :: r => by
    unfold kindNest
    cases (s.toList == name.toList)
    · exact kindNest_map g name r
    · rfl

theorem name16 (kind : Int) (g : Out → Res) : run Try.prog (fun _ => none) 100 30 16 [.int .i64 kind] [] (fun o _ => g o) = nameNest (fun s => g (.ret (.string s))) kind nameTab := by kernel_rfl
theorem kind18 (name : ByteArray) (g : Out → Res) : run Try.prog (fun _ => none) 100 30 18 [.string name] [] (fun o _ => g o) = kindNest (fun i => g (.ret (.int .i64 i))) name nameTab := by kernel_rfl
theorem kind19 (name : ByteArray) (g : Out → Res) : run Try.prog (fun _ => none) 100 30 19 [.string name] [] (fun o _ => g o) = kindNest (fun i => g (.ret (.int .i64 i))) name nameTab := by kernel_rfl
theorem name17neg (n : Nat) (g : Out → Res) : run Try.prog (fun _ => none) 100 30 17 [.int .i64 (Int.negSucc (n + 1))] [] (fun o _ => g o) = g (.ret (.string ⟨#[]⟩)) := by kernel_rfl
theorem name17one (g : Out → Res) : run Try.prog (fun _ => none) 100 30 17 [.int .i64 (-1)] [] (fun o _ => g o) = g (.ret (.string ⟨#[]⟩)) := by kernel_rfl
theorem name17big (n : Nat) (g : Out → Res) : run Try.prog (fun _ => none) 100 30 17 [.int .i64 (Int.ofNat (n + 11))] [] (fun o _ => g o) = g (.ret (.string ⟨#[]⟩)) := by kernel_rfl
theorem name17_0 (g : Out → Res) : run Try.prog (fun _ => none) 100 30 17 [.int .i64 (Int.ofNat 0)] [] (fun o _ => g o) = g (.ret (.string (nameOf (Int.ofNat 0)))) := by kernel_rfl
theorem name17_1 (g : Out → Res) : run Try.prog (fun _ => none) 100 30 17 [.int .i64 (Int.ofNat 1)] [] (fun o _ => g o) = g (.ret (.string (nameOf (Int.ofNat 1)))) := by kernel_rfl
theorem name17_2 (g : Out → Res) : run Try.prog (fun _ => none) 100 30 17 [.int .i64 (Int.ofNat 2)] [] (fun o _ => g o) = g (.ret (.string (nameOf (Int.ofNat 2)))) := by kernel_rfl
theorem name17_3 (g : Out → Res) : run Try.prog (fun _ => none) 100 30 17 [.int .i64 (Int.ofNat 3)] [] (fun o _ => g o) = g (.ret (.string (nameOf (Int.ofNat 3)))) := by kernel_rfl
theorem name17_4 (g : Out → Res) : run Try.prog (fun _ => none) 100 30 17 [.int .i64 (Int.ofNat 4)] [] (fun o _ => g o) = g (.ret (.string (nameOf (Int.ofNat 4)))) := by kernel_rfl
theorem name17_5 (g : Out → Res) : run Try.prog (fun _ => none) 100 30 17 [.int .i64 (Int.ofNat 5)] [] (fun o _ => g o) = g (.ret (.string (nameOf (Int.ofNat 5)))) := by kernel_rfl
theorem name17_6 (g : Out → Res) : run Try.prog (fun _ => none) 100 30 17 [.int .i64 (Int.ofNat 6)] [] (fun o _ => g o) = g (.ret (.string (nameOf (Int.ofNat 6)))) := by kernel_rfl
theorem name17_7 (g : Out → Res) : run Try.prog (fun _ => none) 100 30 17 [.int .i64 (Int.ofNat 7)] [] (fun o _ => g o) = g (.ret (.string (nameOf (Int.ofNat 7)))) := by kernel_rfl
theorem name17_8 (g : Out → Res) : run Try.prog (fun _ => none) 100 30 17 [.int .i64 (Int.ofNat 8)] [] (fun o _ => g o) = g (.ret (.string (nameOf (Int.ofNat 8)))) := by kernel_rfl
theorem name17_9 (g : Out → Res) : run Try.prog (fun _ => none) 100 30 17 [.int .i64 (Int.ofNat 9)] [] (fun o _ => g o) = g (.ret (.string (nameOf (Int.ofNat 9)))) := by kernel_rfl
theorem name17_10 (g : Out → Res) : run Try.prog (fun _ => none) 100 30 17 [.int .i64 (Int.ofNat 10)] [] (fun o _ => g o) = g (.ret (.string (nameOf (Int.ofNat 10)))) := by kernel_rfl

theorem name17 (kind : Int) (g : Out → Res) : run Try.prog (fun _ => none) 100 30 17 [.int .i64 kind] [] (fun o _ => g o) = g (.ret (.string (nameOf kind))) := by
  have far : ∀ k : Int, (k < 1 ∨ 10 < k) → nameOf k = ⟨#[]⟩ := by
    intro k hk
    have h : ∀ i : Int, 1 ≤ i → i ≤ 10 → (i == k) = false := fun i h1 h2 => by simp; omega
    simp only [nameOf, nameTab, nameNest]
    rw [h 1, h 2, h 3, h 4, h 5, h 6, h 7, h 8, h 9, h 10] <;> first | rfl | omega
  match kind with
  | .negSucc 0 => rw [far _ (by omega)]; exact name17one g
  | .negSucc (n + 1) => rw [far _ (by rw [Int.negSucc_eq]; omega)]; exact name17neg n g
  | .ofNat 0 => exact name17_0 g
  | .ofNat 1 => exact name17_1 g
  | .ofNat 2 => exact name17_2 g
  | .ofNat 3 => exact name17_3 g
  | .ofNat 4 => exact name17_4 g
  | .ofNat 5 => exact name17_5 g
  | .ofNat 6 => exact name17_6 g
  | .ofNat 7 => exact name17_7 g
  | .ofNat 8 => exact name17_8 g
  | .ofNat 9 => exact name17_9 g
  | .ofNat 10 => exact name17_10 g
  | .ofNat (n + 11) => rw [far _ (by rw [Int.ofNat_eq_natCast]; omega)]; exact name17big n g

theorem name16' (kind : Int) (g : Out → Res) : run Try.prog (fun _ => none) 100 30 16 [.int .i64 kind] [] (fun o _ => g o) = g (.ret (.string (nameOf kind))) := by
  rw [name16, nameNest_map]; rfl
theorem kind18' (name : ByteArray) (g : Out → Res) : run Try.prog (fun _ => none) 100 30 18 [.string name] [] (fun o _ => g o) = g (.ret (.int .i64 (kindOf name))) := by
  rw [kind18, kindNest_map]; rfl
theorem kind19' (name : ByteArray) (g : Out → Res) : run Try.prog (fun _ => none) 100 30 19 [.string name] [] (fun o _ => g o) = g (.ret (.int .i64 (kindOf name))) := by
  rw [kind19, kindNest_map]; rfl
theorem awake20 (g : Out → Res) : run Try.prog (fun _ => none) 100 30 20 [] [] (fun o _ => g o) = g (.ret (.bool true)) := by kernel_rfl

/-- The pure functions of the chapter's beginning, told. -/
def nameS : List Value → Option Value
  | [.int .i64 k] => some (.string (nameOf k))
  | _ => none
def kindS : List Value → Option Value
  | [.string s] => some (.int .i64 (kindOf s))
  | _ => none
def awakeS : List Value → Option Value
  | [] => some (.bool true)
  | _ => none

theorem nameS_ok {f : FuncId} (h : ∀ (kind : Int) (g : Out → Res), run Try.prog (fun _ => none) 100 30 f [.int .i64 kind] [] (fun o _ => g o) = g (.ret (.string (nameOf kind)))) :
    CallOK Try.prog (fun g args H k => if g = f then pureS nameS args H k else none) :=
  pureS_ok fun args v hv => by
    unfold nameS at hv
    split at hv
    · injection hv with hv; subst hv
      exact ⟨rfl, calls_pure try_num try_mix tbl_none (h _) (by simp [scV, scT, scS]) rfl⟩
    · cases hv
theorem kindS_ok {f : FuncId} (h : ∀ (name : ByteArray) (g : Out → Res), run Try.prog (fun _ => none) 100 30 f [.string name] [] (fun o _ => g o) = g (.ret (.int .i64 (kindOf name)))) :
    CallOK Try.prog (fun g args H k => if g = f then pureS kindS args H k else none) :=
  pureS_ok fun args v hv => by
    unfold kindS at hv
    split at hv
    · injection hv with hv; subst hv
      exact ⟨rfl, calls_pure try_num try_mix tbl_none (h _) (by simp [scV, scT, scS]) rfl⟩
    · cases hv
theorem awakeS_ok : CallOK Try.prog (fun g args H k => if g = 20 then pureS awakeS args H k else none) :=
  pureS_ok fun args v hv => by
    unfold awakeS at hv
    split at hv
    · injection hv with hv; subst hv
      exact ⟨rfl, calls_pure try_num try_mix tbl_none awake20 (by simp) rfl⟩
    · cases hv

def namesTbl : FuncId → Option (List Value → AH → (Out → AH → Res) → Res) :=
  tblOf [(16, pureS nameS), (17, pureS nameS), (18, pureS kindS), (19, pureS kindS), (20, pureS awakeS)]
theorem namesTbl_ok : TblOK Try.prog namesTbl := tblOf_ok fun x hx => by
  simp only [List.mem_cons, List.not_mem_nil, or_false] at hx
  rcases hx with rfl | rfl | rfl | rfl | rfl
  · exact nameS_ok name16'
  · exact nameS_ok name17
  · exact kindS_ok kind18'
  · exact kindS_ok kind19'
  · exact awakeS_ok

theorem names_nest (kind : Int) (name : ByteArray) : run Try.prog namesTbl 100 30 3 [.int .i64 kind, .string name] [] tt =
    bif (nameOf kind).toList == (nameOf kind).toList then (bif kindOf name == kindOf name then (bif kindOf (nameOf kind) == kindOf (nameOf kind) then some (.ret (.bool true), []) else none) else none) else none := by kernel_rfl

theorem names_walk (kind : Int) (name : ByteArray) (w : World) : Calls Try.prog 3 #[.int .i64 kind, .string name] w fun e w' => e = .returned (.bool true) ∧ Below w.heap.size w w' := by
  have h : run Try.prog namesTbl 100 30 3 [.int .i64 kind, .string name] [] tt = some (.ret (.bool true), []) := (names_nest kind name).trans (by simp only [beq_self_eq_true, cond_true])
  have := calls_true try_num try_mix namesTbl_ok h (rel_nil w _ σ0) (by simp [scV, scT, scS])
  exact this

theorem names_own : ownKnob Try.prog.godebug = none := by kernel_rfl
theorem names_laidOut : laidOutB Try.prog = true := by kernel_rfl

theorem wireNames_lifted (os : Os) (started : os.Started) (H : Type) (enc : TypeId × Value → H) :
    ReturnsInHanded {} Try.checked os 3 .any (Rows.wireNamesSpec.pre6 enc Try.prog Try.f3 Rows.wireNamesRow.domain false) (Rows.wireNamesSpec.post enc Try.prog Try.f3 false true false false) := by
  refine returnsInHanded_of_change (C := Try.checked) names_own started (by kernel_rfl) Try.func3
    (ChangeSpec.witness6 (enc := enc) (C := Try.checked) false ⟨#[], #[.int .i64 0, .string ⟨#[]⟩], []⟩ 8 (by kernel_rfl) (by kernel_rfl) (by kernel_rfl) (by kernel_rfl)) ?_
  intro W base args ds gs before hval0 hW hcnd _
  have hval : ∀ (j : Nat) t v, Try.f3.params[j]? = some t → args[j]? = some v → Value.okWide Try.prog W .any base t v := hval0
  have hW' := hW
  obtain ⟨p, q, hA0, hV, rfl, hfz, hnd⟩ := hW
  have hA : DataW.TrodAll enc Try.prog W 0 (fun _ => true) true Try.f3.params.toList args.toList ds p := hA0
  rw [Try.params3] at hA hval
  obtain ⟨v0, v1, d0, d1, p0, p1, rfl, rfl, rfl, h0, h1⟩ := trodAll_two hA
  obtain ⟨k, rfl⟩ := okWide_int Try.underlying3 (hval 0 3 v0 rfl rfl)
  obtain ⟨s, rfl⟩ := okWide_string Try.underlying9 (hval 1 9 v1 rfl rfl)
  exact (names_walk k s W).mono fun e W' ⟨he, hb⟩ => ⟨_, he, law_post (tb := 4) names_laidOut (by kernel_rfl) rfl Try.underlying4 rfl rfl hW' hb⟩

theorem wireNames_holds : Rows.WireNamesSaid :=
  OpenClaim.holds_of_wide 3 Try.f3 rfl rfl rfl rfl rfl rfl rfl ⟨rfl, rfl, rfl, rfl, rfl⟩ rfl rfl rfl rfl rfl (by kernel_rfl) Try.func3 (by kernel_rfl)
    (of_decide_eq_true (by kernel_rfl)) (by unfold Func.isWrapper; first | (rw [if_pos (by decide +kernel)]; kernel_rfl) | (rw [if_neg (by decide +kernel)]; exact ⟨rfl, rfl⟩))
    (fun os started H enc _ => wireNames_lifted os started H enc)
#print axioms wireNames_holds
end Go.Proofs.Ytnidbincddpaaaa
