/- WireFrames: which frame a string has, or which error: for every input the law returns true, and the input reads as before. -/
import Derived.Test.YtnidbincddpaaaaNames
namespace Go.Proofs.Ytnidbincddpaaaa
open Go Go.RX Go.RowKit Go.WideShapes Go.ChangeShapes Go.ChangeAt

set_option maxRecDepth 100000

/-- The header's bytes as the writer has them, and as the reference has them. -/
def hb (n k : Nat) : Value := .int .u8 (IntKind.u8.wrap ((IntKind.u64.wrap (IntKind.u32.wrap (n : Int))).fdiv (2 ^ k)))
def hr (n k : Nat) : Value := .int .u8 (IntKind.u8.wrap ((IntKind.u64.wrap (n : Int)).fdiv (2 ^ k)))
def hs (n k : Nat) : ByteArray := ⟨([hr n k].map byteVal).toArray⟩
def fcells (s : ByteArray) : List Value := [hb s.size 24, hb s.size 16, hb s.size 8, hb s.size 0] ++ s.data.toList.map fun b => Value.int .u8 b.toNat

def frErr (s : ByteArray) : Int := if s.size = 0 then 7 else if 2048 < s.size then 6 else 0
def frStr (s : ByteArray) : ByteArray := if s.size = 0 then ⟨#[]⟩ else if 2048 < s.size then ⟨#[]⟩ else (((((⟨#[]⟩ ++ hs s.size 24) ++ hs s.size 16) ++ hs s.size 8) ++ hs s.size 0) ++ s)

theorem frame21 (s : ByteArray) (g : Out → Res) : run Try.prog (fun _ => none) 100 30 21 [.string s] [] (fun o _ => g o) =
    bif (s.size : Int) == 0 then g (.ret (.tuple #[.string ⟨#[]⟩, .int .i64 7])) else
    bif ltB 2048 s.size then g (.ret (.tuple #[.string ⟨#[]⟩, .int .i64 6])) else
    bif Nat.ble 1 s.size && Nat.ble (4 + s.size) 1000000000 && true && true then
      (bif Nat.beq ((fcells s).take (4 + s.size)).length (4 + s.size) && ((fcells s).take (4 + s.size)).all isU8 then
        g (.ret (.tuple #[.string ⟨(((fcells s).take (4 + s.size)).map byteVal).toArray⟩, .int .i64 0])) else none) else none := by kernel_rfl
theorem frame22 (s : ByteArray) (g : Out → Res) : run Try.prog (fun _ => none) 100 30 22 [.string s] [] (fun o _ => g o) =
    bif s.toList == (⟨#[]⟩ : ByteArray).toList then g (.ret (.tuple #[.string ⟨#[]⟩, .int .i64 7])) else
    bif ltB 2048 s.size then g (.ret (.tuple #[.string ⟨#[]⟩, .int .i64 6])) else
    bif Nat.ble (4 + s.size) 9223372036854775807 then g (.ret (.tuple #[.string (((((⟨#[]⟩ ++ hs s.size 24) ++ hs s.size 16) ++ hs s.size 8) ++ hs s.size 0) ++ s), .int .i64 0])) else none := by kernel_rfl

theorem hb_eq (n k : Nat) (h : n ≤ 2048) : hb n k = hr n k := by
  unfold hb hr
  rw [IntKind.wrap_u32, Int.emod_eq_of_lt (by omega) (by omega)]

theorem hr_byte (n k : Nat) : isU8 (hr n k) = true := rfl

theorem fcells_len (s : ByteArray) : (fcells s).length = 4 + s.size := by
  simp [fcells]
  omega
theorem fcells_all (s : ByteArray) : (fcells s).all isU8 = true := by
  refine List.all_eq_true.2 fun v hv => ?_
  simp only [fcells, List.mem_append, List.mem_cons, List.not_mem_nil, or_false, List.mem_map] at hv
  rcases hv with (rfl | rfl | rfl | rfl) | ⟨b, _, rfl⟩ <;> rfl

theorem ba_ext {a b : ByteArray} (h : a.data.toList = b.data.toList) : a = b := by
  cases a; cases b; congr; exact Array.toList_inj.1 h

theorem frame_str (s : ByteArray) (h : s.size ≤ 2048) : (⟨((fcells s).map byteVal).toArray⟩ : ByteArray) = ((((⟨#[]⟩ ++ hs s.size 24) ++ hs s.size 16) ++ hs s.size 8) ++ hs s.size 0) ++ s := by
  apply ba_ext
  simp only [ByteArray.data_append, Array.toList_append, fcells, hb_eq _ _ h, hs, List.map_append, List.map_cons, List.map_nil, List.map_map]
  have : (byteVal ∘ fun b : UInt8 => Value.int .u8 b.toNat) = id := by
    funext b
    simp [byteVal]
  rw [this, List.map_id]
  simp

theorem frame21' (s : ByteArray) (g : Out → Res) : run Try.prog (fun _ => none) 100 30 21 [.string s] [] (fun o _ => g o) = g (.ret (.tuple #[.string (frStr s), .int .i64 (frErr s)])) := by
  rw [frame21]
  by_cases h0 : s.size = 0
  · simp [h0, frStr, frErr]
  · have e0 : ((s.size : Int) == 0) = false := by simp [h0]
    rw [e0, cond_false, ltB_eq]
    by_cases h1 : 2048 < s.size
    · have e1 : decide ((2048 : Int) < s.size) = true := by simp; omega
      rw [e1, cond_true]
      simp [frStr, frErr, h0, h1]
    · have e1 : decide ((2048 : Int) < s.size) = false := by simp; omega
      have e2 : Nat.ble 1 s.size = true := by rw [Nat.ble_eq]; omega
      have e3 : Nat.ble (4 + s.size) 1000000000 = true := by rw [Nat.ble_eq]; omega
      have e4 : (fcells s).take (4 + s.size) = fcells s := List.take_of_length_le (by rw [fcells_len]; exact Nat.le_refl _)
      have e5 : Nat.beq (fcells s).length (4 + s.size) = true := by rw [Nat.beq_eq, fcells_len]
      rw [e1, cond_false, e2, e3, e4, e5, fcells_all]
      simp only [Bool.and_self, cond_true]
      rw [frame_str s (by omega)]
      simp [frStr, frErr, h0, h1]

theorem frame22' (s : ByteArray) (g : Out → Res) : run Try.prog (fun _ => none) 100 30 22 [.string s] [] (fun o _ => g o) = g (.ret (.tuple #[.string (frStr s), .int .i64 (frErr s)])) := by
  rw [frame22]
  by_cases h0 : s.size = 0
  · have : s = ⟨#[]⟩ := ba_ext (List.eq_nil_of_length_eq_zero (by simpa using h0))
    subst this
    rw [beq_self_eq_true, cond_true]
    unfold frStr frErr
    rw [if_pos h0, if_pos h0]
  · have e0 : (s.toList == (⟨#[]⟩ : ByteArray).toList) = false := by
      rw [beq_eq_false_iff_ne]
      intro he
      apply h0
      have := congrArg List.length he
      rw [ByteArray.toList_eq, ByteArray.toList_eq, Array.length_toList] at this
      exact this
    rw [e0, cond_false, ltB_eq]
    by_cases h1 : 2048 < s.size
    · have e1 : decide ((2048 : Int) < s.size) = true := by simp; omega
      rw [e1, cond_true]
      simp [frStr, frErr, h0, h1]
    · have e1 : decide ((2048 : Int) < s.size) = false := by simp; omega
      have e3 : Nat.ble (4 + s.size) 9223372036854775807 = true := by rw [Nat.ble_eq]; omega
      rw [e1, cond_false, e3, cond_true]
      simp [frStr, frErr, h0, h1]

def frameS : List Value → Option Value
  | [.string s] => some (.tuple #[.string (frStr s), .int .i64 (frErr s)])
  | _ => none
theorem frameS_ok {f : FuncId} (h : ∀ (s : ByteArray) (g : Out → Res), run Try.prog (fun _ => none) 100 30 f [.string s] [] (fun o _ => g o) = g (.ret (.tuple #[.string (frStr s), .int .i64 (frErr s)]))) :
    CallOK Try.prog (fun g args H k => if g = f then pureS frameS args H k else none) :=
  pureS_ok fun args v hv => by
    unfold frameS at hv
    split at hv
    · injection hv with hv; subst hv
      exact ⟨by simp [scV, scT, scS], calls_pure try_num try_mix tbl_none (h _) (by simp [scV, scT, scS]) (by simp [scV, scT, scS])⟩
    · cases hv

def framesTbl : FuncId → Option (List Value → AH → (Out → AH → Res) → Res) :=
  tblOf [(21, pureS frameS), (22, pureS frameS), (20, pureS awakeS)]
theorem framesTbl_ok : TblOK Try.prog framesTbl := tblOf_ok fun x hx => by
  simp only [List.mem_cons, List.not_mem_nil, or_false] at hx
  rcases hx with rfl | rfl | rfl
  · exact frameS_ok frame21'
  · exact frameS_ok frame22'
  · exact awakeS_ok

theorem frames_nest (s : ByteArray) : run Try.prog framesTbl 100 30 4 [.string s] [] tt =
    bif ltB 5000 s.size then some (.ret (.bool true), []) else
    bif (frStr s).toList == (frStr s).toList then (bif frErr s == frErr s then some (.ret (.bool true), []) else none) else none := by kernel_rfl

theorem frames_walk (s : ByteArray) (w : World) : Calls Try.prog 4 #[.string s] w fun e w' => e = .returned (.bool true) ∧ Below w.heap.size w w' := by
  have h : run Try.prog framesTbl 100 30 4 [.string s] [] tt = some (.ret (.bool true), []) := (frames_nest s).trans (by
    rw [beq_self_eq_true, beq_self_eq_true]
    cases ltB 5000 s.size <;> rfl)
  have := calls_true try_num try_mix framesTbl_ok h (rel_nil w _ σ0) (by simp [scV, scT, scS])
  exact this

theorem wireFrames_lifted (os : Os) (started : os.Started) (H : Type) (enc : TypeId × Value → H) :
    ReturnsInHanded {} Try.checked os 4 .any (Rows.wireFramesSpec.pre6 enc Try.prog Try.f4 Rows.wireFramesRow.domain false) (Rows.wireFramesSpec.post enc Try.prog Try.f4 false true false false) := by
  refine returnsInHanded_of_change (C := Try.checked) names_own started (by kernel_rfl) Try.func4
    (ChangeSpec.witness6 (enc := enc) (C := Try.checked) false ⟨#[], #[.string ⟨#[]⟩], []⟩ 8 (by kernel_rfl) (by kernel_rfl) (by kernel_rfl) (by kernel_rfl)) ?_
  intro W base args ds gs before hval0 hW hcnd _
  have hval : ∀ (j : Nat) t v, Try.f4.params[j]? = some t → args[j]? = some v → Value.okWide Try.prog W .any base t v := hval0
  have hW' := hW
  obtain ⟨p, q, hA0, hV, rfl, hfz, hnd⟩ := hW
  have hA : DataW.TrodAll enc Try.prog W 0 (fun _ => true) true Try.f4.params.toList args.toList ds p := hA0
  rw [Try.params4] at hA hval
  obtain ⟨v0, d0, rfl, rfl, h0⟩ := trodAll_one hA
  obtain ⟨s, rfl⟩ := okWide_string Try.underlying9 (hval 0 9 v0 rfl rfl)
  exact (frames_walk s W).mono fun e W' ⟨he, hb⟩ => ⟨_, he, law_post (tb := 4) names_laidOut (by kernel_rfl) rfl Try.underlying4 rfl rfl hW' hb⟩

theorem wireFrames_holds : Rows.WireFramesSaid :=
  OpenClaim.holds_of_wide 4 Try.f4 rfl rfl rfl rfl rfl rfl rfl ⟨rfl, rfl, rfl, rfl, rfl⟩ rfl rfl rfl rfl rfl (by kernel_rfl) Try.func4 (by kernel_rfl)
    (of_decide_eq_true (by kernel_rfl)) (by unfold Func.isWrapper; first | (rw [if_pos (by decide +kernel)]; kernel_rfl) | (rw [if_neg (by decide +kernel)]; exact ⟨rfl, rfl⟩))
    (fun os started H enc _ => wireFrames_lifted os started H enc)
#print axioms wireFrames_holds
end Go.Proofs.Ytnidbincddpaaaa
