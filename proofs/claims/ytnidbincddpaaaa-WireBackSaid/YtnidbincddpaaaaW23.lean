/- What laws share: how specs go on, lists that came in. -/
import Derived.Test.YtnidbincddpaaaaW22
import Derived.Test.YtnidbincddpaaaaE20
import Derived.Carry
import Derived.Test.YtnidbincddpaaaaRows
namespace Go.RX
open Go Go.Proofs Go.RowKit Go.WideShapes Go.ChangeShapes
set_option maxRecDepth 100000

/-- Goes on with what was returned. -/
def onRet (k : Value → AH → Res) : Out → AH → Res := fun o H => match o with | .ret v => k v H | .pan _ => none
def onStr (k : ByteArray → Int → AH → Res) : Out → AH → Res := fun o H => match o with | .ret (.tuple ⟨[.string s, .int .i64 e]⟩) => k s e H | _ => none
def onB (k : Bool → AH → Res) : Out → AH → Res := fun o H => match o with | .ret (.bool b) => k b H | _ => none
def onCE (k : Value → Int → AH → Res) : Out → AH → Res := fun o H => match o with | .ret (.tuple ⟨[d, .int .i64 e]⟩) => k d e H | _ => none
theorem Nums_of {L : List Value} (h : ∀ u ∈ L, ∃ n : Int, u = .int .i64 n ∧ okI n) : Nums L := by
  intro i
  unfold nthV nth
  rw [List.getD_eq_getElem?_getD, List.getElem?_map]
  cases hi : L[i]? with
  | none => exact ⟨by decide, by decide⟩
  | some u =>
    obtain ⟨n, rfl, hn⟩ := h u (List.mem_of_getElem? hi)
    exact hn
theorem i64_cell {H : Type} {enc : TypeId × Value → H} {W : World} (v : Value) (n : Nat) (x : DataW H × List MemPlace) (h : DataW.trod enc Try.prog W 0 (fun _ => true) true n 2 [v] = some x) : scS 0 v = true ∧ ∃ m : Int, v = .int .i64 m ∧ okI m := by
  obtain ⟨m, h1, _, h2⟩ := DataW.trod_int Try.underlying2 h
  injection h1 with h1 _
  subst h1
  refine ⟨rfl, m, rfl, ?_⟩
  unfold Lit.wf at h2
  have h3 : IntKind.i64.min ≤ m ∧ m ≤ IntKind.i64.max := by simpa using h2
  have e1 : IntKind.i64.min = -9223372036854775808 := by decide
  have e2 : IntKind.i64.max = 9223372036854775807 := by decide
  unfold okI
  omega
theorem form_listC {H : AH} {i : Nat} {p : Option Addr} {n c : Nat} {b : Blk} {L : List Value} (h : SlForm 2 i p n c b L) (hb : H.get i = some b) (hL : ∀ u ∈ L, ∃ n : Int, u = .int .i64 n ∧ okI n) : listC H p n c = some L := by
  rcases h with ⟨rfl, rfl, rfl, rfl, rfl⟩ | ⟨rfl, rfl, rfl, rfl⟩ | ⟨rfl, rfl, rfl, rfl, rfl⟩
  · rfl
  · unfold listC
    simp only
    rw [hb]
    have hs : srcOK L L.length L.length = true := by
      unfold srcOK
      simp only [Bool.and_eq_true, Nat.beq_eq, true_and, List.all_eq_true]
      intro u hu
      obtain ⟨m, rfl, _⟩ := hL u hu
      rfl
    show (bif Nat.beq 2 2 && (Nat.beq 0 0 && srcOK L L.length L.length) then some L else none) = _
    rw [hs]; rfl
  · unfold listC
    simp only
    rw [hb]; rfl

theorem pts_kind {kd : Nat} {c : Cl} (h : IsCall kd c) (hp : c.shape.pts ≠ []) : kd = 1 := by
  have hr := h.rng
  have hf := h.form
  have : kd = 1 ∨ kd = 2 ∨ kd = 3 ∨ kd = 4 ∨ kd = 5 ∨ kd = 6 ∨ kd = 7 ∨ kd = 8 ∨ kd = 9 ∨ kd = 10 := by omega
  rcases this with rfl | rfl | rfl | rfl | rfl | rfl | rfl | rfl | rfl | rfl
  · rfl
  all_goals (exfalso; apply hp; rw [hf]; rfl)
theorem readS_say {H : AH} {s : ByteArray} {c : Cl} (hs : s.size ≤ 4611686018427387903) (h : rdCall s = .ok c) :
    ∃ (p : Option Addr) (n : Nat) (H' : AH), CallIn H' c p n ∧ More H H' ∧ ∀ k, readS [.string s] H k = k (.ret (.tuple #[c.val p n, .int .i64 0])) H' := by
  obtain ⟨his, hf, _⟩ := rdCall_sound h
  have e : ∀ k, readS [.string s] H k = bif Nat.ble s.size 4611686018427387903 then (match hid (rdCall s) with
    | .error e => k (.ret (.tuple #[zC.val none 0, .int .i64 e])) H
    | .ok c => bif asks (c.shape.pts = []) then k (.ret (.tuple #[c.val none 0, .int .i64 0])) H
      else k (.ret (.tuple #[c.val (some ⟨H.size, 0, none⟩) c.shape.pts.length, .int .i64 0])) (H.push (ptB c.shape.pts true true))) else none := fun k => rfl
  have e1 : Nat.ble s.size 4611686018427387903 = true := by rw [Nat.ble_eq]; exact hs
  by_cases hp : c.shape.pts = []
  · refine ⟨none, 0, H, ⟨his, hf, by rw [hp]; rfl, by rw [hp]; rfl, fun _ => rfl, fun h => absurd rfl h⟩, .refl H, fun k => ?_⟩
    rw [e, e1, cond_true, hid_eq, h]
    simp only
    rw [asks_true hp, cond_true]
  · refine ⟨some ⟨H.size, 0, none⟩, c.shape.pts.length, H.push (ptB c.shape.pts true true), ⟨his, hf, ?_, rfl, fun h => (by cases h), fun _ => ?_⟩, .push _ _, fun k => ?_⟩
    · unfold rowC
      simp only
      rw [AH.get_push, if_pos rfl]; rfl
    · have h1 := pts_kind his hp
      have := his.kind
      omega
    · rw [e, e1, cond_true, hid_eq, h]
      simp only
      rw [asks_false hp, cond_false]
theorem readS_err {H : AH} {s : ByteArray} {e : Int} (hs : s.size ≤ 4611686018427387903) (h : rdCall s = .error e) (k : Out → AH → Res) : readS [.string s] H k = k (.ret (.tuple #[zC.val none 0, .int .i64 e])) H := by
  have e0 : readS [.string s] H k = bif Nat.ble s.size 4611686018427387903 then (match hid (rdCall s) with
    | .error e => k (.ret (.tuple #[zC.val none 0, .int .i64 e])) H
    | .ok c => bif asks (c.shape.pts = []) then k (.ret (.tuple #[c.val none 0, .int .i64 0])) H
      else k (.ret (.tuple #[c.val (some ⟨H.size, 0, none⟩) c.shape.pts.length, .int .i64 0])) (H.push (ptB c.shape.pts true true))) else none := rfl
  rw [e0, show Nat.ble s.size 4611686018427387903 = true by rw [Nat.ble_eq]; exact hs, cond_true, hid_eq, h]
theorem size_ints : ∀ n, Fk.size (fInts n) = 8 * n
  | 0 => rfl
  | n + 1 => by
    rw [fInts, Fk.size, size_ints n]
    show 8 + 8 * n = _
    omega
theorem encB_small {c : Cl} (his : IsCall c.kind.toNat c) (hf : Fit c) : 1 ≤ (encB c).size ∧ (encB c).size ≤ 1000 := by
  have ha := (acc_K his hf).1
  have hz : (encB c).size = 1 + (encW c.id ++ encK c.kind.toNat c).length := by
    show (encC c.kind.toNat c).length = _
    unfold encC
    rw [encO_be, List.length_append, be_len]
  have hr := his.rng
  have h8 := his.pts
  have : Fk.size (fmtK c.kind.toNat c.shape.pts.length) ≤ 900 := by
    have : c.kind.toNat = 1 ∨ c.kind.toNat = 2 ∨ c.kind.toNat = 3 ∨ c.kind.toNat = 4 ∨ c.kind.toNat = 5 ∨ c.kind.toNat = 6 ∨ c.kind.toNat = 7 ∨ c.kind.toNat = 8 ∨ c.kind.toNat = 9 ∨ c.kind.toNat = 10 := by omega
    rcases this with h | h | h | h | h | h | h | h | h | h <;> rw [h]
    · show Fk.size (.cnt :: (fSh c.shape.pts.length ++ (fPose ++ (fVec ++ (fNum ++ [.int, .byte 1]))))) ≤ 900
      rw [Fk.size, Fk.size_app, fSh, Fk.size_app, size_ints]
      have e1 : Fk.size (fPose ++ (fVec ++ (fNum ++ [.int, .byte 1]))) = 72 := rfl
      have e2 : Fk.size [.byte 255, .int, .int, .int, .parts 8 c.shape.pts.length] = 26 := rfl
      have e3 : Fk.n .cnt = 4 := rfl
      rw [e1, e2, e3]
      omega
    all_goals exact of_decide_eq_true rfl
  omega
/-- A string cut at a place. -/
theorem cut_size (s : ByteArray) {k : Nat} (h : k ≤ s.size) : (s.extract 0 k).size = k := by
  rw [ByteArray.size_extract]; omega
theorem cut_agree (s : ByteArray) (k : Nat) : Agree s (s.extract 0 k) k := by
  intro j hj
  unfold bt
  rw [ByteArray.data_extract, Array.toList_extract, List.getD_eq_getElem?_getD, List.getD_eq_getElem?_getD]
  simp only [List.extract_eq_take_drop, List.drop_zero, Nat.sub_zero]
  rw [List.getElem?_take, if_pos hj]
/-- Mod, where the modulus is positive. -/
noncomputable def modG : List Value → AH → (Out → AH → Res) → Res := fun args H k =>
  match args with
  | [.int .i64 a, .int .i64 m] => bif asks (0 < m ∧ m ≤ 4611686018427387903) then k (.ret (.int .i64 (a % m))) H else none
  | _ => none
theorem modG_ok : CallOK Try.prog (fun g args H k => if g = 39 then modG args H k else none) := by
  intro g args H k r hr
  refine modS_ok g args H k r ?_
  simp only at hr ⊢
  split at hr
  · rename_i hg
    rw [if_pos hg]
    unfold modG at hr
    split at hr
    · rename_i a m
      obtain ⟨hc, hr2⟩ := cond_some hr
      obtain ⟨h1, h2⟩ := asks_iff.1 hc
      obtain ⟨n, rfl⟩ : ∃ n : Nat, m = Int.ofNat (n + 1) := ⟨m.toNat - 1, by rw [Int.ofNat_eq_natCast]; omega⟩
      have e : pureS modSpec [.int .i64 a, .int .i64 (Int.ofNat (n + 1))] H k = bif Nat.ble n 4611686018427387903 then k (.ret (.int .i64 (Int.ofNat (modN a n)))) H else none := by
        unfold pureS
        show (match (bif Nat.ble n 4611686018427387903 then some (Value.int .i64 (Int.ofNat (modN a n))) else none) with | some v => bif true then k (.ret v) H else none | none => none) = _
        cases Nat.ble n 4611686018427387903 <;> rfl
      have h3 := Int.emod_nonneg a (b := ((n + 1 : Nat) : Int)) (by omega)
      have e2 : Int.ofNat (modN a n) = a % Int.ofNat (n + 1) := Int.toNat_of_nonneg h3
      rw [Int.ofNat_eq_natCast] at h2
      rw [e, show Nat.ble n 4611686018427387903 = true by rw [Nat.ble_eq]; omega, cond_true, e2]
      exact hr2
    · cases hr
  · cases hr
theorem modG_say {a m : Int} (h : 0 < m ∧ m ≤ 4611686018427387903) (H : AH) (k : Out → AH → Res) : modG [.int .i64 a, .int .i64 m] H k = k (.ret (.int .i64 (a % m))) H := by
  unfold modG
  simp only
  rw [asks_true h, cond_true]
end Go.RX
