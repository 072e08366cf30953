/- WireApart: two calls are the same exactly if their bytes are. -/
import Derived.Test.YtnidbincddpaaaaW14
import Derived.Test.YtnidbincddpaaaaE20
import Derived.Carry
import Derived.Test.YtnidbincddpaaaaRows
namespace Go.RX
open Go Go.Proofs Go.RowKit
set_option maxRecDepth 100000

noncomputable def tA : Tbl := tblOf [(23, callOfS), (24, callS), (25, sameS), (20, pureS awakeS)]
theorem tA_ok : TblOK Try.prog tA := tblOf_ok fun x hx => by
  simp only [List.mem_cons, List.not_mem_nil, or_false] at hx
  rcases hx with rfl | rfl | rfl | rfl
  · exact callOfS_ok
  · exact callS_ok
  · exact sameS_ok
  · exact awakeS_ok
/-- Goes on with what was returned. -/
def onRet (k : Value → AH → Res) : Out → AH → Res := fun o H => match o with | .ret v => k v H | .pan _ => none
def onStr (k : ByteArray → Int → AH → Res) : Out → AH → Res := fun o H => match o with | .ret (.tuple ⟨[.string s, .int .i64 e]⟩) => k s e H | _ => none
def onB (k : Bool → AH → Res) : Out → AH → Res := fun o H => match o with | .ret (.bool b) => k b H | _ => none
noncomputable def apSpec (x y : Int) (p q : Value) (H : AH) : Res :=
  callOfS [.int .i64 x, p] H (onRet fun c H => callOfS [.int .i64 y, q] H (onRet fun d H =>
    callS [c] H (onStr fun s e H => callS [d] H (onStr fun t f H =>
      bif e == 0 then (bif f == 0 then sameS [c, d] H (onB fun b H => bif b == (s.toList == t.toList) then
        sameS [d, c] H (onB fun b _ => bif (bif true then b == (s.toList == t.toList) else false) then some (.ret (.bool true), .nil) else none) else none) else none) else none))))
theorem apart_nest (x y : Int) (pa pb : Option Addr) (na ca nb cb : Nat) (b0 b1 : Blk) :
    run Try.prog tA 100 30 5 [.int .i64 x, .int .i64 y, .slice pa na ca, .slice pb nb cb] (AH.of [b0, b1]) tt = apSpec x y (.slice pa na ca) (.slice pb nb cb) (AH.of [b0, b1]) := by kernel_rfl
theorem sameB_sym (a b : Cl) : sameB b a = sameB a b := by
  rw [Bool.eq_iff_iff, sameB_iff, sameB_iff]; exact eq_comm
theorem sameB_enc {a b : Cl} (ha : IsCall a.kind.toNat a) (hb : IsCall b.kind.toNat b) (fa : Fit a) (fb : Fit b) : sameB a b = ((encB a).toList == (encB b).toList) := by
  rw [Bool.eq_iff_iff, sameB_iff, beq_iff_eq, ByteArray.toList_eq, ByteArray.toList_eq]
  constructor
  · rintro rfl; rfl
  · exact fun h => encC_inj ha hb fa fb h
theorem apart_true {x y : Int} {pa pb : Option Addr} {na ca nb cb : Nat} {b0 b1 : Blk} {La Lb : List Value} (ha : listC (AH.of [b0, b1]) pa na ca = some La) (hb : listC (AH.of [b0, b1]) pb nb cb = some Lb) (hLa : Nums La) (hLb : Nums Lb) :
    run Try.prog tA 100 30 5 [.int .i64 x, .int .i64 y, .slice pa na ca, .slice pb nb cb] (AH.of [b0, b1]) tt = some (.ret (.bool true), .nil) := by
  rw [apart_nest]
  unfold apSpec
  obtain ⟨c, p, n, H1, _, hc, hm1, e1⟩ := callOfS_say ha hLa x
  rw [e1, onRet]
  obtain ⟨d, q, m, H2, _, hd, hm2, e2⟩ := callOfS_say (hm1.listC hb) hLb y
  rw [e2, onRet]
  have hc2 := hc.more hm2
  rw [callS_say hc2, onStr]
  rw [callS_say hd, onStr]
  rw [show ((0 : Int) == 0) = true from rfl, cond_true, cond_true, sameS_say hc2 hd, onB]
  rw [sameB_enc hc2.is hd.is hc2.fit hd.fit, beq_self_eq_true, cond_true, sameS_say hd hc2, onB]
  rw [sameB_sym, sameB_enc hc2.is hd.is hc2.fit hd.fit, beq_self_eq_true, cond_true, cond_true]
end Go.RX

namespace Go.Proofs.Ytnidbincddpaaaa
open Go Go.RX Go.RowKit Go.WideShapes Go.ChangeShapes Go.ChangeAt
set_option maxRecDepth 100000

theorem Nums_of {L : List Value} (h : ∀ u ∈ L, ∃ n : Int, u = .int .i64 n ∧ okI n) : Nums L := by
  intro i
  unfold nthV nth
  rw [List.getD_eq_getElem?_getD, List.getElem?_map]
  cases hi : L[i]? with
  | none => exact ⟨by decide, by decide⟩
  | some u =>
    obtain ⟨n, rfl, hn⟩ := h u (List.mem_of_getElem? hi)
    exact hn
theorem i64_cell {H : Type} {enc : TypeId × Value → H} {W : World} (v : Value) (n : Nat) (x : DataW H × List MemPlace) (h : DataW.trod enc Try.prog W 0 (fun _ => true) true n 2 [v] = some x) : scS 0 v = true ∧ ∃ m : Int, v = .int .i64 m ∧ okI m := by
  obtain ⟨m, h1, _, h2⟩ := DataW.trod_int Try.underlying2 h
  injection h1 with h1 _
  subst h1
  refine ⟨rfl, m, rfl, ?_⟩
  unfold Lit.wf at h2
  have h3 : IntKind.i64.min ≤ m ∧ m ≤ IntKind.i64.max := by simpa using h2
  have e1 : IntKind.i64.min = -9223372036854775808 := by decide
  have e2 : IntKind.i64.max = 9223372036854775807 := by decide
  unfold okI
  omega
theorem form_listC {H : AH} {i : Nat} {p : Option Addr} {n c : Nat} {b : Blk} {L : List Value} (h : SlForm 2 i p n c b L) (hb : H.get i = some b) (hL : ∀ u ∈ L, ∃ n : Int, u = .int .i64 n ∧ okI n) : listC H p n c = some L := by
  rcases h with ⟨rfl, rfl, rfl, rfl, rfl⟩ | ⟨rfl, rfl, rfl, rfl⟩ | ⟨rfl, rfl, rfl, rfl, rfl⟩
  · rfl
  · unfold listC
    simp only
    rw [hb]
    have hs : srcOK L L.length L.length = true := by
      unfold srcOK
      simp only [Bool.and_eq_true, Nat.beq_eq, true_and, List.all_eq_true]
      intro u hu
      obtain ⟨m, rfl, _⟩ := hL u hu
      rfl
    show (bif Nat.beq 2 2 && (Nat.beq 0 0 && srcOK L L.length L.length) then some L else none) = _
    rw [hs]; rfl
  · unfold listC
    simp only
    rw [hb]; rfl

theorem apart_own : ownKnob Try.prog.godebug = none := by kernel_rfl
theorem apart_laidOut : laidOutB Try.prog = true := by kernel_rfl
theorem wireApart_lifted (os : Os) (started : os.Started) (H : Type) (enc : TypeId × Value → H) :
    ReturnsInHanded {} Try.checked os 5 .any (Rows.wireApartSpec.pre6 enc Try.prog Try.f5 Rows.wireApartRow.domain false) (Rows.wireApartSpec.post enc Try.prog Try.f5 false true false false) := by
  refine returnsInHanded_of_change (C := Try.checked) apart_own started (by kernel_rfl) Try.func5
    (ChangeSpec.witness6 (enc := enc) (C := Try.checked) false ⟨#[], #[.int .i64 0, .int .i64 0, .slice none 0 0, .slice none 0 0], []⟩ 8 (by kernel_rfl) (by kernel_rfl) (by kernel_rfl) (by kernel_rfl)) ?_
  intro W base args ds gs before hval0 hW hcnd _
  have hval : ∀ (j : Nat) t v, Try.f5.params[j]? = some t → args[j]? = some v → Value.okWide Try.prog W .any base t v := hval0
  have hW' := hW
  obtain ⟨p, q, hA0, hV, rfl, hfz, hnd⟩ := hW
  have hA : DataW.TrodAll enc Try.prog W 0 (fun _ => true) true Try.f5.params.toList args.toList ds p := hA0
  rw [Try.params5] at hA hval
  obtain ⟨v0, v1, v2, v3, d0, d1, d2, d3, p0, p1, p2, p3, rfl, rfl, rfl, h0, h1, h2, h3⟩ := trodAll_four hA
  obtain ⟨x, rfl, rfl, rfl, wx⟩ := open_int Try.underlying3 (hval 0 3 v0 rfl rfl) h0
  obtain ⟨y, rfl, rfl, rfl, wy⟩ := open_int Try.underlying3 (hval 1 3 v1 rfl rfl) h1
  obtain ⟨a2, n2, c2, rfl⟩ := okWide_slice Try.underlying30 (hval 2 30 v2 rfl rfl)
  obtain ⟨a3, n3, c3, rfl⟩ := okWide_slice Try.underlying30 (hval 3 30 v3 rfl rfl)
  obtain ⟨pa, na, ca, b0, l0, La, fa, sa, oa, _, ra⟩ := slice_in Try.underlying30 (by kernel_rfl) i64_cell h2 rfl 0
  obtain ⟨pb, nb, cb, b1, l1, Lb, fb, sb, ob, _, rb⟩ := slice_in Try.underlying30 (by kernel_rfl) i64_cell h3 rfl 1
  have hrun := apart_true (x := x) (y := y) (form_listC (H := AH.of [b0, b1]) fa (by rw [AH.get_of]; rfl) oa) (form_listC (H := AH.of [b0, b1]) fb (by rw [AH.get_of]; rfl) ob) (Nums_of oa) (Nums_of ob)
  have hc := calls_true try_num try_mix tA_ok hrun (rel_stands (P := Try.prog) (W := W) (fun _ => False) [(b0, l0), (b1, l1)] (by
    intro z hz
    simp only [List.mem_cons, List.not_mem_nil, or_false] at hz
    rcases hz with rfl | rfl
    · exact sa
    · exact sb)) (by
    intro v hv
    simp only [List.mem_cons, List.not_mem_nil, or_false] at hv
    rcases hv with rfl | rfl | rfl | rfl
    · rfl
    · rfl
    · exact fa.sc (by rw [AH.size_of]; simp)
    · exact fb.sc (by rw [AH.size_of]; simp))
  simp only [List.map_cons, List.map_nil] at hc
  rw [ra _ rfl, rb _ rfl] at hc
  exact hc.mono fun e W' ⟨he, hb⟩ => ⟨_, he, law_post (tb := 4) apart_laidOut (by kernel_rfl) rfl Try.underlying4 rfl rfl hW' hb⟩

theorem wireApart_holds : Rows.WireApartSaid :=
  OpenClaim.holds_of_wide 5 Try.f5 rfl rfl rfl rfl rfl rfl rfl ⟨rfl, rfl, rfl, rfl, rfl⟩ rfl rfl rfl rfl rfl (by kernel_rfl) Try.func5 (by kernel_rfl)
    (of_decide_eq_true (by kernel_rfl)) (by unfold Func.isWrapper; first | (rw [if_pos (by decide +kernel)]; kernel_rfl) | (rw [if_neg (by decide +kernel)]; exact ⟨rfl, rfl⟩))
    (fun os started H enc _ => wireApart_lifted os started H enc)
#print axioms wireApart_holds
end Go.Proofs.Ytnidbincddpaaaa
