/- WireBack: a call is read from its bytes; no byte may be missing, and none be left. -/
import Derived.Test.YtnidbincddpaaaaW23
namespace Go.RX
open Go Go.Proofs Go.RowKit
set_option maxRecDepth 100000

noncomputable def tBk : Tbl := tblOf [(23, callOfS), (24, callS), (38, readS), (25, sameS), (39, modG), (20, pureS awakeS)]
theorem tBk_ok : TblOK Try.prog tBk := tblOf_ok fun x hx => by
  simp only [List.mem_cons, List.not_mem_nil, or_false] at hx
  rcases hx with rfl | rfl | rfl | rfl | rfl | rfl
  · exact callOfS_ok
  · exact callS_ok
  · exact readS_ok
  · exact sameS_ok
  · exact modG_ok
  · exact awakeS_ok
def oneB (z : Int) : ByteArray := ⟨⟨[byteVal (.int .u8 z)]⟩⟩
def max1 (n : Int) : Int := bif ltB 1 n then n else 1
noncomputable def bkTail (s : ByteArray) (y z : Int) (H : AH) : Res :=
  bif Nat.ble (Nat.add s.size (oneB z).size) 9223372036854775807 then readS [.string (s ++ oneB z)] H (onCE fun _ f H =>
    modG [.int .i64 y, .int .i64 (max1 s.size)] H (fun o H => match o with
      | .ret (.int .i64 c) => bif bnd (some (.int .i64 c)) s.size then readS [.string (s.extract 0 c.toNat)] H (onCE fun _ g _ =>
          bif f == 6 then (bif (bif true then g == 7 else false) then some (.ret (.bool true), .nil) else none) else none) else none
      | _ => none)) else none
noncomputable def bkSpec (x y z : Int) (p : Value) (H : AH) : Res :=
  callOfS [.int .i64 x, p] H (onRet fun c H => callS [c] (H.push dead) (onStr fun s e H => bif e != 0 then none else callS [c] H (onStr fun _ e2 H => bif e2 != 0 then none else
    readS [.string s] (H.push dead) (onCE fun d f H => callS [d] (H.push dead) (onStr fun t g H => bif f != 0 then none else sameS [c, d] H (onB fun b H => bif !b then none else bif g != 0 then none else bif !(t.toList == s.toList) then none else
      bkTail s y z H))))))
theorem back_nest (x y z : Int) (p : Option Addr) (n c : Nat) (b0 : Blk) :
    run Try.prog tBk 100 30 8 [.int .i64 x, .slice p n c, .int .i64 y, .int .u8 z] (AH.of [b0]) tt = bkSpec x y z (.slice p n c) (AH.of [b0]) := by kernel_rfl
theorem back_true {x y z : Int} {p : Option Addr} {n c : Nat} {b0 : Blk} {L : List Value} (hl : listC (AH.of [b0]) p n c = some L) (hL : Nums L) :
    run Try.prog tBk 100 30 8 [.int .i64 x, .slice p n c, .int .i64 y, .int .u8 z] (AH.of [b0]) tt = some (.ret (.bool true), .nil) := by
  rw [back_nest]
  unfold bkSpec
  obtain ⟨a, q, m, H1, _, hc, _, e1⟩ := callOfS_say hl hL x
  have hc1 := hc.more (More.push H1 dead)
  have hc2 := hc1.more (More.push (H1.push dead) dead)
  have hz : ((0 : Int) != 0) = false := rfl
  rw [e1, onRet, callS_say hc1, onStr, hz, cond_false, callS_say hc1, onStr, hz, cond_false]
  obtain ⟨hs1, hs2⟩ := encB_small hc.is hc.fit
  obtain ⟨q2, m2, H2, hd, hm2, e2⟩ := readS_say (H := (H1.push dead).push dead) (by omega) (rdCall_enc hc.is hc.fit)
  have hd1 := hd.more (More.push H2 dead)
  have hc3 := hc2.more (hm2.trans (More.push H2 dead))
  rw [e2, onCE, callS_say hd1, onStr, hz, cond_false, sameS_say hc3 hd1, onB, show sameB a a = true from sameB_iff.2 rfl, beq_self_eq_true]
  simp only [Bool.not_true, cond_false]
  unfold bkTail
  have ho : (oneB z).size = 1 := rfl
  rw [show Nat.ble (Nat.add (encB a).size (oneB z).size) 9223372036854775807 = true by rw [Nat.ble_eq, ho]; show (encB a).size + 1 ≤ _; omega, cond_true]
  rw [readS_err (by rw [ByteArray.size_append, ho]; omega) (rdCall_more hc.is hc.fit (by rw [ho]; omega)), onCE]
  have hm : max1 ((encB a).size : Int) = (encB a).size := by
    unfold max1
    rw [ltB_eq]
    by_cases h : (1 : Int) < (encB a).size
    · rw [decide_eq_true h]; rfl
    · rw [decide_eq_false h, cond_false]; omega
  rw [hm, modG_say ⟨by omega, by omega⟩]
  simp only
  have h1 := Int.emod_nonneg y (b := ((encB a).size : Int)) (by omega)
  have h2 := Int.emod_lt_of_pos y (b := ((encB a).size : Int)) (by omega)
  have hb : bnd (some (.int .i64 (y % ((encB a).size : Int)))) (encB a).size = true := by
    unfold bnd
    simp only [ltB_eq, Bool.and_eq_true, Bool.not_eq_true', decide_eq_false_iff_not]
    omega
  have hk : (y % ((encB a).size : Int)).toNat < (encB a).size := by omega
  have hcs := cut_size (encB a) (Nat.le_of_lt hk)
  rw [hb, cond_true, readS_err (by rw [hcs]; omega) (rdCall_cut hc.is hc.fit (by rw [hcs]; exact hk) (by rw [hcs]; exact cut_agree _ _)), onCE]
  rfl
end Go.RX

namespace Go.Proofs.Ytnidbincddpaaaa
open Go Go.RX Go.RowKit Go.WideShapes Go.ChangeShapes Go.ChangeAt
set_option maxRecDepth 100000

theorem back_own : ownKnob Try.prog.godebug = none := by kernel_rfl
theorem back_laidOut : laidOutB Try.prog = true := by kernel_rfl
theorem wireBack_lifted (os : Os) (started : os.Started) (H : Type) (enc : TypeId × Value → H) :
    ReturnsInHanded {} Try.checked os 8 .any (Rows.wireBackSpec.pre6 enc Try.prog Try.f8 Rows.wireBackRow.domain false) (Rows.wireBackSpec.post enc Try.prog Try.f8 false true false false) := by
  refine returnsInHanded_of_change (C := Try.checked) back_own started (by kernel_rfl) Try.func8
    (ChangeSpec.witness6 (enc := enc) (C := Try.checked) false ⟨#[], #[.int .i64 0, .slice none 0 0, .int .i64 0, .int .u8 0], []⟩ 8 (by kernel_rfl) (by kernel_rfl) (by kernel_rfl) (by kernel_rfl)) ?_
  intro W base args ds gs before hval0 hW hcnd _
  have hval : ∀ (j : Nat) t v, Try.f8.params[j]? = some t → args[j]? = some v → Value.okWide Try.prog W .any base t v := hval0
  have hW' := hW
  obtain ⟨p, q, hA0, hV, rfl, hfz, hnd⟩ := hW
  have hA : DataW.TrodAll enc Try.prog W 0 (fun _ => true) true Try.f8.params.toList args.toList ds p := hA0
  rw [Try.params8] at hA hval
  obtain ⟨v0, v1, v2, v3, d0, d1, d2, d3, p0, p1, p2, p3, rfl, rfl, rfl, h0, h1, h2, h3⟩ := trodAll_four hA
  obtain ⟨x, rfl, rfl, rfl, wx⟩ := open_int Try.underlying3 (hval 0 3 v0 rfl rfl) h0
  obtain ⟨a1, n1, c1, rfl⟩ := okWide_slice Try.underlying30 (hval 1 30 v1 rfl rfl)
  obtain ⟨y, rfl, rfl, rfl, wy⟩ := open_int Try.underlying3 (hval 2 3 v2 rfl rfl) h2
  obtain ⟨z, rfl, rfl, rfl, wz⟩ := open_int Try.underlying5 (hval 3 5 v3 rfl rfl) h3
  obtain ⟨pa, na, ca, b0, l0, La, fa, sa, oa, _, ra⟩ := slice_in Try.underlying30 (by kernel_rfl) i64_cell h1 rfl 0
  have hrun := back_true (x := x) (y := y) (z := z) (form_listC (H := AH.of [b0]) fa (by rw [AH.get_of]; rfl) oa) (Nums_of oa)
  have hc := calls_true try_num try_mix tBk_ok hrun (rel_stands (P := Try.prog) (W := W) (fun _ => False) [(b0, l0)] (by
    intro z hz
    rw [List.mem_singleton] at hz
    subst hz
    exact sa)) (by
    intro v hv
    simp only [List.mem_cons, List.not_mem_nil, or_false] at hv
    rcases hv with rfl | rfl | rfl | rfl
    · rfl
    · exact fa.sc (by rw [AH.size_of]; simp)
    · rfl
    · rfl)
  simp only [List.map_cons, List.map_nil] at hc
  rw [ra _ rfl] at hc
  exact hc.mono fun e W' ⟨he, hb⟩ => ⟨_, he, law_post (tb := 4) back_laidOut (by kernel_rfl) rfl Try.underlying4 rfl rfl hW' hb⟩

theorem wireBack_holds : Rows.WireBackSaid :=
  OpenClaim.holds_of_wide 8 Try.f8 rfl rfl rfl rfl rfl rfl rfl ⟨rfl, rfl, rfl, rfl, rfl⟩ rfl rfl rfl rfl rfl (by kernel_rfl) Try.func8 (by kernel_rfl)
    (of_decide_eq_true (by kernel_rfl)) (by unfold Func.isWrapper; first | (rw [if_pos (by decide +kernel)]; kernel_rfl) | (rw [if_neg (by decide +kernel)]; exact ⟨rfl, rfl⟩))
    (fun os started H enc _ => wireBack_lifted os started H enc)
#print axioms wireBack_holds
end Go.Proofs.Ytnidbincddpaaaa
