/- ReadCall: what is written is read; no byte may be missing, and none be left. -/
import Derived.Test.YtnidbincddpaaaaW21
namespace Go.RX
open Go Go.Proofs Go.RowKit

/-- Bytes that are read by fields. -/
def Acc (fs : List Fk) (X : List UInt8) : Prop := X.length = Fk.size fs ∧ ∀ (s : ByteArray) (a : Nat), bs s a X.length = X → a + X.length ≤ s.size → ∃ l, decF s fs a = .ok l
theorem Acc.app {x y : List Fk} {X Y : List UInt8} (h : Acc x X) (k : Acc y Y) : Acc (x ++ y) (X ++ Y) := by
  refine ⟨by rw [List.length_append, Fk.size_app, h.1, k.1], fun s a hb hs => ?_⟩
  rw [List.length_append] at hb hs
  rw [bs_add] at hb
  obtain ⟨h1, h2⟩ := List.append_inj hb (bs_len _ _ _)
  obtain ⟨l, hl⟩ := h.2 s a h1 (by omega)
  obtain ⟨r, hr⟩ := k.2 s (a + X.length) h2 (by omega)
  exact ⟨l ++ r, decF_app hl (by rw [← h.1]; exact hr)⟩
theorem acc_nil : Acc [] [] := ⟨rfl, fun _ _ _ _ => ⟨[], rfl⟩⟩
theorem acc_one {f : Fk} {v : Nat} (h1 : v < 256 ^ f.n) (h2 : f.ok v = true) : Acc [f] (be f.n v) := by
  refine ⟨by rw [be_len, Fk.size, Fk.size]; rfl, fun s a hb hs => ?_⟩
  rw [be_len] at hb hs
  have := beN_of_bs h1 hb
  exact ⟨_, decF_step (r := []) hs (by rw [this]; exact h2) rfl⟩
theorem ltB_all {n m : Int} (h : ([!ltB n 0, bif true then !ltB m n else false] : List Bool).all id = true) : 0 ≤ n ∧ n ≤ m := by
  simp only [List.all_cons, List.all_nil, id, ltB_eq, cond_true, Bool.and_true, Bool.and_eq_true, Bool.not_eq_true', decide_eq_false_iff_not] at h
  omega
theorem acc_cnt {x : Int} (h : (cnt x).all id = true) : Acc [.cnt] (encW x) := by
  obtain ⟨h1, h2⟩ := ltB_all h
  obtain ⟨v, rfl⟩ : ∃ v : Nat, x = v := ⟨x.toNat, by omega⟩
  rw [encW_be (by omega)]
  exact acc_one (f := .cnt) (by show v < 4294967296; omega) (by show decide (v ≤ 2147483647) = true; rw [decide_eq_true_iff]; omega)
theorem acc_ver {x : Int} (h : (ver x).all id = true) : Acc [.ver] (encI x) := by
  obtain ⟨h1, h2⟩ := ltB_all h
  obtain ⟨v, rfl⟩ : ∃ v : Nat, x = v := ⟨x.toNat, by omega⟩
  rw [encI_be (v := v) (by rw [IntKind.wrap_u64]; omega)]
  exact acc_one (f := .ver) (by show v < 18446744073709551616; omega) (by show decide (v ≤ 1099511627776) = true; rw [decide_eq_true_iff]; omega)
theorem u64_nat (x : Int) : ∃ v : Nat, IntKind.u64.wrap x = (v : Int) ∧ v < 18446744073709551616 := by
  refine ⟨(x % 18446744073709551616).toNat, ?_, ?_⟩
  · rw [IntKind.wrap_u64]; omega
  · omega
theorem acc_int (x : Int) : Acc [.int] (encI x) := by
  obtain ⟨v, h1, h2⟩ := u64_nat x
  rw [encI_be h1]
  exact acc_one (f := .int) h2 rfl
theorem acc_flag (b : Bool) : Acc [.byte 1] (encF b) := by
  rw [encF_be]
  cases b
  · exact acc_one (f := .byte 1) (by decide) rfl
  · exact acc_one (f := .byte 1) (by decide) rfl
theorem acc_N {n : Nm} (h : okNm n) (hc : (numc n).all id = true) : Acc fNum (encN n) := by
  refine Acc.app (x := [.num]) (y := [.byte 1]) ?_ (acc_flag _)
  obtain ⟨v, h1, h2⟩ := u64_nat n.v
  rw [encI_be h1]
  refine acc_one (f := .num) h2 ?_
  show decide (v ≠ 9223372036854775808) = true
  rw [decide_eq_true_iff]
  rintro rfl
  have hc : n.v ≠ -9223372036854775808 := by
    simpa [numc] using hc
  have ho : -9223372036854775808 ≤ n.v ∧ n.v < 9223372036854775808 := h
  rw [IntKind.wrap_u64] at h1
  omega
theorem all_app {a b : List Bool} (h : (a ++ b).all id = true) : a.all id = true ∧ b.all id = true := by
  rw [List.all_append, Bool.and_eq_true] at h; exact h
theorem acc_V {v : Vc} (h : okVc v) (hc : (vecc v).all id = true) : Acc fVec (encV v) := (acc_N h.1 (all_app hc).1).app (acc_N h.2 (all_app hc).2)
theorem acc_P {p : Ps} (h : okPs p) (hc : (posec p).all id = true) : Acc fPose (encP p) :=
  (acc_V h.1 (all_app hc).1).app ((acc_N h.2.1 (all_app (all_app hc).2).1).app (acc_N h.2.2 (all_app (all_app hc).2).2))
theorem acc_S2 (p : Int × Int) : Acc [.int, .int] (encS2 p) := (acc_int p.1).app (acc_int p.2)
theorem acc_H {p : Int × Int} (h : (hanc p).all id = true) : Acc [.cnt, .cnt] (encH p) := (acc_cnt (all_app h).1).app (acc_cnt (all_app h).2)
theorem acc_Pts : ∀ l : List (Int × Int), Acc (fInts (2 * l.length)) (encPts l)
  | [] => acc_nil
  | p :: r => (acc_S2 p).app (acc_Pts r)
theorem acc_Sh {c : Shp} (h : OkSh c) : Acc (fSh c.pts.length) (encSh c) := by
  have hk := h.kind
  obtain ⟨v, hv⟩ : ∃ v : Nat, c.kind = v := ⟨c.kind.toNat, by unfold okB at hk; omega⟩
  have hl := h.len
  unfold okB at hk
  have e : encSh c = (encO c.kind ++ (encI c.r ++ (encI c.w ++ (encI c.h ++ encO c.pts.length)))) ++ encPts c.pts := by
    unfold encSh
    simp only [List.append_assoc]
  rw [e]
  refine Acc.app (x := [.byte 255] ++ ([.int] ++ ([.int] ++ ([.int] ++ [.parts 8 c.pts.length])))) ?_ (acc_Pts _)
  refine Acc.app ?_ ((acc_int _).app ((acc_int _).app ((acc_int _).app ?_)))
  · rw [hv, encO_be]
    exact acc_one (f := .byte 255) (by show v < 256; omega) (by show decide (v ≤ 255) = true; rw [decide_eq_true_iff]; omega)
  · rw [encO_be]
    exact acc_one (f := .parts 8 _) (by show c.pts.length < 256; omega) (by show decide (c.pts.length ≤ 8) = true; rw [decide_eq_true_iff]; exact hl)
theorem acc_K {kd : Nat} {c : Cl} (h : IsCall kd c) (f : Fit c) : Acc (fmtK kd c.shape.pts.length) (encW c.id ++ encK kd c) := by
  have hk := h.rng
  have hc := h.cnd
  unfold cndC at hc
  obtain ⟨hc0, hc⟩ := all_app hc
  have hid := acc_cnt hc0
  have : kd = 1 ∨ kd = 2 ∨ kd = 3 ∨ kd = 4 ∨ kd = 5 ∨ kd = 6 ∨ kd = 7 ∨ kd = 8 ∨ kd = 9 ∨ kd = 10 := by omega
  rcases this with rfl | rfl | rfl | rfl | rfl | rfl | rfl | rfl | rfl | rfl
  · obtain ⟨_, hc⟩ := all_app hc
    obtain ⟨h1, hc⟩ := all_app hc
    obtain ⟨h2, h3⟩ := all_app hc
    exact hid.app ((acc_Sh f.shape).app ((acc_P f.pose h1).app ((acc_V f.v h2).app ((acc_N f.w h3).app ((acc_int _).app (acc_flag _))))))
  · obtain ⟨h1, h2⟩ := all_app hc
    exact hid.app ((acc_H h1).app (acc_ver h2))
  · obtain ⟨h1, hc⟩ := all_app hc
    obtain ⟨h2, hc⟩ := all_app hc
    obtain ⟨h3, h4⟩ := all_app hc
    exact hid.app ((acc_H h1).app ((acc_ver h2).app ((acc_V f.pt h3).app (acc_V f.to h4))))
  · obtain ⟨h1, hc⟩ := all_app hc
    obtain ⟨h2, h3⟩ := all_app hc
    exact hid.app ((acc_H h1).app ((acc_ver h2).app (acc_V f.pt h3)))
  · obtain ⟨h1, h2⟩ := all_app hc
    exact hid.app ((acc_cnt h1).app (acc_V f.to h2))
  · exact hid.app (acc_cnt hc)
  · exact hid.app (acc_H hc)
  · exact hid.app ((acc_S2 _).app (acc_S2 _))
  · exact hid.app ((acc_S2 _).app (acc_S2 _))
  · exact hid.app acc_nil

/-- A string that begins with a call's bytes. -/
structure Begins (s : ByteArray) (c : Cl) : Prop where
  bytes : bs s 0 (encC c.kind.toNat c).length = encC c.kind.toNat c
  size : (encC c.kind.toNat c).length ≤ s.size
theorem begins_dec {s : ByteArray} {c : Cl} (his : IsCall c.kind.toNat c) (hf : Fit c) (h : Begins s c) :
    beN s 0 1 = c.kind.toNat ∧ ptOf s = c.shape.pts.length ∧ (∃ l, decF s (fmtOf s) 1 = .ok l) ∧ 1 + Fk.size (fmtOf s) = (encC c.kind.toNat c).length := by
  have hr := his.rng
  have ha := acc_K his hf
  have hlen : (encC c.kind.toNat c).length = 1 + (encW c.id ++ encK c.kind.toNat c).length := by
    unfold encC
    rw [encO_be, List.length_append, be_len]
  have hb := h.bytes
  rw [hlen, bs_add] at hb
  unfold encC at hb
  obtain ⟨h1, h2⟩ := List.append_inj hb (by rw [bs_len, encO_be, be_len])
  rw [encO_be] at h1
  have hk : beN s 0 1 = c.kind.toNat := beN_of_bs (by omega) h1
  have hpt : ptOf s = c.shape.pts.length := by
    unfold ptOf
    rw [hk]
    by_cases hk1 : c.kind.toNat = 1
    · have e2 : encW c.id ++ encK c.kind.toNat c = (encW c.id ++ (encO c.shape.kind ++ (encI c.shape.r ++ (encI c.shape.w ++ encI c.shape.h)))) ++ (be 1 c.shape.pts.length ++ (encPts c.shape.pts ++ (encP c.pose ++ (encV c.v ++ (encN c.w ++ (encI c.den ++ encF c.moves)))))) := by
        rw [hk1, ← encO_be]
        show encW c.id ++ (encSh c.shape ++ _) = _
        unfold encSh
        simp only [List.append_assoc]
      have e3 : (encW c.id ++ (encO c.shape.kind ++ (encI c.shape.r ++ (encI c.shape.w ++ encI c.shape.h)))).length = 29 := rfl
      rw [e2, List.length_append, e3, bs_add] at h2
      obtain ⟨_, h3⟩ := List.append_inj h2 (by rw [bs_len, e3])
      rw [List.length_append, be_len, bs_add] at h3
      obtain ⟨h4, _⟩ := List.append_inj h3 (by rw [bs_len, be_len])
      have h8 := hf.shape.len
      have h5 : beN s (0 + 1 + 29) 1 = c.shape.pts.length := beN_of_bs (by omega) h4
      have h5 : beN s 30 1 = c.shape.pts.length := h5
      rw [h5, if_pos ⟨hk1, h8⟩]
    · rw [if_neg (fun h => hk1 h.1)]
      have hc := his.form
      have : c.kind.toNat = 2 ∨ c.kind.toNat = 3 ∨ c.kind.toNat = 4 ∨ c.kind.toNat = 5 ∨ c.kind.toNat = 6 ∨ c.kind.toNat = 7 ∨ c.kind.toNat = 8 ∨ c.kind.toNat = 9 ∨ c.kind.toNat = 10 := by omega
      rcases this with h | h | h | h | h | h | h | h | h <;> (rw [h] at hc; rw [hc]; rfl)
  have hfm : fmtOf s = fmtK c.kind.toNat c.shape.pts.length := by unfold fmtOf; rw [hk, hpt]
  have hs := h.size
  refine ⟨hk, hpt, ?_, ?_⟩
  · rw [hfm]
    exact ha.2 s 1 h2 (by omega)
  · rw [hfm, hlen, ha.1]
theorem rdCall_begins {s : ByteArray} {c : Cl} (his : IsCall c.kind.toNat c) (hf : Fit c) (h : Begins s c) : rdCall s = if (encC c.kind.toNat c).length = s.size then .ok c else .error 6 := by
  obtain ⟨hk, hp, ⟨l, hl⟩, hz⟩ := begins_dec his hf h
  have hr := his.rng
  have h0 := h.size
  have key : rdCall s = if (encC c.kind.toNat c).length = s.size then .ok (mkL l (beN s 0 1) (ptOf s)) else .error 6 := by
    unfold rdCall
    rw [if_pos (by omega), if_pos (by rw [hk]; exact hr), hl]
    simp only
    rw [hz]
  rw [key]
  by_cases he : (encC c.kind.toNat c).length = s.size
  · rw [if_pos he] at key
    rw [if_pos he, if_pos he]
    obtain ⟨k1, k2, k3⟩ := rdCall_sound key
    have e : encB (mkL l (beN s 0 1) (ptOf s)) = encB c := by
      rw [k3]
      apply WideShapes.bytes_inj
      rw [← bs_whole, ← he, h.bytes]; rfl
    have e2 : encC (mkL l (beN s 0 1) (ptOf s)).kind.toNat (mkL l (beN s 0 1) (ptOf s)) = encC c.kind.toNat c := by
      have := congrArg (fun b : ByteArray => b.data.toList) e
      exact this
    rw [encC_inj k1 his k2 hf e2]
  · rw [if_neg he, if_neg he]
theorem rdCall_enc {c : Cl} (his : IsCall c.kind.toNat c) (hf : Fit c) : rdCall (encB c) = .ok c := by
  have hz : (encB c).size = (encC c.kind.toNat c).length := rfl
  rw [rdCall_begins his hf ⟨by rw [← hz, bs_whole]; rfl, Nat.le_of_eq hz.symm⟩, if_pos hz.symm]
theorem rdCall_more {c : Cl} (his : IsCall c.kind.toNat c) (hf : Fit c) {t : ByteArray} (ht : 0 < t.size) : rdCall (encB c ++ t) = .error 6 := by
  have hz : (encB c ++ t).size = (encC c.kind.toNat c).length + t.size := by
    rw [ByteArray.size_append]; rfl
  rw [rdCall_begins his hf ⟨?_, by omega⟩, if_neg (by omega)]
  rw [bs_all _ _ (by omega)]
  have : (encB c ++ t).data.toList = encC c.kind.toNat c ++ t.data.toList := by
    rw [ByteArray.data_append, Array.toList_append]; rfl
  rw [this, List.take_left]
/-- A call of which bytes are missing. -/
theorem rdCall_cut {c : Cl} (his : IsCall c.kind.toNat c) (hf : Fit c) {t : ByteArray} (hlt : t.size < (encB c).size) (ha : Agree (encB c) t t.size) : rdCall t = .error 7 := by
  have hz : (encB c).size = (encC c.kind.toNat c).length := rfl
  have hB : Begins (encB c) c := ⟨by rw [← hz, bs_whole]; rfl, Nat.le_of_eq hz.symm⟩
  obtain ⟨hk, hp, ⟨l, hl⟩, hsz⟩ := begins_dec his hf hB
  unfold rdCall
  by_cases h1 : 1 ≤ t.size
  · have hr := his.rng
    have hkt : beN t 0 1 = c.kind.toNat := by rw [← hk]; exact (beN_agree (ha.mono (by omega))).symm
    rw [if_pos h1, if_pos (by rw [hkt]; exact hr)]
    have hd : decF t (fmtOf t) 1 = .error 7 := by
      by_cases h2 : ptOf t = ptOf (encB c)
      · have : fmtOf t = fmtOf (encB c) := by unfold fmtOf; rw [hkt, hk, h2]
        rw [this]
        exact decF_short hl h1 (by omega) ha
      · have hk1 : c.kind.toNat = 1 := by
          by_cases h : c.kind.toNat = 1
          · exact h
          · exfalso
            apply h2
            unfold ptOf
            rw [hkt, hk, if_neg (fun h3 => h h3.1), if_neg (fun h3 => h h3.1)]
        have hsm : t.size < 31 := by
          apply Nat.lt_of_not_le
          intro h3
          apply h2
          unfold ptOf
          rw [hkt, hk, beN_agree (s := encB c) (t := t) (a := 30) (n := 1) (ha.mono h3)]
        have hf1 : ∀ n, fmtK 1 n = [.cnt, .byte 255, .int, .int, .int, .parts 8 n] ++ (fInts (2 * n) ++ (fPose ++ (fVec ++ (fNum ++ [.int, .byte 1])))) := fun n => rfl
        unfold fmtOf at hl ⊢
        rw [hk, hk1, hf1] at hl
        rw [hkt, hk1, hf1]
        refine decF_app_err ?_
        have hl2 : ∃ q, decF (encB c) [.cnt, .byte 255, .int, .int, .int, .parts 8 (ptOf t)] 1 = .ok q := by
          obtain ⟨l1, _, a1, a2, hl⟩ := decF_cons hl
          obtain ⟨l2, _, b1, b2, hl⟩ := decF_cons hl
          obtain ⟨l3, _, c1, c2, hl⟩ := decF_cons hl
          obtain ⟨l4, _, d1, d2, hl⟩ := decF_cons hl
          obtain ⟨l5, _, e1, e2, hl⟩ := decF_cons hl
          obtain ⟨l6, _, f1, f2, _⟩ := decF_cons hl
          exact ⟨_, decF_step a1 a2 (decF_step b1 b2 (decF_step c1 c2 (decF_step d1 d2 (decF_step e1 e2 (decF_step (f := .parts 8 (ptOf t)) f1 f2 rfl)))))⟩
        obtain ⟨q, hq⟩ := hl2
        exact decF_short hq h1 hsm ha
    rw [hd]
  · rw [if_neg h1]
end Go.RX
