/- Different calls have different bytes. -/
import Derived.Test.YtnidbincddpaaaaW11
namespace Go.RX
open Go Go.Proofs Go.RowKit

/-- What is written is read off the front. -/
def PC {α : Type} (enc : α → List UInt8) (ok : α → Prop) : Prop := ∀ a b r s, ok a → ok b → enc a ++ r = enc b ++ s → a = b ∧ r = s
theorem by8_eq {x y : Int} {k : Nat} (h : by8 x k = by8 y k) : x.fdiv (2 ^ k) % 256 = y.fdiv (2 ^ k) % 256 := by
  unfold by8 byteVal at h
  simp only [IntKind.wrap_u8] at h
  have h1 := Int.emod_nonneg (x.fdiv (2 ^ k)) (b := 256) (by omega)
  have h2 := Int.emod_lt_of_pos (x.fdiv (2 ^ k)) (b := 256) (by omega)
  have h3 := Int.emod_nonneg (y.fdiv (2 ^ k)) (b := 256) (by omega)
  have h4 := Int.emod_lt_of_pos (y.fdiv (2 ^ k)) (b := 256) (by omega)
  have h5 := congrArg UInt8.toNat h
  rw [UInt8.toNat_ofNat', UInt8.toNat_ofNat'] at h5
  omega
def okI (n : Int) : Prop := -9223372036854775808 ≤ n ∧ n < 9223372036854775808
def okW (n : Int) : Prop := 0 ≤ n ∧ n < 4294967296
theorem encW_pc : PC encW okW := by
  intro a b r s ha hb h
  unfold encW at h
  simp only [List.cons_append, List.nil_append, List.cons.injEq] at h
  obtain ⟨h1, h2, h3, h4, h5⟩ := h
  have h1 := by8_eq h1
  have h2 := by8_eq h2
  have h3 := by8_eq h3
  have h4 := by8_eq h4
  refine ⟨?_, h5⟩
  unfold okW at ha hb
  simp only [IntKind.wrap_u64, IntKind.wrap_u32] at h1 h2 h3 h4
  have ea : a % 4294967296 % 18446744073709551616 = a := by omega
  have eb : b % 4294967296 % 18446744073709551616 = b := by omega
  rw [ea, eb] at h1 h2 h3 h4
  simp only [Int.fdiv_eq_ediv_of_nonneg _ (show (0 : Int) ≤ 2 ^ 24 by decide), Int.fdiv_eq_ediv_of_nonneg _ (show (0 : Int) ≤ 2 ^ 16 by decide), Int.fdiv_eq_ediv_of_nonneg _ (show (0 : Int) ≤ 2 ^ 8 by decide), Int.fdiv_eq_ediv_of_nonneg _ (show (0 : Int) ≤ 2 ^ 0 by decide)] at h1 h2 h3 h4
  omega
theorem encI_pc : PC encI okI := by
  intro a b r s ha hb h
  unfold encI at h
  simp only [List.cons_append, List.nil_append, List.cons.injEq] at h
  obtain ⟨h1, h2, h3, h4, h5, h6, h7, h8, h9⟩ := h
  have h1 := by8_eq h1
  have h2 := by8_eq h2
  have h3 := by8_eq h3
  have h4 := by8_eq h4
  have h5 := by8_eq h5
  have h6 := by8_eq h6
  have h7 := by8_eq h7
  have h8 := by8_eq h8
  refine ⟨?_, h9⟩
  unfold okI at ha hb
  simp only [IntKind.wrap_u64] at h1 h2 h3 h4 h5 h6 h7 h8
  simp only [Int.fdiv_eq_ediv_of_nonneg _ (show (0 : Int) ≤ 2 ^ 56 by decide), Int.fdiv_eq_ediv_of_nonneg _ (show (0 : Int) ≤ 2 ^ 48 by decide), Int.fdiv_eq_ediv_of_nonneg _ (show (0 : Int) ≤ 2 ^ 40 by decide), Int.fdiv_eq_ediv_of_nonneg _ (show (0 : Int) ≤ 2 ^ 32 by decide), Int.fdiv_eq_ediv_of_nonneg _ (show (0 : Int) ≤ 2 ^ 24 by decide), Int.fdiv_eq_ediv_of_nonneg _ (show (0 : Int) ≤ 2 ^ 16 by decide), Int.fdiv_eq_ediv_of_nonneg _ (show (0 : Int) ≤ 2 ^ 8 by decide), Int.fdiv_eq_ediv_of_nonneg _ (show (0 : Int) ≤ 2 ^ 0 by decide)] at h1 h2 h3 h4 h5 h6 h7 h8
  have e : a % 18446744073709551616 = b % 18446744073709551616 := by
    have ha1 := Int.emod_nonneg a (b := 18446744073709551616) (by omega)
    have ha2 := Int.emod_lt_of_pos a (b := 18446744073709551616) (by omega)
    have hb1 := Int.emod_nonneg b (b := 18446744073709551616) (by omega)
    have hb2 := Int.emod_lt_of_pos b (b := 18446744073709551616) (by omega)
    generalize a % 18446744073709551616 = x at *
    generalize b % 18446744073709551616 = y at *
    omega
  omega
def okB (n : Int) : Prop := 0 ≤ n ∧ n < 256
theorem encO_pc : PC encO okB := by
  intro a b r s ha hb h
  unfold encO at h
  simp only [List.cons_append, List.nil_append, List.cons.injEq] at h
  obtain ⟨h1, h2⟩ := h
  refine ⟨?_, h2⟩
  unfold byteVal at h1
  simp only [IntKind.wrap_u8] at h1
  have h5 := congrArg UInt8.toNat h1
  rw [UInt8.toNat_ofNat', UInt8.toNat_ofNat'] at h5
  unfold okB at ha hb
  omega
theorem encF_pc : PC encF (fun _ => True) := by
  intro a b r s _ _ h
  cases a <;> cases b
  · exact ⟨rfl, List.append_cancel_left h⟩
  · injection h with h1 _; exact absurd h1 (by decide)
  · injection h with h1 _; exact absurd h1 (by decide)
  · exact ⟨rfl, List.append_cancel_left h⟩

def okNm (n : Nm) : Prop := okI n.v
theorem encN_pc : PC encN okNm := by
  rintro ⟨a1, a2⟩ ⟨b1, b2⟩ r s ha hb h
  unfold encN at h
  rw [List.append_assoc, List.append_assoc] at h
  obtain ⟨h1, h⟩ := encI_pc _ _ _ _ ha hb h
  obtain ⟨h2, h⟩ := encF_pc _ _ _ _ trivial trivial h
  exact ⟨by cases h1; cases h2; rfl, h⟩
def okVc (v : Vc) : Prop := okNm v.x ∧ okNm v.y
theorem encV_pc : PC encV okVc := by
  rintro ⟨a1, a2⟩ ⟨b1, b2⟩ r s ha hb h
  unfold encV at h
  rw [List.append_assoc, List.append_assoc] at h
  obtain ⟨h1, h⟩ := encN_pc _ _ _ _ ha.1 hb.1 h
  obtain ⟨h2, h⟩ := encN_pc _ _ _ _ ha.2 hb.2 h
  exact ⟨by cases h1; cases h2; rfl, h⟩
def okPs (p : Ps) : Prop := okVc p.p ∧ okNm p.c ∧ okNm p.s
theorem encP_pc : PC encP okPs := by
  rintro ⟨a1, a2, a3⟩ ⟨b1, b2, b3⟩ r s ha hb h
  unfold encP at h
  simp only [List.append_assoc] at h
  obtain ⟨h1, h⟩ := encV_pc _ _ _ _ ha.1 hb.1 h
  obtain ⟨h2, h⟩ := encN_pc _ _ _ _ ha.2.1 hb.2.1 h
  obtain ⟨h3, h⟩ := encN_pc _ _ _ _ ha.2.2 hb.2.2 h
  exact ⟨by cases h1; cases h2; cases h3; rfl, h⟩
def okS2 (p : Int × Int) : Prop := okI p.1 ∧ okI p.2
theorem encS2_pc : PC encS2 okS2 := by
  rintro ⟨a1, a2⟩ ⟨b1, b2⟩ r s ha hb h
  unfold encS2 at h
  simp only [List.append_assoc] at h
  obtain ⟨h1, h⟩ := encI_pc _ _ _ _ ha.1 hb.1 h
  obtain ⟨h2, h⟩ := encI_pc _ _ _ _ ha.2 hb.2 h
  exact ⟨by cases h1; cases h2; rfl, h⟩
def okH2 (p : Int × Int) : Prop := okW p.1 ∧ okW p.2
theorem encH_pc : PC encH okH2 := by
  rintro ⟨a1, a2⟩ ⟨b1, b2⟩ r s ha hb h
  unfold encH at h
  simp only [List.append_assoc] at h
  obtain ⟨h1, h⟩ := encW_pc _ _ _ _ ha.1 hb.1 h
  obtain ⟨h2, h⟩ := encW_pc _ _ _ _ ha.2 hb.2 h
  exact ⟨by cases h1; cases h2; rfl, h⟩
theorem encPts_pc : ∀ (a b : List (Int × Int)) (r s : List UInt8), a.length = b.length → (∀ p ∈ a, okS2 p) → (∀ p ∈ b, okS2 p) → encPts a ++ r = encPts b ++ s → a = b ∧ r = s
  | [], [], r, s, _, _, _, h => ⟨rfl, h⟩
  | p :: a, q :: b, r, s, hl, ha, hb, h => by
    unfold encPts at h
    simp only [List.append_assoc] at h
    obtain ⟨h1, h⟩ := encS2_pc _ _ _ _ (ha p (by simp)) (hb q (by simp)) h
    obtain ⟨h2, h⟩ := encPts_pc a b r s (by simpa using hl) (fun x hx => ha x (by simp [hx])) (fun x hx => hb x (by simp [hx])) h
    exact ⟨by rw [h1, h2], h⟩
  | [], q :: b, _, _, hl, _, _, _ => by simp at hl
  | p :: a, [], _, _, hl, _, _, _ => by simp at hl
structure OkSh (s : Shp) : Prop where
  kind : okB s.kind
  r : okI s.r
  w : okI s.w
  h : okI s.h
  len : s.pts.length ≤ 8
  pts : ∀ p ∈ s.pts, okS2 p
theorem encSh_pc : PC encSh OkSh := by
  rintro ⟨a1, a2, a3, a4, a5⟩ ⟨b1, b2, b3, b4, b5⟩ r s ha hb h
  unfold encSh at h
  simp only [List.append_assoc] at h
  obtain ⟨h1, h⟩ := encO_pc _ _ _ _ ha.kind hb.kind h
  obtain ⟨h2, h⟩ := encI_pc _ _ _ _ ha.r hb.r h
  obtain ⟨h3, h⟩ := encI_pc _ _ _ _ ha.w hb.w h
  obtain ⟨h4, h⟩ := encI_pc _ _ _ _ ha.h hb.h h
  have l1 := ha.len
  have l2 := hb.len
  obtain ⟨h5, h⟩ := encO_pc _ _ _ _ (show okB ((a5.length : Nat) : Int) from ⟨by omega, by simp only at l1; omega⟩) (show okB ((b5.length : Nat) : Int) from ⟨by omega, by simp only at l2; omega⟩) h
  obtain ⟨h6, h⟩ := encPts_pc a5 b5 _ _ (by omega) ha.pts hb.pts h
  simp only at h1 h2 h3 h4
  exact ⟨by rw [h1, h2, h3, h4, h6], h⟩

/-- The fields are numbers that may be written. -/
structure Fit (c : Cl) : Prop where
  id : okW c.id
  body : okH2 c.body
  ver : okI c.ver
  shape : OkSh c.shape
  pose : okPs c.pose
  v : okVc c.v
  w : okNm c.w
  den : okI c.den
  pt : okVc c.pt
  to : okVc c.to
  grab : okW c.grab
  box : okS2 c.box.1 ∧ okS2 c.box.2
  fro : okS2 c.fro
  unt : okS2 c.unt
theorem append_nil_eq {a b : List UInt8} (h : a = b) : a ++ [] = b ++ [] := by rw [h]
theorem encK_inj {kd : Nat} {a b : Cl} (ha : IsCall kd a) (hb : IsCall kd b) (fa : Fit a) (fb : Fit b) (hid : a.id = b.id) (h : encK kd a = encK kd b) : a = b := by
  have h := append_nil_eq h
  have ea := ha.form
  have eb := hb.form
  have hk := ha.rng
  have : kd = 1 ∨ kd = 2 ∨ kd = 3 ∨ kd = 4 ∨ kd = 5 ∨ kd = 6 ∨ kd = 7 ∨ kd = 8 ∨ kd = 9 ∨ kd = 10 := by omega
  rcases this with rfl | rfl | rfl | rfl | rfl | rfl | rfl | rfl | rfl | rfl
  · unfold encK at h
    simp only [List.append_assoc] at h
    obtain ⟨h1, h⟩ := encSh_pc _ _ _ _ fa.shape fb.shape h
    obtain ⟨h2, h⟩ := encP_pc _ _ _ _ fa.pose fb.pose h
    obtain ⟨h3, h⟩ := encV_pc _ _ _ _ fa.v fb.v h
    obtain ⟨h4, h⟩ := encN_pc _ _ _ _ fa.w fb.w h
    obtain ⟨h5, h⟩ := encI_pc _ _ _ _ fa.den fb.den h
    obtain ⟨h6, h⟩ := encF_pc _ _ _ _ trivial trivial h
    rw [ea, eb]
    unfold mkK
    simp only
    rw [hid, h1, h2, h3, h4, h5, h6]
  · unfold encK at h
    simp only [List.append_assoc] at h
    obtain ⟨h1, h⟩ := encH_pc _ _ _ _ fa.body fb.body h
    obtain ⟨h2, h⟩ := encI_pc _ _ _ _ fa.ver fb.ver h
    rw [ea, eb]
    unfold mkK
    simp only
    rw [hid, h1, h2]
  · unfold encK at h
    simp only [List.append_assoc] at h
    obtain ⟨h1, h⟩ := encH_pc _ _ _ _ fa.body fb.body h
    obtain ⟨h2, h⟩ := encI_pc _ _ _ _ fa.ver fb.ver h
    obtain ⟨h3, h⟩ := encV_pc _ _ _ _ fa.pt fb.pt h
    obtain ⟨h4, h⟩ := encV_pc _ _ _ _ fa.to fb.to h
    rw [ea, eb]
    unfold mkK
    simp only
    rw [hid, h1, h2, h3, h4]
  · unfold encK at h
    simp only [List.append_assoc] at h
    obtain ⟨h1, h⟩ := encH_pc _ _ _ _ fa.body fb.body h
    obtain ⟨h2, h⟩ := encI_pc _ _ _ _ fa.ver fb.ver h
    obtain ⟨h3, h⟩ := encV_pc _ _ _ _ fa.pt fb.pt h
    rw [ea, eb]
    unfold mkK
    simp only
    rw [hid, h1, h2, h3]
  · unfold encK at h
    simp only [List.append_assoc] at h
    obtain ⟨h1, h⟩ := encW_pc _ _ _ _ fa.grab fb.grab h
    obtain ⟨h2, h⟩ := encV_pc _ _ _ _ fa.to fb.to h
    rw [ea, eb]
    unfold mkK
    simp only
    rw [hid, h1, h2]
  · unfold encK at h
    obtain ⟨h1, h⟩ := encW_pc _ _ _ _ fa.grab fb.grab h
    rw [ea, eb]
    unfold mkK
    simp only
    rw [hid, h1]
  · unfold encK at h
    obtain ⟨h1, h⟩ := encH_pc _ _ _ _ fa.body fb.body h
    rw [ea, eb]
    unfold mkK
    simp only
    rw [hid, h1]
  · unfold encK at h
    simp only [List.append_assoc] at h
    obtain ⟨h1, h⟩ := encS2_pc _ _ _ _ fa.box.1 fb.box.1 h
    obtain ⟨h2, h⟩ := encS2_pc _ _ _ _ fa.box.2 fb.box.2 h
    rw [ea, eb]
    unfold mkK
    simp only
    rw [hid, show a.box = b.box from Prod.ext h1 h2]
  · unfold encK at h
    simp only [List.append_assoc] at h
    obtain ⟨h1, h⟩ := encS2_pc _ _ _ _ fa.fro fb.fro h
    obtain ⟨h2, h⟩ := encS2_pc _ _ _ _ fa.unt fb.unt h
    rw [ea, eb]
    unfold mkK
    simp only
    rw [hid, h1, h2]
  · rw [ea, eb]
    unfold mkK
    simp only
    rw [hid]
theorem encC_inj {ka kb : Nat} {a b : Cl} (ha : IsCall ka a) (hb : IsCall kb b) (fa : Fit a) (fb : Fit b) (h : encC ka a = encC kb b) : a = b := by
  unfold encC at h
  have h1 := ha.rng
  have h2 := hb.rng
  obtain ⟨h3, h⟩ := encO_pc _ _ _ _ (show okB ((ka : Nat) : Int) from ⟨by omega, by omega⟩) (show okB ((kb : Nat) : Int) from ⟨by omega, by omega⟩) h
  have : ka = kb := by omega
  subst this
  obtain ⟨h4, h⟩ := encW_pc _ _ _ _ fa.id fb.id h
  exact encK_inj ha hb fa fb h4 h
end Go.RX
