/- Parts of calls: what is read is what was written. -/
import Derived.Test.YtnidbincddpaaaaW19
namespace Go.RX
open Go Go.Proofs Go.RowKit

theorem u8_mod (v : Nat) : UInt8.ofNat (v % 256) = UInt8.ofNat v := by
  apply UInt8.toNat_inj.1
  rw [UInt8.toNat_ofNat', UInt8.toNat_ofNat']
  omega
theorem byteVal_nat (v : Nat) : byteVal (.int .u8 (IntKind.u8.wrap (v : Int))) = UInt8.ofNat v := by
  unfold byteVal
  rw [IntKind.wrap_u8]
  have e : (((v : Int) % 256).toNat) = v % 256 := by omega
  show UInt8.ofNat (((v : Int) % 256).toNat) = _
  rw [e, u8_mod]
theorem by8_nat (v k : Nat) : by8 (v : Int) k = UInt8.ofNat (v / 2 ^ k) := by
  unfold by8
  have e : (v : Int).fdiv (2 ^ k) = ((v / 2 ^ k : Nat) : Int) := by
    rw [Int.fdiv_eq_ediv_of_nonneg _ (by exact Int.pow_nonneg (by decide))]
    norm_cast
  rw [e, byteVal_nat]
theorem be4 (v : Nat) : be 4 v = [UInt8.ofNat (v / 2 ^ 24), UInt8.ofNat (v / 2 ^ 16), UInt8.ofNat (v / 2 ^ 8), UInt8.ofNat (v / 2 ^ 0)] := by
  simp only [be, List.nil_append, List.cons_append, Nat.div_div_eq_div_mul]
  simp
theorem be8 (v : Nat) : be 8 v = [UInt8.ofNat (v / 2 ^ 56), UInt8.ofNat (v / 2 ^ 48), UInt8.ofNat (v / 2 ^ 40), UInt8.ofNat (v / 2 ^ 32), UInt8.ofNat (v / 2 ^ 24), UInt8.ofNat (v / 2 ^ 16), UInt8.ofNat (v / 2 ^ 8), UInt8.ofNat (v / 2 ^ 0)] := by
  simp only [be, List.nil_append, List.cons_append, Nat.div_div_eq_div_mul]
  simp
theorem encO_be (v : Nat) : encO (v : Int) = be 1 v := by
  unfold encO
  rw [byteVal_nat]; rfl
theorem encW_be {v : Nat} (h : v < 4294967296) : encW (v : Int) = be 4 v := by
  unfold encW
  have e : IntKind.u64.wrap (IntKind.u32.wrap (v : Int)) = (v : Int) := by
    rw [IntKind.wrap_u32, IntKind.wrap_u64]; omega
  rw [e, by8_nat, by8_nat, by8_nat, by8_nat, be4]
theorem encI_be {x : Int} {v : Nat} (h : IntKind.u64.wrap x = (v : Int)) : encI x = be 8 v := by
  unfold encI
  rw [h, by8_nat, by8_nat, by8_nat, by8_nat, by8_nat, by8_nat, by8_nat, by8_nat, be8]
theorem encF_be (b : Bool) : encF b = be 1 (if b then 1 else 0) := by
  cases b <;> rfl
theorem w64_wrap (v : Nat) (h : v < 18446744073709551616) : IntKind.u64.wrap (w64 (v : Int)) = (v : Int) := by
  unfold w64
  rw [IntKind.wrap_i64, IntKind.wrap_u64]; omega
theorem w64_okI (v : Int) : okI (w64 v) := by
  unfold okI w64
  rw [IntKind.wrap_i64]; omega

section
variable {l : List Int} {i : Nat}
theorem encA_one (f : Fk) {v : Nat} (h : l.getD i 0 = (v : Int)) : encA [f] l i = be f.n v := by
  rw [encA, encA, h, List.append_nil, Int.toNat_natCast]
theorem en_cnt (h : Good [.cnt] l i) : encW (lI l i) = encA [.cnt] l i ∧ okW (lI l i) ∧ (cnt (lI l i)).all id = true := by
  obtain ⟨⟨v, h1, _, h3⟩, _⟩ := h
  have h3 : v ≤ 2147483647 := by simpa [Fk.ok] using h3
  have e : lI l i = (v : Int) := by
    unfold lI
    rw [h1]; exact w64_nat v (by omega)
  rw [encA_one _ h1, e]
  exact ⟨encW_be (by omega), ⟨by omega, by omega⟩, cnt_all h3⟩
theorem en_ver (h : Good [.ver] l i) : encI (lI l i) = encA [.ver] l i ∧ okI (lI l i) ∧ (ver (lI l i)).all id = true := by
  obtain ⟨⟨v, h1, _, h3⟩, _⟩ := h
  have h3 : v ≤ 1099511627776 := by simpa [Fk.ok] using h3
  have e : lI l i = (v : Int) := by
    unfold lI
    rw [h1]; exact w64_nat v (by omega)
  rw [encA_one _ h1, e]
  refine ⟨encI_be ?_, ⟨by omega, by omega⟩, ver_all h3⟩
  rw [IntKind.wrap_u64]; omega
theorem en_int (h : Good [.int] l i) : encI (lI l i) = encA [.int] l i ∧ okI (lI l i) := by
  obtain ⟨⟨v, h1, h2, _⟩, _⟩ := h
  have h2 : v < 18446744073709551616 := h2
  rw [encA_one _ h1]
  refine ⟨encI_be ?_, w64_okI _⟩
  unfold lI
  rw [h1]; exact w64_wrap v h2
theorem en_byte {m : Nat} (hm : m ≤ 255) (h : Good [.byte m] l i) : encO (lI l i) = encA [.byte m] l i ∧ okB (lI l i) ∧ ∃ v : Nat, lI l i = (v : Int) ∧ v ≤ m := by
  obtain ⟨⟨v, h1, _, h3⟩, _⟩ := h
  have h3 : v ≤ m := by simpa [Fk.ok] using h3
  have e : lI l i = (v : Int) := by
    unfold lI
    rw [h1]; exact w64_nat v (by omega)
  rw [encA_one _ h1, e]
  exact ⟨encO_be v, ⟨by omega, by omega⟩, v, rfl, h3⟩
theorem en_flag (h : Good [.byte 1] l i) : encF (lF l i) = encA [.byte 1] l i := by
  obtain ⟨⟨v, h1, _, h3⟩, _⟩ := h
  have h3 : v ≤ 1 := by simpa [Fk.ok] using h3
  have e : w64 (l.getD i 0) = (v : Int) := by
    rw [h1]; exact w64_nat v (by omega)
  rw [encA_one _ h1]
  unfold lF
  rw [e, encF_be]
  have : v = 0 ∨ v = 1 := by omega
  rcases this with rfl | rfl <;> rfl
theorem en_N (h : Good fNum l i) : encN (lN l i) = encA fNum l i ∧ okNm (lN l i) ∧ (numc (lN l i)).all id = true := by
  obtain ⟨h1, h2⟩ := good_app (x := [.num]) (y := [.byte 1]) h
  have e2 := en_flag h2
  obtain ⟨⟨v, h3, h4, h5⟩, _⟩ := h1
  have h4 : v < 18446744073709551616 := h4
  have h5 : v ≠ 9223372036854775808 := by simpa [Fk.ok] using h5
  have ew : lI l i = w64 (v : Int) := by unfold lI; rw [h3]
  refine ⟨?_, w64_okI _, ?_⟩
  · unfold encN lN fNum
    rw [encA, h3, Int.toNat_natCast]
    congr 1
    rw [ew]
    exact encI_be (w64_wrap v h4)
  · unfold numc lN
    have : (w64 (v : Int) != -9223372036854775808) = true := by
      rw [bne_iff_ne]
      intro hc
      exact h5 ((w64_min v h4).1 hc)
    simp only [List.all_cons, List.all_nil, id, Bool.and_true, ew, this]
theorem en_V (h : Good fVec l i) : encV (lVc l i) = encA fVec l i ∧ okVc (lVc l i) ∧ (vecc (lVc l i)).all id = true := by
  obtain ⟨h1, h2⟩ := good_app (x := fNum) (y := fNum) h
  obtain ⟨a1, a2, a3⟩ := en_N h1
  obtain ⟨b1, b2, b3⟩ := en_N h2
  refine ⟨?_, ⟨a2, b2⟩, ?_⟩
  · unfold encV fVec
    rw [encA_app, ← a1, ← b1]; rfl
  · rw [vecc, List.all_append]
    show ((numc (lN l i)).all id && (numc (lN l (i + 2))).all id) = true
    rw [a3]; exact b3
theorem en_P (h : Good fPose l i) : encP (lPs l i) = encA fPose l i ∧ okPs (lPs l i) ∧ (posec (lPs l i)).all id = true := by
  obtain ⟨h1, h23⟩ := good_app (x := fVec) (y := fNum ++ fNum) h
  obtain ⟨h2, h3⟩ := good_app (x := fNum) (y := fNum) h23
  obtain ⟨a1, a2, a3⟩ := en_V h1
  obtain ⟨b1, b2, b3⟩ := en_N h2
  obtain ⟨c1, c2, c3⟩ := en_N h3
  refine ⟨?_, ⟨a2, b2, c2⟩, ?_⟩
  · unfold encP fPose
    rw [encA_app, encA_app, ← a1, ← b1, ← c1]; rfl
  · rw [posec, List.all_append, List.all_append]
    show ((vecc (lVc l i)).all id && ((numc (lN l (i + 4))).all id && (numc (lN l (i + 6))).all id)) = true
    rw [a3]
    show ((numc (lN l (i + 4))).all id && (numc (lN l (i + 6))).all id) = true
    have b3 : (numc (lN l (i + 4))).all id = true := b3
    rw [b3]; exact c3
theorem en_S2 (h : Good [.int, .int] l i) : encS2 (l2 l i) = encA [.int, .int] l i ∧ okS2 (l2 l i) := by
  obtain ⟨h1, h2⟩ := good_app (x := [.int]) (y := [.int]) h
  obtain ⟨a1, a2⟩ := en_int h1
  obtain ⟨b1, b2⟩ := en_int h2
  refine ⟨?_, a2, b2⟩
  unfold encS2 l2
  rw [show [Fk.int, Fk.int] = [Fk.int] ++ [Fk.int] from rfl, encA_app, ← a1, ← b1]; rfl
theorem en_H (h : Good [.cnt, .cnt] l i) : encH (l2 l i) = encA [.cnt, .cnt] l i ∧ okH2 (l2 l i) ∧ (hanc (l2 l i)).all id = true := by
  obtain ⟨h1, h2⟩ := good_app (x := [.cnt]) (y := [.cnt]) h
  obtain ⟨a1, a2, a3⟩ := en_cnt h1
  obtain ⟨b1, b2, b3⟩ := en_cnt h2
  refine ⟨?_, ⟨a2, b2⟩, ?_⟩
  · unfold encH l2
    rw [show [Fk.cnt, Fk.cnt] = [Fk.cnt] ++ [Fk.cnt] from rfl, encA_app, ← a1, ← b1]; rfl
  · rw [hanc, List.all_append]
    show ((cnt (lI l i)).all id && (cnt (lI l (i + 1))).all id) = true
    rw [a3]; exact b3
theorem en_Pts : ∀ (n i : Nat), Good (fInts (2 * n)) l i → encPts (lPts l n i) = encA (fInts (2 * n)) l i ∧ ∀ p ∈ lPts l n i, okS2 p
  | 0, _, _ => ⟨rfl, fun p h => by cases h⟩
  | n + 1, i, h => by
    have h : Good ([.int, .int] ++ fInts (2 * n)) l i := h
    obtain ⟨h1, h2⟩ := good_app h
    obtain ⟨a1, a2⟩ := en_S2 h1
    obtain ⟨b1, b2⟩ := en_Pts n (i + 2) h2
    refine ⟨?_, ?_⟩
    · rw [lPts, encPts, a1, b1]
      exact (encA_app [.int, .int] (fInts (2 * n)) l i).symm
    · intro p hp
      rw [lPts] at hp
      rcases List.mem_cons.1 hp with rfl | hp
      · exact a2
      · exact b2 p hp
theorem fInts_len : ∀ n, (fInts n).length = n
  | 0 => rfl
  | n + 1 => by rw [fInts, List.length_cons, fInts_len n]
def lSh (l : List Int) (n i : Nat) : Shp := ⟨lI l i, lI l (i + 1), lI l (i + 2), lI l (i + 3), lPts l n (i + 5)⟩
theorem en_Sh {n : Nat} (hn : n ≤ 8) (hl : l.getD (i + 4) 0 = (n : Int)) (h : Good (fSh n) l i) : encSh (lSh l n i) = encA (fSh n) l i ∧ OkSh (lSh l n i) ∧ (smallc (lI l i) 255).all id = true := by
  obtain ⟨h1, h2⟩ := good_app (x := [.byte 255, .int, .int, .int, .parts 8 n]) (y := fInts (2 * n)) h
  obtain ⟨g1, h1⟩ := good_app (x := [.byte 255]) (y := [.int, .int, .int, .parts 8 n]) h1
  obtain ⟨g2, h1⟩ := good_app (x := [.int]) (y := [.int, .int, .parts 8 n]) h1
  obtain ⟨g3, h1⟩ := good_app (x := [.int]) (y := [.int, .parts 8 n]) h1
  obtain ⟨g4, h1⟩ := good_app (x := [.int]) (y := [.parts 8 n]) h1
  obtain ⟨a1, a2, v, a3, a4⟩ := en_byte (by omega) g1
  obtain ⟨b1, b2⟩ := en_int g2
  obtain ⟨c1, c2⟩ := en_int g3
  obtain ⟨d1, d2⟩ := en_int g4
  obtain ⟨p1, p2⟩ := en_Pts n (i + 5) h2
  refine ⟨?_, ⟨a2, b2, c2, d2, by show (lPts l n (i + 5)).length ≤ 8; rw [lPts_len]; exact hn, p2⟩, ?_⟩
  · unfold encSh fSh
    rw [encA_app, show [Fk.byte 255, .int, .int, .int, .parts 8 n] = [.byte 255] ++ ([.int] ++ ([.int] ++ ([.int] ++ [.parts 8 n]))) from rfl, encA_app, encA_app, encA_app, encA_app, ← a1]
    show encO (lI l i) ++ (encI (lI l (i + 1)) ++ (encI (lI l (i + 2)) ++ (encI (lI l (i + 3)) ++ (encO ((lPts l n (i + 5)).length : Nat) ++ encPts (lPts l n (i + 5)))))) = _
    have e4 : encA [Fk.parts 8 n] l (i + 4) = be 1 n := encA_one _ hl
    have b1 : encI (lI l (i + 1)) = encA [.int] l (i + 1) := b1
    have c1 : encI (lI l (i + 2)) = encA [.int] l (i + 2) := c1
    have d1 : encI (lI l (i + 3)) = encA [.int] l (i + 3) := d1
    rw [b1, c1, d1, p1, lPts_len, encO_be, ← e4]
    simp only [List.append_assoc]
    rfl
  · rw [a3]
    exact small_all a4
end
end Go.RX
