/- Calls made of numbers may be written. -/
import Derived.Test.YtnidbincddpaaaaW10
namespace Go.RX
open Go Go.Proofs Go.RowKit

theorem cnt_all {n : Nat} (h : n ≤ 2147483647) : (cnt (Int.ofNat n)).all id = true := by
  simp only [cnt, List.all_cons, List.all_nil, id, ltB_eq, cond_true, Bool.and_true, Bool.and_eq_true, Bool.not_eq_true', decide_eq_false_iff_not, Int.ofNat_eq_natCast]
  omega
theorem ver_all {n : Nat} (h : n ≤ 1099511627776) : (ver (Int.ofNat n)).all id = true := by
  simp only [ver, List.all_cons, List.all_nil, id, ltB_eq, cond_true, Bool.and_true, Bool.and_eq_true, Bool.not_eq_true', decide_eq_false_iff_not, Int.ofNat_eq_natCast]
  omega
theorem small_all {n : Nat} (h : n ≤ 255) : (smallc (Int.ofNat n) 255).all id = true := by
  simp only [smallc, List.all_cons, List.all_nil, id, ltB_eq, cond_true, Bool.and_true, Bool.and_eq_true, Bool.not_eq_true', decide_eq_false_iff_not, Int.ofNat_eq_natCast]
  omega
theorem num_all (L : List Value) (i : Nat) : (numc (nN L i)).all id = true := by
  simp only [numc, nN, List.all_cons, List.all_nil, id, Bool.and_true, bne_iff_ne, ne_eq, numX]
  cases h : nthV L i == -9223372036854775808 with
  | true => rw [cond_true]; decide
  | false => rw [cond_false]; simpa using h
theorem vec_all (L : List Value) (i : Nat) : (vecc (nV L i)).all id = true := by
  rw [vecc, List.all_append]
  simp only [nV, num_all, Bool.and_self]
theorem pose_all (L : List Value) (i : Nat) : (posec (nP L i)).all id = true := by
  rw [posec, List.all_append, List.all_append]
  simp only [nP, num_all, vec_all, Bool.and_self]
theorem han_all (L : List Value) (i : Nat) : (hanc (nH L i)).all id = true := by
  rw [hanc, List.all_append]
  simp only [nH, nF]
  rw [cnt_all (fromN_le _ _), cnt_all (fromN_le _ _)]; rfl
theorem nPts_len (L : List Value) : ∀ n i, (nPts L n i).length = n
  | 0, _ => rfl
  | n + 1, i => by rw [nPts, List.length_cons, nPts_len L n]
theorem ofK_is (L : List Value) {kd n : Nat} (hk : 1 ≤ kd ∧ kd ≤ 10) (hn : n ≤ 8) : IsCall kd (ofK L kd n) := by
  have hid : (cnt (nF L 2147483647 0)).all id = true := cnt_all (fromN_le _ _)
  have hgr : (cnt (nF L 2147483647 1)).all id = true := cnt_all (fromN_le _ _)
  have hvr : (ver (nF L 1099511627776 3)).all id = true := ver_all (fromN_le _ _)
  have hsk : (smallc (nF L 255 1) 255).all id = true := small_all (fromN_le _ _)
  have : kd = 1 ∨ kd = 2 ∨ kd = 3 ∨ kd = 4 ∨ kd = 5 ∨ kd = 6 ∨ kd = 7 ∨ kd = 8 ∨ kd = 9 ∨ kd = 10 := by omega
  rcases this with rfl | rfl | rfl | rfl | rfl | rfl | rfl | rfl | rfl | rfl
  · refine ⟨hk, rfl, ?_, by show (nPts L n 6).length ≤ 8; rw [nPts_len]; exact hn⟩
    show (cnt (nF L 2147483647 0) ++ (smallc (nF L 255 1) 255 ++ (posec (nP L (2 * n + 6)) ++ (vecc (nV L (2 * n + 10)) ++ numc (nN L (2 * n + 12)))))).all id = true
    simp only [List.all_append, hid, hsk, pose_all, vec_all, num_all, Bool.and_self]
  · refine ⟨hk, rfl, ?_, Nat.zero_le _⟩
    show (cnt (nF L 2147483647 0) ++ (hanc (nH L 1) ++ ver (nF L 1099511627776 3))).all id = true
    simp only [List.all_append, hid, han_all, hvr, Bool.and_self]
  · refine ⟨hk, rfl, ?_, Nat.zero_le _⟩
    show (cnt (nF L 2147483647 0) ++ (hanc (nH L 1) ++ (ver (nF L 1099511627776 3) ++ (vecc (nV L 4) ++ vecc (nV L 6))))).all id = true
    simp only [List.all_append, hid, han_all, hvr, vec_all, Bool.and_self]
  · refine ⟨hk, rfl, ?_, Nat.zero_le _⟩
    show (cnt (nF L 2147483647 0) ++ (hanc (nH L 1) ++ (ver (nF L 1099511627776 3) ++ vecc (nV L 4)))).all id = true
    simp only [List.all_append, hid, han_all, hvr, vec_all, Bool.and_self]
  · refine ⟨hk, rfl, ?_, Nat.zero_le _⟩
    show (cnt (nF L 2147483647 0) ++ (cnt (nF L 2147483647 1) ++ vecc (nV L 2))).all id = true
    simp only [List.all_append, hid, hgr, vec_all, Bool.and_self]
  · refine ⟨hk, rfl, ?_, Nat.zero_le _⟩
    show (cnt (nF L 2147483647 0) ++ cnt (nF L 2147483647 1)).all id = true
    simp only [List.all_append, hid, hgr, Bool.and_self]
  · refine ⟨hk, rfl, ?_, Nat.zero_le _⟩
    show (cnt (nF L 2147483647 0) ++ hanc (nH L 1)).all id = true
    simp only [List.all_append, hid, han_all, Bool.and_self]
  · refine ⟨hk, rfl, ?_, Nat.zero_le _⟩
    show (cnt (nF L 2147483647 0) ++ []).all id = true
    rw [List.append_nil]; exact hid
  · refine ⟨hk, rfl, ?_, Nat.zero_le _⟩
    show (cnt (nF L 2147483647 0) ++ []).all id = true
    rw [List.append_nil]; exact hid
  · refine ⟨hk, rfl, ?_, Nat.zero_le _⟩
    show (cnt (nF L 2147483647 0) ++ []).all id = true
    rw [List.append_nil]; exact hid
end Go.RX
