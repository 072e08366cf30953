/- ReadCall: what is read is what was written, and what is written is read. -/
import Derived.Test.YtnidbincddpaaaaW20
namespace Go.RX
open Go Go.Proofs Go.RowKit

theorem kinds_mk {l : List Int} {kd n : Nat} (hk : 1 ≤ kd ∧ kd ≤ 10) (hn : n ≤ 8) (hp : kd = 1 → l.getD 5 0 = (n : Int)) (h : Good (fmtK kd n) l 0) :
    encW (mkL l kd n).id ++ encK kd (mkL l kd n) = encA (fmtK kd n) l 0 ∧ IsCall kd (mkL l kd n) ∧ Fit (mkL l kd n) := by
  have : kd = 1 ∨ kd = 2 ∨ kd = 3 ∨ kd = 4 ∨ kd = 5 ∨ kd = 6 ∨ kd = 7 ∨ kd = 8 ∨ kd = 9 ∨ kd = 10 := by omega
  rcases this with rfl | rfl | rfl | rfl | rfl | rfl | rfl | rfl | rfl | rfl
  · obtain ⟨g0, h⟩ := good_app (x := [.cnt]) h
    obtain ⟨g1, h⟩ := good_app (x := fSh n) h
    obtain ⟨g2, h⟩ := good_app (x := fPose) h
    obtain ⟨g3, h⟩ := good_app (x := fVec) h
    obtain ⟨g4, h⟩ := good_app (x := fNum) h
    obtain ⟨g5, g6⟩ := good_app (x := [.int]) (y := [.byte 1]) h
    have hl : (fSh n).length = 2 * n + 5 := by
      unfold fSh
      rw [List.length_append, fInts_len]
      simp only [List.length_cons, List.length_nil]; omega
    have i2 : 0 + [Fk.cnt].length + (fSh n).length = 2 * n + 6 := by rw [hl]; simp only [List.length_cons, List.length_nil]; omega
    rw [i2] at g2 g3 g4 g5 g6
    obtain ⟨a1, a2, a3⟩ := en_cnt g0
    obtain ⟨b1, b2, b3⟩ := en_Sh hn (hp rfl) g1
    obtain ⟨c1, c2, c3⟩ := en_P g2
    obtain ⟨d1, d2, d3⟩ := en_V g3
    obtain ⟨e1, e2, e3⟩ := en_N g4
    obtain ⟨f1, f2⟩ := en_int g5
    have k1 := en_flag g6
    refine ⟨?_, ⟨hk, rfl, ?_, by show (lPts l n 6).length ≤ 8; rw [lPts_len]; exact hn⟩, ⟨a2, z_H, z_okI, b2, c2, d2, e2, f2, z_V, z_V, z_okW, ⟨z_2, z_2⟩, z_2, z_2⟩⟩
    · show encW (lI l 0) ++ (encSh (lSh l n 1) ++ (encP (lPs l (2 * n + 6)) ++ (encV (lVc l (2 * n + 14)) ++ (encN (lN l (2 * n + 18)) ++ (encI (lI l (2 * n + 20)) ++ encF (lF l (2 * n + 21))))))) = encA ([.cnt] ++ (fSh n ++ (fPose ++ (fVec ++ (fNum ++ ([.int] ++ [.byte 1])))))) l 0
      rw [encA_app, encA_app, encA_app, encA_app, encA_app, encA_app, i2, ← a1, ← c1, ← d1, ← e1, ← f1, ← k1]
      congr 1
      congr 1
    · show (cnt (lI l 0) ++ (smallc (lI l 1) 255 ++ (posec (lPs l (2 * n + 6)) ++ (vecc (lVc l (2 * n + 14)) ++ numc (lN l (2 * n + 18)))))).all id = true
      simp only [List.all_append, Bool.and_eq_true]
      exact ⟨a3, b3, c3, d3, e3⟩
  · obtain ⟨g0, h⟩ := good_app (x := [.cnt]) h
    obtain ⟨g1, g2⟩ := good_app (x := [.cnt, .cnt]) (y := [.ver]) h
    obtain ⟨a1, a2, a3⟩ := en_cnt g0
    obtain ⟨b1, b2, b3⟩ := en_H g1
    obtain ⟨c1, c2, c3⟩ := en_ver g2
    refine ⟨?_, ⟨hk, rfl, ?_, Nat.zero_le _⟩, ⟨a2, b2, c2, z_S, z_P, z_V, z_N, z_okI, z_V, z_V, z_okW, ⟨z_2, z_2⟩, z_2, z_2⟩⟩
    · show encW (lI l 0) ++ (encH (l2 l 1) ++ encI (lI l 3)) = encA ([.cnt] ++ ([.cnt, .cnt] ++ [.ver])) l 0
      rw [encA_app, encA_app, ← a1, ← b1, ← c1]; rfl
    · show (cnt (lI l 0) ++ (hanc (l2 l 1) ++ ver (lI l 3))).all id = true
      simp only [List.all_append, Bool.and_eq_true]
      exact ⟨a3, b3, c3⟩
  · obtain ⟨g0, h⟩ := good_app (x := [.cnt]) h
    obtain ⟨g1, h⟩ := good_app (x := [.cnt, .cnt]) (y := [.ver] ++ (fVec ++ fVec)) h
    obtain ⟨g2, h⟩ := good_app (x := [.ver]) h
    obtain ⟨g3, g4⟩ := good_app (x := fVec) h
    obtain ⟨a1, a2, a3⟩ := en_cnt g0
    obtain ⟨b1, b2, b3⟩ := en_H g1
    obtain ⟨c1, c2, c3⟩ := en_ver g2
    obtain ⟨d1, d2, d3⟩ := en_V g3
    obtain ⟨e1, e2, e3⟩ := en_V g4
    refine ⟨?_, ⟨hk, rfl, ?_, Nat.zero_le _⟩, ⟨a2, b2, c2, z_S, z_P, z_V, z_N, z_okI, d2, e2, z_okW, ⟨z_2, z_2⟩, z_2, z_2⟩⟩
    · show encW (lI l 0) ++ (encH (l2 l 1) ++ (encI (lI l 3) ++ (encV (lVc l 4) ++ encV (lVc l 8)))) = encA ([.cnt] ++ ([.cnt, .cnt] ++ ([.ver] ++ (fVec ++ fVec)))) l 0
      rw [encA_app, encA_app, encA_app, encA_app, ← a1, ← b1, ← c1, ← d1, ← e1]; rfl
    · show (cnt (lI l 0) ++ (hanc (l2 l 1) ++ (ver (lI l 3) ++ (vecc (lVc l 4) ++ vecc (lVc l 8))))).all id = true
      simp only [List.all_append, Bool.and_eq_true]
      exact ⟨a3, b3, c3, d3, e3⟩
  · obtain ⟨g0, h⟩ := good_app (x := [.cnt]) h
    obtain ⟨g1, h⟩ := good_app (x := [.cnt, .cnt]) (y := [.ver] ++ fVec) h
    obtain ⟨g2, g3⟩ := good_app (x := [.ver]) h
    obtain ⟨a1, a2, a3⟩ := en_cnt g0
    obtain ⟨b1, b2, b3⟩ := en_H g1
    obtain ⟨c1, c2, c3⟩ := en_ver g2
    obtain ⟨d1, d2, d3⟩ := en_V g3
    refine ⟨?_, ⟨hk, rfl, ?_, Nat.zero_le _⟩, ⟨a2, b2, c2, z_S, z_P, z_V, z_N, z_okI, d2, z_V, z_okW, ⟨z_2, z_2⟩, z_2, z_2⟩⟩
    · show encW (lI l 0) ++ (encH (l2 l 1) ++ (encI (lI l 3) ++ encV (lVc l 4))) = encA ([.cnt] ++ ([.cnt, .cnt] ++ ([.ver] ++ fVec))) l 0
      rw [encA_app, encA_app, encA_app, ← a1, ← b1, ← c1, ← d1]; rfl
    · show (cnt (lI l 0) ++ (hanc (l2 l 1) ++ (ver (lI l 3) ++ vecc (lVc l 4)))).all id = true
      simp only [List.all_append, Bool.and_eq_true]
      exact ⟨a3, b3, c3, d3⟩
  · obtain ⟨g0, h⟩ := good_app (x := [.cnt]) h
    obtain ⟨g1, g2⟩ := good_app (x := [.cnt]) (y := fVec) h
    obtain ⟨a1, a2, a3⟩ := en_cnt g0
    obtain ⟨b1, b2, b3⟩ := en_cnt g1
    obtain ⟨d1, d2, d3⟩ := en_V g2
    refine ⟨?_, ⟨hk, rfl, ?_, Nat.zero_le _⟩, ⟨a2, z_H, z_okI, z_S, z_P, z_V, z_N, z_okI, z_V, d2, b2, ⟨z_2, z_2⟩, z_2, z_2⟩⟩
    · show encW (lI l 0) ++ (encW (lI l 1) ++ encV (lVc l 2)) = encA ([.cnt] ++ ([.cnt] ++ fVec)) l 0
      rw [encA_app, encA_app, ← a1, ← b1, ← d1]; rfl
    · show (cnt (lI l 0) ++ (cnt (lI l 1) ++ vecc (lVc l 2))).all id = true
      simp only [List.all_append, Bool.and_eq_true]
      exact ⟨a3, b3, d3⟩
  · obtain ⟨g0, g1⟩ := good_app (x := [.cnt]) (y := [.cnt]) h
    obtain ⟨a1, a2, a3⟩ := en_cnt g0
    obtain ⟨b1, b2, b3⟩ := en_cnt g1
    refine ⟨?_, ⟨hk, rfl, ?_, Nat.zero_le _⟩, ⟨a2, z_H, z_okI, z_S, z_P, z_V, z_N, z_okI, z_V, z_V, b2, ⟨z_2, z_2⟩, z_2, z_2⟩⟩
    · show encW (lI l 0) ++ encW (lI l 1) = encA ([.cnt] ++ [.cnt]) l 0
      rw [encA_app, ← a1, ← b1]; rfl
    · show (cnt (lI l 0) ++ cnt (lI l 1)).all id = true
      simp only [List.all_append, Bool.and_eq_true]
      exact ⟨a3, b3⟩
  · obtain ⟨g0, g1⟩ := good_app (x := [.cnt]) (y := [.cnt, .cnt]) h
    obtain ⟨a1, a2, a3⟩ := en_cnt g0
    obtain ⟨b1, b2, b3⟩ := en_H g1
    refine ⟨?_, ⟨hk, rfl, ?_, Nat.zero_le _⟩, ⟨a2, b2, z_okI, z_S, z_P, z_V, z_N, z_okI, z_V, z_V, z_okW, ⟨z_2, z_2⟩, z_2, z_2⟩⟩
    · show encW (lI l 0) ++ encH (l2 l 1) = encA ([.cnt] ++ [.cnt, .cnt]) l 0
      rw [encA_app, ← a1, ← b1]; rfl
    · show (cnt (lI l 0) ++ hanc (l2 l 1)).all id = true
      simp only [List.all_append, Bool.and_eq_true]
      exact ⟨a3, b3⟩
  · obtain ⟨g0, h⟩ := good_app (x := [.cnt]) h
    obtain ⟨g1, g2⟩ := good_app (x := [.int, .int]) (y := [.int, .int]) h
    obtain ⟨a1, a2, a3⟩ := en_cnt g0
    obtain ⟨b1, b2⟩ := en_S2 g1
    obtain ⟨c1, c2⟩ := en_S2 g2
    refine ⟨?_, ⟨hk, rfl, ?_, Nat.zero_le _⟩, ⟨a2, z_H, z_okI, z_S, z_P, z_V, z_N, z_okI, z_V, z_V, z_okW, ⟨b2, c2⟩, z_2, z_2⟩⟩
    · show encW (lI l 0) ++ (encS2 (l2 l 1) ++ encS2 (l2 l 3)) = encA ([.cnt] ++ ([.int, .int] ++ [.int, .int])) l 0
      rw [encA_app, encA_app, ← a1, ← b1, ← c1]; rfl
    · show (cnt (lI l 0) ++ []).all id = true
      rw [List.append_nil]; exact a3
  · obtain ⟨g0, h⟩ := good_app (x := [.cnt]) h
    obtain ⟨g1, g2⟩ := good_app (x := [.int, .int]) (y := [.int, .int]) h
    obtain ⟨a1, a2, a3⟩ := en_cnt g0
    obtain ⟨b1, b2⟩ := en_S2 g1
    obtain ⟨c1, c2⟩ := en_S2 g2
    refine ⟨?_, ⟨hk, rfl, ?_, Nat.zero_le _⟩, ⟨a2, z_H, z_okI, z_S, z_P, z_V, z_N, z_okI, z_V, z_V, z_okW, ⟨z_2, z_2⟩, b2, c2⟩⟩
    · show encW (lI l 0) ++ (encS2 (l2 l 1) ++ encS2 (l2 l 3)) = encA ([.cnt] ++ ([.int, .int] ++ [.int, .int])) l 0
      rw [encA_app, encA_app, ← a1, ← b1, ← c1]; rfl
    · show (cnt (lI l 0) ++ []).all id = true
      rw [List.append_nil]; exact a3
  · obtain ⟨a1, a2, a3⟩ := en_cnt (l := l) (i := 0) h
    refine ⟨?_, ⟨hk, rfl, ?_, Nat.zero_le _⟩, ⟨a2, z_H, z_okI, z_S, z_P, z_V, z_N, z_okI, z_V, z_V, z_okW, ⟨z_2, z_2⟩, z_2, z_2⟩⟩
    · show encW (lI l 0) ++ [] = encA [.cnt] l 0
      rw [List.append_nil, ← a1]
    · show (cnt (lI l 0) ++ []).all id = true
      rw [List.append_nil]; exact a3

theorem ptOf_le (s : ByteArray) : ptOf s ≤ 8 := by
  unfold ptOf
  split
  · rename_i h; exact h.2
  · exact Nat.zero_le _
/-- WHAT IS READ IS WHAT WAS WRITTEN. -/
theorem rdCall_sound {s : ByteArray} {c : Cl} (h : rdCall s = .ok c) : IsCall c.kind.toNat c ∧ Fit c ∧ encB c = s := by
  unfold rdCall at h
  split at h
  · rename_i h1
    split at h
    · rename_i h2
      split at h
      · rename_i l hl
        split at h
        · rename_i h3
          injection h with h
          have hs := decF_sound [] hl
          simp only [List.nil_append, List.length_nil] at hs
          have hp : beN s 0 1 = 1 → l.getD 5 0 = (ptOf s : Int) := by
            intro hk
            have hl2 := hl
            unfold fmtOf at hl2
            rw [hk] at hl2
            have hl2 : decF s (.cnt :: .byte 255 :: .int :: .int :: .int :: .parts 8 (ptOf s) :: (fInts (2 * ptOf s) ++ (fPose ++ (fVec ++ (fNum ++ [.int, .byte 1]))))) 1 = .ok l := hl2
            obtain ⟨l, rfl, _, _, hl2⟩ := decF_cons hl2
            obtain ⟨l, rfl, _, _, hl2⟩ := decF_cons hl2
            obtain ⟨l, rfl, _, _, hl2⟩ := decF_cons hl2
            obtain ⟨l, rfl, _, _, hl2⟩ := decF_cons hl2
            obtain ⟨l, rfl, _, _, hl2⟩ := decF_cons hl2
            obtain ⟨l, rfl, _, hok, _⟩ := decF_cons hl2
            have hok : decide (beN s 30 1 ≤ 8) = true := hok
            have hok : beN s 30 1 ≤ 8 := of_decide_eq_true hok
            show ((beN s 30 1 : Nat) : Int) = _
            unfold ptOf
            rw [if_pos ⟨hk, hok⟩]
          obtain ⟨k1, k2, k3⟩ := kinds_mk h2 (ptOf_le s) hp hs.2
          rw [h] at k1 k2 k3
          have hkd : c.kind.toNat = beN s 0 1 := by rw [k2.kind]; rfl
          rw [hkd]
          refine ⟨k2, k3, ?_⟩
          unfold encB
          rw [hkd]
          have e : encC (beN s 0 1) c = s.data.toList := by
            unfold encC
            rw [k1, encO_be, be_beN]
            have e1 : encA (fmtK (beN s 0 1) (ptOf s)) l 0 = bs s 1 (Fk.size (fmtOf s)) := hs.1
            rw [e1, ← bs_whole, ← h3, bs_add]
          rw [e]
        · cases h
      · cases h
    · cases h
  · cases h
end Go.RX
