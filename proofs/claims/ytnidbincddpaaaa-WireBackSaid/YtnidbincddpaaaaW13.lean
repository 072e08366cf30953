/- Calls made of numbers: their fields. -/
import Derived.Test.YtnidbincddpaaaaW12
namespace Go.RX
open Go Go.Proofs Go.RowKit

section
variable {L : List Value} (hL : ∀ i, okI (nthV L i))
theorem fitF (L : List Value) (i : Nat) : okW (nF L 2147483647 i) := by
  have := fromN_le (nthV L i) 2147483647
  unfold okW nF
  rw [Int.ofNat_eq_natCast]; omega
theorem fitH (L : List Value) (i : Nat) : okH2 (nH L i) := ⟨fitF L i, fitF L (i + 1)⟩
theorem fitV (L : List Value) (i : Nat) : okI (nF L 1099511627776 i) := by
  have := fromN_le (nthV L i) 1099511627776
  unfold okI nF
  rw [Int.ofNat_eq_natCast]; omega
include hL in
theorem fitN (i : Nat) : okNm (nN L i) := by
  have := hL i
  unfold okNm okI nN numX at *
  simp only
  cases nthV L i == -9223372036854775808 with
  | true => rw [cond_true]; omega
  | false => rw [cond_false]; exact this
include hL in
theorem fitVc (i : Nat) : okVc (nV L i) := ⟨fitN hL i, fitN hL (i + 1)⟩
include hL in
theorem fitPs (i : Nat) : okPs (nP L i) := ⟨fitVc hL i, fitN hL (i + 2), fitN hL (i + 3)⟩
include hL in
theorem fitS (i : Nat) : okS2 (nS L i) := ⟨hL i, hL (i + 1)⟩
include hL in
theorem fitPts : ∀ n i, ∀ p ∈ nPts L n i, okS2 p
  | 0, _, p, h => by cases h
  | n + 1, i, p, h => by
    rw [nPts] at h
    rcases List.mem_cons.1 h with rfl | h
    · exact fitS hL i
    · exact fitPts n (i + 2) p h
theorem z_okI : okI 0 := ⟨by omega, by omega⟩
theorem z_okW : okW 0 := ⟨by omega, by omega⟩
theorem z_N : okNm zN := z_okI
theorem z_V : okVc zV := ⟨z_N, z_N⟩
theorem z_P : okPs zP := ⟨z_V, z_N, z_N⟩
theorem z_2 : okS2 z2 := ⟨z_okI, z_okI⟩
theorem z_H : okH2 z2 := ⟨z_okW, z_okW⟩
theorem z_S : OkSh zS := ⟨⟨by decide, by decide⟩, z_okI, z_okI, z_okI, Nat.zero_le _, fun p h => by cases h⟩
include hL in
theorem ofK_fit {kd n : Nat} (hk : 1 ≤ kd ∧ kd ≤ 10) (hn : n ≤ 8) : Fit (ofK L kd n) := by
  have hsk : okB (nF L 255 1) := by
    have := fromN_le (nthV L 1) 255
    unfold okB nF
    rw [Int.ofNat_eq_natCast]; omega
  have : kd = 1 ∨ kd = 2 ∨ kd = 3 ∨ kd = 4 ∨ kd = 5 ∨ kd = 6 ∨ kd = 7 ∨ kd = 8 ∨ kd = 9 ∨ kd = 10 := by omega
  rcases this with rfl | rfl | rfl | rfl | rfl | rfl | rfl | rfl | rfl | rfl
  · exact ⟨fitF L 0, z_H, z_okI, ⟨hsk, hL 2, hL 3, hL 4, by show (nPts L n 6).length ≤ 8; rw [nPts_len]; exact hn, fitPts hL n 6⟩, fitPs hL _, fitVc hL _, fitN hL _, hL _, z_V, z_V, z_okW, ⟨z_2, z_2⟩, z_2, z_2⟩
  · exact ⟨fitF L 0, fitH L 1, fitV L 3, z_S, z_P, z_V, z_N, z_okI, z_V, z_V, z_okW, ⟨z_2, z_2⟩, z_2, z_2⟩
  · exact ⟨fitF L 0, fitH L 1, fitV L 3, z_S, z_P, z_V, z_N, z_okI, fitVc hL 4, fitVc hL 6, z_okW, ⟨z_2, z_2⟩, z_2, z_2⟩
  · exact ⟨fitF L 0, fitH L 1, fitV L 3, z_S, z_P, z_V, z_N, z_okI, fitVc hL 4, z_V, z_okW, ⟨z_2, z_2⟩, z_2, z_2⟩
  · exact ⟨fitF L 0, z_H, z_okI, z_S, z_P, z_V, z_N, z_okI, z_V, fitVc hL 2, fitF L 1, ⟨z_2, z_2⟩, z_2, z_2⟩
  · exact ⟨fitF L 0, z_H, z_okI, z_S, z_P, z_V, z_N, z_okI, z_V, z_V, fitF L 1, ⟨z_2, z_2⟩, z_2, z_2⟩
  · exact ⟨fitF L 0, fitH L 1, z_okI, z_S, z_P, z_V, z_N, z_okI, z_V, z_V, z_okW, ⟨z_2, z_2⟩, z_2, z_2⟩
  · exact ⟨fitF L 0, z_H, z_okI, z_S, z_P, z_V, z_N, z_okI, z_V, z_V, z_okW, ⟨fitS hL 1, fitS hL 3⟩, z_2, z_2⟩
  · exact ⟨fitF L 0, z_H, z_okI, z_S, z_P, z_V, z_N, z_okI, z_V, z_V, z_okW, ⟨z_2, z_2⟩, fitS hL 1, fitS hL 3⟩
  · exact ⟨fitF L 0, z_H, z_okI, z_S, z_P, z_V, z_N, z_okI, z_V, z_V, z_okW, ⟨z_2, z_2⟩, z_2, z_2⟩
end
end Go.RX
