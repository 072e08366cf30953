/- Operations whose checks are asked first. -/
import Derived.Test.YtnidbincddpaaaaX9
namespace Go.RX
open Go Go.Proofs.Ytnidbincddpaaaa Go.RowKit

section
variable {P : Program}

theorem inB_iff {k : Int} {n : Nat} : inB k n = true ↔ 0 ≤ k ∧ k < n := by
  simp only [inB, Bool.and_eq_true, Bool.not_eq_true', ltB_eq, decide_eq_true_eq, decide_eq_false_iff_not]
  omega
theorem abound_of {x : Option Value} {top dflt r : Nat} (h : bnd x top = true) (hu : bndU x dflt = some r) : abound x top dflt = some r := by
  unfold bndU at hu
  split at hu
  · exact hu
  · simp only [bnd, Bool.and_eq_true, Bool.not_eq_true', ltB_eq, decide_eq_false_iff_not] at h
    unfold abound
    simp only
    rw [if_pos (by omega)]
    exact hu
  · cases hu
theorem ld_of {H : AH} {i off n : Nat} (h : ldC H i off n = true) : ld H i off n = some (ldU H i off n) := by
  unfold ldC at h
  unfold ld ldU
  cases hb : H[i]? with
  | none => rw [hb] at h; cases h
  | some b =>
    rw [hb] at h
    simp only [Bool.and_eq_true, Nat.beq_eq] at h
    simp only [h.1, cond_true, h.2, if_true]
theorem bytesOf_of : ∀ (l : List Value) (s : ByteArray), l.all isU8 = true → bytesOf l s = some ⟨s.data ++ (l.map byteVal).toArray⟩
  | [], s, _ => by simp [bytesOf]
  | v :: r, s, h => by
    simp only [List.all_cons, Bool.and_eq_true] at h
    cases v with
    | int k n =>
      cases k <;> first | (cases h.1; done) | skip
      simp only [bytesOf]
      rw [bytesOf_of r _ h.2]
      simp [ByteArray.push, byteVal]
    | _ => cases h.1

theorem aopU_ok {tm : Tm} {H : AH} {op : Op} {out : AOut} (hc : achk P tm H op = true) (h : aopU P tm H op = some out) : aop P tm H op = some out := by
  unfold aopU at h
  split at h
  · rename_i t x y z
    split at h
    · rename_i a b ha hb
      simp only [achk, ha, hb, Nat.ble_eq] at hc
      simp only [aop, ha, hb, abinc, abin, if_pos hc, oval]
      exact h
    · exact h
  · rename_i src dst x
    split at h
    · rename_i e i off n q hs hd hx
      simp only [achk, hs, hd, hx, Bool.and_eq_true] at hc
      split at h
      · rename_i he
        have e0 : (⟨ByteArray.empty.data ++ ((ldU H i off n).map byteVal).toArray⟩ : ByteArray) = ⟨((ldU H i off n).map byteVal).toArray⟩ := by congr 1; exact Array.empty_append
        simp only [aop, hx, aconv, hs, hd, he, ld_of hc.1, bytesOf_of _ _ hc.2, oval, e0]
        exact h
      · cases h
    · exact h
  · rename_i t x lo hi
    have e0 : evo tm none = some none := rfl
    split at h
    · rename_i s l hh hu hx hlo hhi
      simp only [achk, hu, hx, hlo, hhi, Bool.and_eq_true] at hc
      split at h
      · rename_i hv hhv
        simp only [hhv] at hc
        split at h
        · rename_i lv hlv
          simp only [aop, hx, hlo, hhi, e0, aslice, hu, abound_of hc.1 hhv, abound_of hc.2 hlv, oval]
          exact h
        · cases h
      · cases h
    · rename_i e i off n c l hh hu hx hlo hhi
      simp only [achk, hu, hx, hlo, hhi, Bool.and_eq_true] at hc
      split at h
      · rename_i s hv lv hs hhv hlv
        simp only [hhv, hlv, Bool.and_eq_true, Nat.ble_eq] at hc
        obtain ⟨c1, c2, c3, c4⟩ := hc
        simp only [aop, hx, hlo, hhi, e0, aslice, hu, hs, abound_of c1 hhv, abound_of c2 hlv, oval]
        rw [if_pos ⟨by omega, c4⟩]
        exact h
      · cases h
    · exact h
  · rename_i t x ix
    split at h
    · rename_i s kk k hu hx hix
      simp only [achk, hu, hx, hix, inB_iff] at hc
      have hk : k.toNat < s.size := by omega
      have he : s[k.toNat]? = some (s.data.toList.getD k.toNat 0) := by
        rw [getElem?_pos s k.toNat hk]
        have hk' : k.toNat < s.data.size := hk
        simp [List.getD, ByteArray.getElem_eq_getElem_data, Array.getElem?_eq_getElem hk']
      simp only [aop, hx, hix, aindex, hu, if_pos hc.1, he, oval]
      exact h
    · rename_i len e cs kk k hu hx hix
      simp only [achk, hu, hx, hix, inB_iff] at hc
      simp only [aop, hx, hix, aindex, hu, if_pos hc]
      cases hs : sizeB P e with
      | none => rw [hs] at h; cases h
      | some n => rw [hs] at h; exact h
    · exact h
  · rename_i t x ix
    split at h
    · rename_i e i off n q kk k hu hx hix
      simp only [achk, hu, hx, hix, inB_iff] at hc
      simp only [aop, hx, hix, aindexAddr, hu, if_pos hc]
      split at h
      · rename_i s hs
        simp only [hs, oval]
        exact h
      · cases h
    · exact h
  · rename_i args argTypes
    split at h
    · rename_i x t t' hv ht
      simp only [achk, hv, ht, Bool.and_eq_true, Nat.ble_eq] at hc
      split at h
      · rename_i e hu hu'
        split at h
        · rename_i ie hi
          split at h
          · rename_i hz
            cases hq : (Nat.beq ie.size 1 && Nat.beq ie.bytes 1) with
            | false => rw [hq, cond_false] at h; cases h
            | true =>
              rw [hq, cond_true] at h
              simp only [Bool.and_eq_true, Nat.beq_eq] at hq
              simp only [aop, hv, ht, aappends, hu, hu', hi, hz]
              rw [if_pos ⟨hq.1, hq.2, by omega⟩, if_pos hc.2]
              exact h
          · cases h
        · cases h
      · cases h
    · rename_i i n q x t t' hv ht
      simp only [achk, hv, ht, Bool.and_eq_true, Nat.ble_eq, Nat.beq_eq] at hc
      split at h
      · rename_i e hu hu'
        split at h
        · rename_i ie hi
          split at h
          · rename_i b hz hb
            simp only [hb, Nat.beq_eq] at hc
            cases hq : (Nat.beq ie.size 1 && Nat.beq ie.bytes 1 && b.live && b.wr && Nat.beq b.ty e) with
            | false => rw [hq, cond_false] at h; cases h
            | true =>
              rw [hq, cond_true] at h
              simp only [Bool.and_eq_true, Nat.beq_eq] at hq
              obtain ⟨⟨⟨⟨q1, q2⟩, q3⟩, q4⟩, q5⟩ := hq
              obtain ⟨⟨⟨c1, c2⟩, c3⟩, c4⟩ := hc
              simp only [aop, hv, ht, aappends, hu, hu', hi, hz, hb]
              rw [if_pos ⟨q1, q2, by omega⟩, if_pos ⟨q3, q4, q5, c3, by rw [q1, Nat.mul_one]; exact c4, c2⟩]
              exact h
          · cases h
        · cases h
      · cases h
    · exact h
  · exact h
end
end Go.RX
