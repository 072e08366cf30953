/- ReadCall: what it tells. -/
import Derived.Test.YtnidbincddpaaaaW16
namespace Go.RX
open Go Go.Proofs Go.RowKit
set_option maxRecDepth 100000

def Fk.ok (f : Fk) (v : Nat) : Bool :=
  match f with
  | .byte m => decide (v ≤ m)
  | .parts m _ => decide (v ≤ m)
  | .cnt => decide (v ≤ 2147483647)
  | .ver => decide (v ≤ 1099511627776)
  | .int => true
  | .num => decide (v ≠ 9223372036854775808)
/-- Fields one after the other: their numbers, or the error. -/
def decF (s : ByteArray) : List Fk → Nat → Except Int (List Int)
  | [], _ => .ok []
  | f :: fs, a => if a + f.n ≤ s.size then (if f.ok (beN s a f.n) = true then (match decF s fs (a + f.n) with | .ok l => .ok ((beN s a f.n : Int) :: l) | .error e => .error e) else .error 4) else .error 7
def Fk.pok (f : Fk) (v : Nat) : Prop := match f with | .parts m n => v ≤ m → v = n | _ => True
def PartsOK (s : ByteArray) : List Fk → Nat → Prop
  | [], _ => True
  | f :: fs, a => f.pok (beN s a f.n) ∧ PartsOK s fs (a + f.n)
theorem w64_min (v : Nat) (h : v < 18446744073709551616) : w64 (v : Int) = -9223372036854775808 ↔ v = 9223372036854775808 := by
  unfold w64
  rw [IntKind.wrap_i64]
  omega
theorem Fk.go_eq (f : Fk) (v : Nat) (h : v < 256 ^ f.n) (hp : f.pok v) (er : Res) (k : Int → Res) : f.go (v : Int) er k = if f.ok v = true then k (v : Int) else er := by
  have key : ∀ m : Nat, (bif !!ltB (Int.ofNat m) (v : Int) then er else k (v : Int)) = if decide (v ≤ m) = true then k (v : Int) else er := by
    intro m
    rw [ltB_eq, Bool.not_not, Int.ofNat_eq_natCast]
    by_cases hm : v ≤ m
    · rw [decide_eq_false (by omega), cond_false, if_pos (by simpa using hm)]
    · rw [decide_eq_true (by omega), cond_true, if_neg (by simpa using hm)]
  cases f with
  | byte m => exact key m
  | cnt => exact key 2147483647
  | ver => exact key 1099511627776
  | int => rfl
  | num =>
    have h2 := w64_min v h
    show (bif !(w64 (v : Int) != -9223372036854775808) then er else k (v : Int)) = _
    by_cases hv : v = 9223372036854775808
    · have e : (w64 (v : Int) != -9223372036854775808) = false := by rw [bne_eq_false_iff_eq]; exact h2.2 hv
      rw [e, if_neg (by simpa [Fk.ok] using hv)]; rfl
    · have e : (w64 (v : Int) != -9223372036854775808) = true := by rw [bne_iff_ne]; exact fun h => hv (h2.1 h)
      rw [e, if_pos (by simpa [Fk.ok] using hv)]; rfl
  | parts m n =>
    show (bif !!ltB (Int.ofNat m) (v : Int) then er else bif asks (w64 (v : Int) = Int.ofNat n) then k (Int.ofNat n) else none) = if decide (v ≤ m) = true then k (v : Int) else er
    rw [ltB_eq, Bool.not_not, Int.ofNat_eq_natCast]
    by_cases hm : v ≤ m
    · have hv := hp hm
      have h : v < 256 := h
      have e : w64 (v : Int) = (v : Int) := w64_nat v (by omega)
      rw [decide_eq_false (by omega), cond_false, if_pos (by simpa using hm), asks_true (by rw [e, hv]; rfl), cond_true, ← hv]
      rfl
    · rw [decide_eq_true (by omega), cond_true, if_neg (by simpa using hm)]
theorem rdN_eq {s : ByteArray} (hs : s.size ≤ 4611686018427387903) (er : Int → Res) : ∀ (fs : List Fk) (a : Nat) (k : List Int → Res), PartsOK s fs a →
    rdN s er fs a k = match decF s fs a with | .ok l => k l | .error e => er e
  | [], a, k, _ => rfl
  | f :: fs, a, k, hp => by
    have e1 : Nat.ble s.size 4611686018427387903 = true := by rw [Nat.ble_eq]; exact hs
    rw [rdN, e1, cond_true, decF]
    by_cases h : a + f.n ≤ s.size
    · rw [if_pos h, show Nat.ble (Nat.add a f.n) s.size = true by rw [Nat.ble_eq]; exact h, cond_true]
      rw [show Int.ofNat (beN s a f.n) = ((beN s a f.n : Nat) : Int) from rfl, Fk.go_eq f _ (beN_lt s a f.n) hp.1]
      by_cases hk : f.ok (beN s a f.n) = true
      · rw [if_pos hk, if_pos hk, rdN_eq hs er fs (Nat.add a f.n) _ hp.2]
        show (match decF s fs (a + f.n) with | .ok l => k (((beN s a f.n : Nat) : Int) :: l) | .error e => er e) = _
        cases decF s fs (a + f.n) <;> rfl
      · rw [if_neg hk, if_neg hk]
    · rw [if_neg h, show Nat.ble (Nat.add a f.n) s.size = false by
        cases hc : Nat.ble (Nat.add a f.n) s.size with
        | false => rfl
        | true => rw [Nat.ble_eq] at hc; exact absurd hc h, cond_false]

/-- How many corners a string tells of. -/
def ptOf (s : ByteArray) : Nat := if beN s 0 1 = 1 ∧ beN s 30 1 ≤ 8 then beN s 30 1 else 0
def fmtOf (s : ByteArray) : List Fk := fmtK (beN s 0 1) (ptOf s)
/-- The call that a string is, or the error. -/
def rdCall (s : ByteArray) : Except Int Cl :=
  if 1 ≤ s.size then
    (if 1 ≤ beN s 0 1 ∧ beN s 0 1 ≤ 10 then
      (match decF s (fmtOf s) 1 with
      | .ok l => if 1 + Fk.size (fmtOf s) = s.size then .ok (mkL l (beN s 0 1) (ptOf s)) else .error 6
      | .error e => .error e)
    else .error 8)
  else .error 7
theorem parts_ints (s : ByteArray) : ∀ n a, PartsOK s (fInts n) a
  | 0, _ => trivial
  | n + 1, _ => ⟨trivial, parts_ints s n _⟩
theorem parts_app {s : ByteArray} : ∀ {x y : List Fk} {a : Nat}, PartsOK s x a → PartsOK s y (a + Fk.size x) → PartsOK s (x ++ y) a
  | [], _, _, _, h => h
  | f :: x, y, a, h1, h2 => ⟨h1.1, parts_app h1.2 (by rw [Fk.size] at h2; rwa [show a + f.n + Fk.size x = a + (f.n + Fk.size x) by omega])⟩
/-- Fields that tell no number of parts. -/
def noParts : List Fk → Bool
  | [] => true
  | .parts _ _ :: _ => false
  | _ :: r => noParts r
theorem parts_no {s : ByteArray} : ∀ {x : List Fk} {a : Nat}, noParts x = true → PartsOK s x a
  | [], _, _ => trivial
  | f :: x, a, h => by
    cases f with
    | parts m n => cases h
    | _ => exact ⟨trivial, parts_no h⟩
theorem parts_fmt (s : ByteArray) (n : Nat) (h : beN s 30 1 ≤ 8 → beN s 30 1 = n) : PartsOK s (fmtK 1 n) 1 := by
  refine ⟨trivial, ?_⟩
  refine parts_app ?_ (parts_no rfl)
  exact parts_app ⟨trivial, trivial, trivial, trivial, h, trivial⟩ (parts_ints s _ _)
section
variable (s : ByteArray) (g : Out → List (Option Blk) → Res) (p : Value) (B : Cl → List (Option Blk))
theorem rdNest_eq (hs : s.size ≤ 4611686018427387903) {kd n : Nat} (hk : 1 ≤ s.size → 1 ≤ beN s 0 1 ∧ beN s 0 1 ≤ 10 → kd = beN s 0 1 ∧ n = ptOf s ∧ PartsOK s (fmtK kd n) 1) : rdNest s g p B kd n = match rdCall s with | .ok c => g (.ret (.tuple #[.agg ⟨c.cells p⟩, .int .i64 0])) (B c) | .error e => erC g e := by
  have e1 : Nat.ble s.size 4611686018427387903 = true := by rw [Nat.ble_eq]; exact hs
  unfold rdNest rdCall
  rw [e1, cond_true]
  by_cases h1 : 1 ≤ s.size
  · rw [if_pos h1, show Nat.ble (Nat.add 0 1) s.size = true by rw [Nat.ble_eq]; exact h1, cond_true]
    have hb := beN_lt s 0 1
    have ew : w64 (Int.ofNat (beN s 0 1)) = ((beN s 0 1 : Nat) : Int) := w64_nat _ (by omega)
    rw [ew, ltB_eq, ltB_eq]
    by_cases h2 : 1 ≤ beN s 0 1 ∧ beN s 0 1 ≤ 10
    · obtain ⟨rfl, rfl, hp⟩ := hk h1 h2
      rw [if_pos h2, decide_eq_false (by omega), decide_eq_false (by omega), asks_true (show ((beN s 0 1 : Nat) : Int) = Int.ofNat (beN s 0 1) from rfl)]
      simp only [Bool.not_false, Bool.not_true, cond_true, cond_false]
      rw [rdN_eq hs (erC g) _ _ _ hp]
      show (match decF s (fmtOf s) 1 with | .ok l => _ | .error e => _) = _
      cases hd : decF s (fmtOf s) 1 with
      | error e => rfl
      | ok l =>
        simp only
        by_cases h3 : 1 + Fk.size (fmtOf s) = s.size
        · rw [if_pos h3]
          have e3 : ((Int.ofNat (Nat.add 1 (Fk.size (fmtK (beN s 0 1) (ptOf s))))) == (s.size : Int)) = true := by
            rw [beq_iff_eq, ← h3]; rfl
          rw [e3]; rfl
        · rw [if_neg h3]
          have e3 : ((Int.ofNat (Nat.add 1 (Fk.size (fmtK (beN s 0 1) (ptOf s))))) == (s.size : Int)) = false := by
            rw [beq_eq_false_iff_ne]
            intro h
            exact h3 (Int.ofNat_inj.1 h)
          rw [e3]; rfl
    · rw [if_neg h2]
      by_cases h3 : 1 ≤ beN s 0 1
      · rw [decide_eq_false (by omega), decide_eq_true (by omega)]; rfl
      · rw [decide_eq_true (by omega)]; rfl
  · rw [if_neg h1, show Nat.ble (Nat.add 0 1) s.size = false by
        cases hc : Nat.ble (Nat.add 0 1) s.size with
        | false => rfl
        | true => rw [Nat.ble_eq] at hc; exact absurd hc h1, cond_false]
end
end Go.RX
