/- Bytes and fields: what is read is what stands there. -/
import Derived.Test.YtnidbincddpaaaaW18
namespace Go.RX
open Go Go.Proofs Go.RowKit

/-- The byte at a place; 0 behind the end. -/
def bt (s : ByteArray) (j : Nat) : UInt8 := s.data.toList.getD j 0
/-- The lowest n bytes of a number, the highest first. -/
def be : Nat → Nat → List UInt8
  | 0, _ => []
  | n + 1, v => be n (v / 256) ++ [UInt8.ofNat v]
theorem be_len : ∀ n v, (be n v).length = n
  | 0, _ => rfl
  | n + 1, v => by rw [be, List.length_append, be_len n]; rfl
/-- The bytes from a place on. -/
def bs (s : ByteArray) (a : Nat) : Nat → List UInt8
  | 0 => []
  | n + 1 => bs s a n ++ [bt s (a + n)]
theorem bs_len (s : ByteArray) (a : Nat) : ∀ n, (bs s a n).length = n
  | 0 => rfl
  | n + 1 => by rw [bs, List.length_append, bs_len s a n]; rfl
theorem bs_add (s : ByteArray) (a n : Nat) : ∀ m, bs s a (n + m) = bs s a n ++ bs s (a + n) m
  | 0 => by simp [bs]
  | m + 1 => by
    rw [← Nat.add_assoc, bs, bs_add s a n m, bs, List.append_assoc, Nat.add_assoc]
theorem be_beN (s : ByteArray) (a : Nat) : ∀ n, be n (beN s a n) = bs s a n
  | 0 => rfl
  | n + 1 => by
    have h := (bt s (a + n)).toNat_lt
    rw [be, beN, bs]
    have e1 : (beN s a n * 256 + (s.data.toList.getD (a + n) 0).toNat) / 256 = beN s a n := by
      have : (s.data.toList.getD (a + n) 0).toNat < 256 := h
      omega
    have e2 : UInt8.ofNat (beN s a n * 256 + (s.data.toList.getD (a + n) 0).toNat) = bt s (a + n) := by
      have h' : (s.data.toList.getD (a + n) 0).toNat < 256 := h
      apply UInt8.toNat_inj.1
      rw [UInt8.toNat_ofNat']
      unfold bt
      omega
    rw [e1, be_beN s a n, e2]
theorem beN_of_bs {s : ByteArray} {a : Nat} : ∀ {n v : Nat}, v < 256 ^ n → bs s a n = be n v → beN s a n = v
  | 0, v, h, _ => by
    have : v = 0 := by simpa using h
    rw [this]; rfl
  | n + 1, v, h, he => by
    rw [bs, be] at he
    have h1 := List.append_inj he (by rw [bs_len, be_len])
    have h2 : v / 256 < 256 ^ n := by rw [Nat.pow_succ] at h; omega
    have h3 := beN_of_bs h2 h1.1
    have h4 : bt s (a + n) = UInt8.ofNat v := by simpa using h1.2
    have h5 := congrArg UInt8.toNat h4
    rw [UInt8.toNat_ofNat'] at h5
    unfold bt at h5
    rw [beN, h3, h5]
    omega
theorem bs_all (s : ByteArray) : ∀ n, n ≤ s.size → bs s 0 n = s.data.toList.take n
  | 0, _ => by simp [bs]
  | n + 1, h => by
    have hl : s.data.toList.length = s.size := by rw [Array.length_toList]; rfl
    have hn : n < s.data.toList.length := by omega
    rw [bs, bs_all s n (by omega), Nat.zero_add, List.take_add_one, List.getElem?_eq_getElem hn]
    congr 1
    unfold bt
    rw [List.getD_eq_getElem?_getD, List.getElem?_eq_getElem hn]
    rfl
theorem bs_whole (s : ByteArray) : bs s 0 s.size = s.data.toList := by
  rw [bs_all s s.size (Nat.le_refl _), List.take_of_length_le]
  rw [Array.length_toList]
  exact Nat.le_refl _

/-- Two strings have the same bytes up to a place. -/
def Agree (s t : ByteArray) (n : Nat) : Prop := ∀ j, j < n → bt s j = bt t j
theorem Agree.mono {s t : ByteArray} {n m : Nat} (h : Agree s t n) (hm : m ≤ n) : Agree s t m := fun j hj => h j (by omega)
theorem beN_agree {s t : ByteArray} {a : Nat} : ∀ {n : Nat}, Agree s t (a + n) → beN s a n = beN t a n
  | 0, _ => rfl
  | n + 1, h => by
    have h1 := h (a + n) (by omega)
    unfold bt at h1
    rw [beN, beN, beN_agree (n := n) (h.mono (by omega)), h1]
theorem bs_agree {s t : ByteArray} {a : Nat} : ∀ {n : Nat}, Agree s t (a + n) → bs s a n = bs t a n
  | 0, _ => rfl
  | n + 1, h => by rw [bs, bs, bs_agree (n := n) (h.mono (by omega)), h (a + n) (by omega)]

theorem decF_agree {s t : ByteArray} : ∀ {fs : List Fk} {a : Nat}, Agree s t (a + Fk.size fs) → a + Fk.size fs ≤ s.size → a + Fk.size fs ≤ t.size → decF s fs a = decF t fs a
  | [], _, _, _, _ => rfl
  | f :: fs, a, h, h1, h2 => by
    rw [Fk.size] at h h1 h2
    have h3 : a + f.n ≤ s.size := by omega
    have h4 : a + f.n ≤ t.size := by omega
    have e := decF_agree (fs := fs) (a := a + f.n) (h.mono (by omega)) (by omega) (by omega)
    rw [decF, decF, if_pos h3, if_pos h4, beN_agree (n := f.n) (h.mono (by omega)), e]
theorem decF_cons {s : ByteArray} {f : Fk} {fs : List Fk} {a : Nat} {l : List Int} (h : decF s (f :: fs) a = .ok l) :
    ∃ r, l = (beN s a f.n : Int) :: r ∧ a + f.n ≤ s.size ∧ f.ok (beN s a f.n) = true ∧ decF s fs (a + f.n) = .ok r := by
  rw [decF] at h
  split at h
  · rename_i h1
    split at h
    · rename_i h2
      split at h
      · rename_i r h3
        injection h with h
        exact ⟨r, h.symm, h1, h2, h3⟩
      · cases h
    · cases h
  · cases h
theorem decF_step {s : ByteArray} {f : Fk} {fs : List Fk} {a : Nat} {r : List Int} (h1 : a + f.n ≤ s.size) (h2 : f.ok (beN s a f.n) = true) (h3 : decF s fs (a + f.n) = .ok r) : decF s (f :: fs) a = .ok ((beN s a f.n : Int) :: r) := by
  rw [decF, if_pos h1, if_pos h2, h3]
theorem decF_size {s : ByteArray} : ∀ {fs : List Fk} {a : Nat} {l : List Int}, a ≤ s.size → decF s fs a = .ok l → a + Fk.size fs ≤ s.size
  | [], _, _, h, _ => h
  | f :: fs, a, l, _, hd => by
    obtain ⟨r, _, h1, _, h3⟩ := decF_cons hd
    have := decF_size h1 h3
    rw [Fk.size]; omega
/-- A string that is cut is too short. -/
theorem decF_short {s t : ByteArray} : ∀ {fs : List Fk} {a : Nat} {l : List Int}, decF s fs a = .ok l → a ≤ t.size → t.size < a + Fk.size fs → Agree s t t.size → decF t fs a = .error 7
  | [], a, _, _, h1, h2, _ => by rw [Fk.size] at h2; omega
  | f :: fs, a, l, hd, h1, h2, h => by
    obtain ⟨r, _, h3, h4, h5⟩ := decF_cons hd
    rw [decF]
    by_cases h6 : a + f.n ≤ t.size
    · rw [if_pos h6, ← beN_agree (n := f.n) (h.mono h6), if_pos h4, decF_short h5 h6 (by rw [Fk.size] at h2; omega) h]
    · rw [if_neg h6]
theorem Fk.size_app : ∀ x y : List Fk, Fk.size (x ++ y) = Fk.size x + Fk.size y
  | [], y => by rw [List.nil_append, Fk.size]; omega
  | f :: x, y => by rw [List.cons_append, Fk.size, Fk.size, Fk.size_app x y]; omega
theorem decF_app_err {s : ByteArray} {e : Int} : ∀ {x y : List Fk} {a : Nat}, decF s x a = .error e → decF s (x ++ y) a = .error e
  | [], _, _, h => by cases h
  | f :: x, y, a, h => by
    rw [List.cons_append, decF]
    rw [decF] at h
    split at h
    · rename_i h1
      rw [if_pos h1]
      split at h
      · rename_i h2
        rw [if_pos h2]
        cases h3 : decF s x (a + f.n) with
        | error e' =>
          rw [h3] at h
          injection h with h
          rw [decF_app_err h3, h]
        | ok r => rw [h3] at h; cases h
      · rename_i h2
        rw [if_neg h2]; exact h
    · rename_i h1
      rw [if_neg h1]; exact h
theorem decF_app {s : ByteArray} {y : List Fk} {r : List Int} : ∀ {x : List Fk} {a : Nat} {l : List Int}, decF s x a = .ok l → decF s y (a + Fk.size x) = .ok r → decF s (x ++ y) a = .ok (l ++ r)
  | [], a, l, h, h2 => by
    injection h with h
    subst h
    exact h2
  | f :: x, a, l, h, h2 => by
    obtain ⟨q, rfl, h3, h4, h5⟩ := decF_cons h
    rw [Fk.size] at h2
    exact decF_step h3 h4 (decF_app h5 (by rwa [Nat.add_assoc]))

/-- Numbers of fields, written. -/
def encA : List Fk → List Int → Nat → List UInt8
  | [], _, _ => []
  | f :: fs, l, i => be f.n (l.getD i 0).toNat ++ encA fs l (i + 1)
def Good : List Fk → List Int → Nat → Prop
  | [], _, _ => True
  | f :: fs, l, i => (∃ v : Nat, l.getD i 0 = (v : Int) ∧ v < 256 ^ f.n ∧ f.ok v = true) ∧ Good fs l (i + 1)
theorem encA_app : ∀ (x y : List Fk) (l : List Int) (i : Nat), encA (x ++ y) l i = encA x l i ++ encA y l (i + x.length)
  | [], y, l, i => rfl
  | f :: x, y, l, i => by rw [List.cons_append, encA, encA, encA_app x y l (i + 1), List.append_assoc, List.length_cons, show i + 1 + x.length = i + (x.length + 1) by omega]
theorem good_app {l : List Int} : ∀ {x y : List Fk} {i : Nat}, Good (x ++ y) l i → Good x l i ∧ Good y l (i + x.length)
  | [], _, _, h => ⟨trivial, h⟩
  | f :: x, y, i, h => by
    obtain ⟨h1, h2⟩ := h
    obtain ⟨h3, h4⟩ := good_app (x := x) (y := y) h2
    exact ⟨⟨h1, h3⟩, by rwa [List.length_cons, show i + (x.length + 1) = i + 1 + x.length by omega]⟩
theorem getD_drop (l : List Int) (p : List Int) (i : Nat) : (p ++ l).getD (p.length + i) 0 = l.getD i 0 := by
  rw [List.getD_eq_getElem?_getD, List.getD_eq_getElem?_getD, List.getElem?_append_right (by omega)]
  congr 2
  omega
/-- What was read is what stands there. -/
theorem decF_sound {s : ByteArray} : ∀ {fs : List Fk} {a : Nat} {l : List Int} (p : List Int), decF s fs a = .ok l → encA fs (p ++ l) p.length = bs s a (Fk.size fs) ∧ Good fs (p ++ l) p.length
  | [], _, _, _, _ => ⟨rfl, trivial⟩
  | f :: fs, a, l, p, h => by
    obtain ⟨r, rfl, h1, h2, h3⟩ := decF_cons h
    have hg : (p ++ (beN s a f.n : Int) :: r).getD p.length 0 = (beN s a f.n : Int) := by
      simp
    have e : p ++ (beN s a f.n : Int) :: r = (p ++ [(beN s a f.n : Int)]) ++ r := by simp
    have h4 := decF_sound (p ++ [(beN s a f.n : Int)]) h3
    rw [← e, List.length_append] at h4
    refine ⟨?_, ⟨beN s a f.n, hg, beN_lt s a f.n, h2⟩, h4.2⟩
    rw [encA, hg, Int.toNat_natCast, be_beN, Fk.size, bs_add]
    congr 1
    exact h4.1
end Go.RX
