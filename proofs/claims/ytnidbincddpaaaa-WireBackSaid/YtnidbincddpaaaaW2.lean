/- The reader: bytes of a string as a number (take). -/
import Derived.Test.YtnidbincddpaaaaW1
namespace Go.RX
open Go Go.Proofs Go.RowKit
set_option maxRecDepth 100000

def sh8 (v : Int) (b : UInt8) : Int := IntKind.u64.wrap ↑(BitVec.ofInt IntKind.u64.bits (IntKind.u64.wrap (v * 2 ^ min (Int.toNat 8) IntKind.u64.bits)) ||| BitVec.ofInt IntKind.u64.bits (IntKind.u64.wrap ↑b.toNat)).toNat
def inc (a : Int) : Nat → Int
  | 0 => a
  | j + 1 => IntKind.i64.wrap (inc a j + 1)
def tv (s : ByteArray) (a : Int) : Nat → Int
  | 0 => 0
  | j + 1 => sh8 (tv s a j) (s.data.toList.getD (inc a j).toNat 0)
def stopV (e : Int) : Value := .iface 169 (.agg #[.int .i64 e])
@[reducible] def rdB (s : ByteArray) (a : Int) (pl : Bool) : Blk := row [.string s, .int .i64 a] 141 pl
def tk (s : ByteArray) (a : Int) (pl : Bool) (g : Out → List (Option Blk) → Res) : Nat → Nat → Res
  | 0, j => g (.ret (.int .u64 (tv s a j))) [some (rdB s (inc a j) pl)]
  | r + 1, j => bif inB (inc a j) s.size then tk s a pl g r (j + 1) else none

section
variable (s : ByteArray) (a : Int) (pl : Bool) (g : Out → List (Option Blk) → Res)
theorem take1 : run Try.prog (fun _ => none) 100 30 87 [.pointer (some ⟨0,0,none⟩), .int .i64 1] (AH.of [rdB s a pl]) (fun o H' => g o (seen H' 1)) =
    bif !!ltB (IntKind.i64.wrap (↑s.size - a)) 1 then g (.pan (stopV 7)) [some (rdB s a pl)] else tk s a pl g 1 0 := by kernel_rfl
theorem take4 : run Try.prog (fun _ => none) 100 30 87 [.pointer (some ⟨0,0,none⟩), .int .i64 4] (AH.of [rdB s a pl]) (fun o H' => g o (seen H' 1)) =
    bif !!ltB (IntKind.i64.wrap (↑s.size - a)) 4 then g (.pan (stopV 7)) [some (rdB s a pl)] else tk s a pl g 4 0 := by kernel_rfl
theorem take8 : run Try.prog (fun _ => none) 100 30 87 [.pointer (some ⟨0,0,none⟩), .int .i64 8] (AH.of [rdB s a pl]) (fun o H' => g o (seen H' 1)) =
    bif !!ltB (IntKind.i64.wrap (↑s.size - a)) 8 then g (.pan (stopV 7)) [some (rdB s a pl)] else tk s a pl g 8 0 := by kernel_rfl
end

theorem wrap_i64_nat (n : Nat) (h : n < 9223372036854775808) : IntKind.i64.wrap (n : Int) = n := by
  rw [IntKind.wrap_i64]; omega
theorem inc_eq (a j : Nat) (h : a + j < 9223372036854775808) : inc a j = ((a + j : Nat) : Int) := by
  induction j with
  | zero => rfl
  | succ j ih =>
    rw [inc, ih (by omega)]
    exact wrap_i64_nat (a + j + 1) (by omega)
/-- Bytes of a string as a number, the highest one first. -/
def beN (s : ByteArray) (a : Nat) : Nat → Nat
  | 0 => 0
  | j + 1 => beN s a j * 256 + (s.data.toList.getD (a + j) 0).toNat
theorem beN_lt (s : ByteArray) (a : Nat) : ∀ j, beN s a j < 256 ^ j
  | 0 => by simp [beN]
  | j + 1 => by
    have h1 := beN_lt s a j
    have h2 := (s.data.toList.getD (a + j) 0).toNat_lt
    rw [beN, Nat.pow_succ]
    omega
theorem sh8_eq (v : Nat) (b : UInt8) (h : v < 2 ^ 56) : sh8 v b = ((v * 256 + b.toNat : Nat) : Int) := by
  have hb := b.toNat_lt
  unfold sh8
  have e1 : IntKind.u64.wrap ((v : Int) * 2 ^ min (Int.toNat 8) IntKind.u64.bits) = ((v * 256 : Nat) : Int) := by
    rw [IntKind.wrap_u64, show min (Int.toNat 8) IntKind.u64.bits = 8 from rfl]
    rw [Int.emod_eq_of_lt (by omega) (by omega)]
    omega
  have e2 : IntKind.u64.wrap ((b.toNat : Nat) : Int) = (b.toNat : Int) := by
    rw [IntKind.wrap_u64, Int.emod_eq_of_lt (by omega) (by omega)]
  rw [e1, e2, show IntKind.u64.bits = 64 from rfl, BitVec.toNat_or, BitVec.ofInt_natCast, BitVec.ofInt_natCast, BitVec.toNat_ofNat, BitVec.toNat_ofNat, Nat.mod_eq_of_lt (by omega), Nat.mod_eq_of_lt (by omega)]
  have e3 : v * 256 ||| b.toNat = v * 256 + b.toNat := by
    have := Nat.shiftLeft_add_eq_or_of_lt (i := 8) (b := b.toNat) (by omega) v
    rw [Nat.shiftLeft_eq] at this
    exact this.symm
  rw [e3, IntKind.wrap_u64, Int.emod_eq_of_lt (by omega) (by omega)]
theorem tv_eq (s : ByteArray) (a : Nat) : ∀ j, j ≤ 8 → a + j < 9223372036854775808 → tv s a j = beN s a j
  | 0, _, _ => rfl
  | j + 1, h, ha => by
    have h1 := beN_lt s a j
    have h2 : 256 ^ j ≤ 256 ^ 7 := Nat.pow_le_pow_right (by omega) (by omega)
    have h3 : (2 : Nat) ^ 56 = 256 ^ 7 := by decide
    rw [tv, tv_eq s a j (by omega) (by omega), inc_eq a j (by omega), Int.toNat_natCast, sh8_eq _ _ (by omega)]
    rfl
theorem tk_eq (s : ByteArray) (a : Nat) (pl : Bool) (g : Out → List (Option Blk) → Res) (hs : s.size < 4611686018427387904) : ∀ r j, r + j ≤ 8 → a + (r + j) ≤ s.size → tk s a pl g r j = g (.ret (.int .u64 (beN s a (r + j)))) [some (rdB s ((a + (r + j) : Nat) : Int) pl)]
  | 0, j, h, ha => by
    rw [tk, tv_eq s a j (by omega) (by omega), inc_eq a j (by omega), Nat.zero_add]
  | r + 1, j, h, ha => by
    have e : inB (inc a j) s.size = true := by
      rw [inc_eq a j (by omega)]
      simp only [inB, ltB_eq]
      simp only [Bool.and_eq_true, Bool.not_eq_true', decide_eq_false_iff_not, decide_eq_true_eq]
      omega
    rw [tk, e, cond_true, tk_eq s a pl g hs r (j + 1) (by omega) (by omega), show r + (j + 1) = r + 1 + j by omega]

def tkD (s : ByteArray) (a n : Nat) (k : Int → Res) (e : Res) : Res := bif Nat.ble s.size 4611686018427387903 then bif Nat.ble (Nat.add a n) s.size then k (Int.ofNat (beN s a n)) else e else none
def okN (n : Int) : Bool := match n with | .ofNat n => Nat.beq n 1 || (Nat.beq n 4 || Nat.beq n 8) | _ => false
noncomputable def takeS : List Value → AH → (Out → AH → Res) → Res := fun args H k =>
  match args with
  | [.pointer (some ⟨i, o, none⟩), .int .i64 n] => (match H.get i with
    | some ⟨[.string s, .int .i64 (.ofNat a)], t, true, true, pl, none⟩ =>
      bif Nat.beq o 0 && (Nat.beq t 141 && (Nat.ble a 4611686018427387903 && okN n)) then
        tkD s a n.toNat (fun v => k (.ret (.int .u64 v)) (H.set i (rdB s (Int.ofNat (Nat.add a n.toNat)) pl))) (k (.pan (stopV 7)) H)
      else none
    | _ => none)
  | _ => none

section
variable (s : ByteArray) (a : Nat) (pl : Bool)
theorem rd_sc : (rdB s a pl).cells.all (scS 1) = true := by simp [scS]
theorem rd_sc0 : pl = true → (rdB s a pl).cells.all (scS 0) = true := by simp [scS]
theorem stop_sc (n : Nat) (e : Int) : osc n (.pan (stopV e)) := by simp [osc, stopV, scV, scT, scS, s2, s1, s0, sUp]
theorem stop_ren (r : Nat → Nat) (e : Int) : rO r (.pan (stopV e)) = .pan (stopV e) := by simp [rO, stopV, rV, rT, rS, r2, r1, r0, cUp]
theorem take_fun (n : Nat) (hn : n = 1 ∨ n = 4 ∨ n = 8) (hs : s.size ≤ 4611686018427387903) (ha : a ≤ 4611686018427387903) : Fun Try.prog 1 87 [.pointer (some ⟨0,0,none⟩), .int .i64 n] (AH.of [rdB s a pl]) fun o H' =>
    (o = if a + n ≤ s.size then .ret (.int .u64 (beN s a n)) else .pan (stopV 7)) ∧ H' = AH.of [if a + n ≤ s.size then rdB s ((a + n : Nat) : Int) pl else rdB s a pl] := by
  have key : ∀ g, run Try.prog (fun _ => none) 100 30 87 [.pointer (some ⟨0,0,none⟩), .int .i64 n] (AH.of [rdB s a pl]) (fun o H' => g o (seen H' 1)) =
      bif !!ltB (IntKind.i64.wrap (↑s.size - a)) n then g (.pan (stopV 7)) [some (rdB s a pl)] else tk s a pl g n 0 := by
    rcases hn with rfl | rfl | rfl
    · exact take1 s a pl
    · exact take4 s a pl
    · exact take8 s a pl
  by_cases hle : a + n ≤ s.size
  · rw [if_pos hle, if_pos hle]
    refine fun_of_see try_num try_mix tbl_none [rdB s ((a + n : Nat) : Int) pl] (by have h := Low.all (AH.of [rdB s (a : Int) pl]); rwa [AH.size_of] at h) (fun g => (key g).trans ?_) (Nat.le_refl 1) (by simp [osc, scV, scT, scS]) (by simp [scS])
    have e : ltB (IntKind.i64.wrap (↑s.size - (a : Int))) n = false := by
      rw [ltB_eq, decide_eq_false_iff_not, ← Int.ofNat_sub (by omega), wrap_i64_nat _ (by omega)]
      omega
    rw [e, Bool.not_false, Bool.not_true, cond_false, tk_eq s a pl g (by omega) n 0 (by omega) (by omega), Nat.add_zero]
    rfl
  · rw [if_neg hle, if_neg hle]
    refine fun_of_see try_num try_mix tbl_none [rdB s a pl] (by have h := Low.all (AH.of [rdB s (a : Int) pl]); rwa [AH.size_of] at h) (fun g => (key g).trans ?_) (Nat.le_refl 1) (stop_sc _ _) (by simp [scS])
    have e : ltB (IntKind.i64.wrap (↑s.size - (a : Int))) n = true := by
      rw [ltB_eq, decide_eq_true_iff]
      rw [IntKind.wrap_i64]; omega
    rw [e, Bool.not_true, Bool.not_false, cond_true]
    rfl
end
theorem takeS_ok : CallOK Try.prog (fun g args H k => if g = 87 then takeS args H k else none) := by
  refine callOK_of_fun fun args H k r hr => ?_
  unfold takeS at hr
  split at hr
  · rename_i i o n
    split at hr
    · rename_i s a t pl hi
      obtain ⟨hc, hr2⟩ := cond_some hr
      clear hr
      simp only [Bool.and_eq_true, Nat.beq_eq] at hc
      obtain ⟨rfl, rfl, ha, hn⟩ := hc
      obtain ⟨n, rfl, hn3⟩ : ∃ m : Nat, n = m ∧ (m = 1 ∨ m = 4 ∨ m = 8) := by
        unfold okN at hn
        split at hn
        · rename_i n0 m
          simp only [Bool.or_eq_true, Nat.beq_eq] at hn
          exact ⟨m, rfl, hn⟩
        · cases hn
      unfold tkD at hr2
      obtain ⟨hs, hr⟩ := cond_some hr2
      clear hr2
      rw [Nat.ble_eq] at hs
      have h1 := take_fun s a pl n hn3 hs (by rwa [Nat.ble_eq] at ha)
      rw [Int.toNat_natCast] at hr
      by_cases hle : a + n ≤ s.size
      · rw [if_pos hle, if_pos hle] at h1
        rw [show Nat.ble (Nat.add a n) s.size = true from by rw [Nat.ble_eq]; exact hle, cond_true] at hr
        exact ⟨_, fun_one h1 hi (rd_sc s a pl) (rd_sc0 s a pl) rfl (rd_sc s _ pl) rfl (by simp [scV, scT, scS]), fun o' H' ⟨h1, h2⟩ => by rw [h1, h2]; exact hr⟩
      · rw [if_neg hle, if_neg hle] at h1
        have e : Nat.ble (Nat.add a n) s.size = false := by
          cases h : Nat.ble (Nat.add a n) s.size with
          | false => rfl
          | true => rw [Nat.ble_eq] at h; exact absurd h hle
        rw [e, cond_false] at hr
        exact ⟨_, fun_one' h1 hi (rd_sc s a pl) (rd_sc0 s a pl) rfl (by simp [scV, scT, scS]), fun o' H' ⟨h1, h2⟩ => by rw [h1, h2, stop_ren]; exact hr⟩
    · cases hr
  · cases hr
end Go.RX
