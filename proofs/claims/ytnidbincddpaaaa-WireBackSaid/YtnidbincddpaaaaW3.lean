/- The source of numbers: next, from, num. -/
import Derived.Test.YtnidbincddpaaaaW2
namespace Go.RX
open Go Go.Proofs Go.RowKit
set_option maxRecDepth 100000

@[reducible] def nsB (l : List Int) (wr pl : Bool) : Blk := ⟨l.map (Value.int .i64), 2, wr, true, pl, none⟩
@[reducible] def srB (l : List Int) (a : Int) (p2 : Bool) : Blk := row [.slice (some ⟨1, 0, none⟩) l.length l.length, .int .i64 a] 114 p2
@[reducible] def srN (a : Int) : Blk := row [.slice none 0 0, .int .i64 a] 114 false
@[reducible] def deB (t2 : TypeId) (wr pl : Bool) : Blk := ⟨[], t2, wr, false, pl, none⟩
@[reducible] def srD (a : Int) : Blk := row [.slice (some ⟨1, 0, some 0⟩) 0 0, .int .i64 a] 114 false
def w64 (x : Int) : Int := IntKind.i64.wrap x

section
variable (l : List Int) (a : Int) (wr pl p2 : Bool) (g : Out → List (Option Blk) → Res)
theorem next_nest : run Try.prog (fun _ => none) 100 30 66 [.pointer (some ⟨0,0,none⟩)] (AH.of [srB l a p2, nsB l wr pl]) (fun o H' => g o (seen H' 2)) =
    bif ltB l.length (w64 (a + 1)) then g (.ret (.int .i64 0)) [some (nsB l wr pl), some (srB l (w64 (a + 1)) p2)] else
    bif inB (w64 (w64 (a + 1) - 1)) l.length then (match lget (l.map (Value.int .i64)) (Nat.add 0 (Nat.mul (w64 (w64 (a + 1) - 1)).toNat 1)) with
      | some v => g (.ret v) [some (nsB l wr pl), some (srB l (w64 (a + 1)) p2)]
      | none => none) else none := by kernel_rfl
end

theorem nextN_nest (a : Int) (g : Out → List (Option Blk) → Res) : run Try.prog (fun _ => none) 100 30 66 [.pointer (some ⟨0,0,none⟩)] (AH.of [srN a]) (fun o H' => g o (seen H' 1)) =
    bif ltB 0 (w64 (a + 1)) then g (.ret (.int .i64 0)) [some (srN (w64 (a + 1)))] else none := by kernel_rfl
theorem nextD_nest (a : Int) (t2 : TypeId) (wr pl : Bool) (g : Out → List (Option Blk) → Res) : run Try.prog (fun _ => none) 100 30 66 [.pointer (some ⟨0,0,none⟩)] (AH.of [srD a, deB t2 wr pl]) (fun o H' => g o (seen H' 2)) =
    bif ltB 0 (w64 (a + 1)) then g (.ret (.int .i64 0)) [some (deB t2 wr pl), some (srD (w64 (a + 1)))] else bif inB (w64 (w64 (a + 1) - 1)) 0 then none else none := by kernel_rfl
/-- The number at a place of a list, 0 behind its end. -/
def nth (l : List Int) (a : Nat) : Int := l.getD a 0
def vInt : Value → Int
  | .int _ n => n
  | _ => 0
def isI64 : Value → Bool
  | .int .i64 _ => true
  | _ => false
theorem ints_eq : ∀ {cells : List Value}, cells.all isI64 = true → cells = (cells.map vInt).map (Value.int .i64)
  | [], _ => rfl
  | v :: r, h => by
    rw [List.all_cons, Bool.and_eq_true] at h
    rw [List.map_cons, List.map_cons, ← ints_eq h.2]
    congr 1
    have h1 := h.1
    unfold isI64 at h1
    split at h1
    · rfl
    · cases h1
theorem w64_nat (n : Nat) (h : n < 9223372036854775808) : w64 (n : Int) = n := wrap_i64_nat n h

theorem next_fun (l : List Int) (a : Nat) (wr pl : Bool) (ha : a ≤ 4611686018427387903) : Fun Try.prog 2 66 [.pointer (some ⟨0,0,none⟩)] (AH.of [srB l a false, nsB l wr pl]) fun o H' =>
    o = .ret (.int .i64 (nth l a)) ∧ H' = AH.of [srB l ((a + 1 : Nat) : Int) false, nsB l wr pl] := by
  refine fun_of_see try_num try_mix tbl_none [srB l ((a + 1 : Nat) : Int) false, nsB l wr pl] (low_of _ rfl) (fun g => (next_nest l a wr pl false g).trans ?_) (Nat.le_refl 2) (by simp [osc, scV, scT, scS]) ?_
  · have e1 : w64 ((a : Int) + 1) = ((a + 1 : Nat) : Int) := w64_nat (a + 1) (by omega)
    have e2 : w64 (((a + 1 : Nat) : Int) - 1) = (a : Int) := by
      rw [show ((a + 1 : Nat) : Int) - 1 = (a : Int) by omega]
      exact w64_nat a (by omega)
    rw [e1, e2, ltB_eq]
    by_cases h : l.length ≤ a
    · have e3 : decide ((l.length : Int) < ((a + 1 : Nat) : Int)) = true := by rw [decide_eq_true_iff]; omega
      rw [e3, cond_true]
      have : nth l a = 0 := by unfold nth; rw [List.getD_eq_getElem?_getD, List.getElem?_eq_none h]; rfl
      rw [this]; rfl
    · have e3 : decide ((l.length : Int) < ((a + 1 : Nat) : Int)) = false := by rw [decide_eq_false_iff_not]; omega
      have e4 : inB (a : Int) l.length = true := by
        simp only [inB, ltB_eq]
        simp only [Bool.and_eq_true, Bool.not_eq_true', decide_eq_false_iff_not, decide_eq_true_eq]
        omega
      have e5 : lget (l.map (Value.int .i64)) (Nat.add 0 (Nat.mul ((a : Int)).toNat 1)) = some (.int .i64 (nth l a)) := by
        rw [lget_eq, show Nat.add 0 (Nat.mul ((a : Int)).toNat 1) = a by simp, List.getElem?_map]
        unfold nth
        rw [List.getD_eq_getElem?_getD, List.getElem?_eq_getElem (by omega)]
        rfl
      rw [e3, cond_false, e4, cond_true, e5]
      rfl
  · simp [scS]

def srcOK (cells : List Value) (n c : Nat) : Bool := Nat.beq n cells.length && (Nat.beq c cells.length && cells.all isI64)
def nthV (cells : List Value) (a : Nat) : Int := nth (cells.map vInt) a
noncomputable def srcS (val : List Value → Nat → Value) (p : Value) (H : AH) (k : Out → AH → Res) : Res :=
  match p with
  | .pointer (some ⟨i, o, none⟩) => (match H.get i with
    | some ⟨[.slice none 0 0, .int .i64 (.ofNat a)], t, true, true, false, none⟩ => bif Nat.beq o 0 && (Nat.beq t 114 && Nat.ble a 4611686018427387903) then k (.ret (val [] a)) (H.set i (row [.slice none 0 0, .int .i64 (Int.ofNat (Nat.add a 1))] 114 false)) else none
    | some ⟨[.slice (some ⟨j, o2, none⟩) n c, .int .i64 (.ofNat a)], t, true, true, false, none⟩ => (match H.get j with
      | some ⟨cells, t2, _, true, _, none⟩ =>
        bif Nat.beq o 0 && (Nat.beq o2 0 && (Nat.beq t 114 && (Nat.beq t2 2 && Nat.ble a 4611686018427387903))) then
          bif srcOK cells n c then k (.ret (val cells a)) (H.set i (row [.slice (some ⟨j, 0, none⟩) n c, .int .i64 (Int.ofNat (Nat.add a 1))] 114 false)) else none else none
      | _ => none)
    | some ⟨[.slice (some ⟨j, o2, some 0⟩) 0 0, .int .i64 (.ofNat a)], t, true, true, false, none⟩ => (match H.get j with
      | some ⟨[], _, _, false, _, none⟩ =>
        bif Nat.beq o 0 && (Nat.beq o2 0 && (Nat.beq t 114 && Nat.ble a 4611686018427387903)) then
          k (.ret (val [] a)) (H.set i (row [.slice (some ⟨j, 0, some 0⟩) 0 0, .int .i64 (Int.ofNat (Nat.add a 1))] 114 false)) else none
      | _ => none)
    | _ => none)
  | _ => none
def nextVal (cells : List Value) (a : Nat) : Value := .int .i64 (nthV cells a)
noncomputable def nextS : List Value → AH → (Out → AH → Res) → Res := fun args H k =>
  match args with
  | [p] => srcS nextVal p H k
  | _ => none
theorem nsB_fine (l : List Int) (wr pl : Bool) : Fine 2 (nsB l wr pl) := ⟨by simp [scS], by simp [scS], rfl⟩
theorem srB_fine (l : List Int) (a : Int) : Fine 2 (srB l a false) := ⟨by simp [scS], by simp, rfl⟩
theorem srD_fine (a : Int) : Fine 2 (srD a) := ⟨by simp [scS], by simp, rfl⟩
theorem rB_nsB (r : Nat → Nat) (l : List Int) (wr pl : Bool) : rB r (nsB l wr pl) = nsB l wr pl := by
  unfold rB
  simp only [List.map_map, Option.map_none]
  rfl
theorem ints_back (l : List Int) : (l.map (Value.int .i64)).map vInt = l := by
  rw [List.map_map]
  exact (List.map_congr_left (g := id) fun _ _ => rfl).trans (List.map_id _)
theorem srcS_fun {f : FuncId} {val : List Value → Nat → Value} {rest : List Value} (hrest : ∀ v ∈ rest, ∀ r : Nat → Nat, scV 0 v = true ∧ rV r v = v) (hval : ∀ l a, ∀ r : Nat → Nat, rV r (val l a) = val l a)
    (h0 : ∀ (a : Nat), a ≤ 4611686018427387903 → Fun Try.prog 1 f (.pointer (some ⟨0,0,none⟩) :: rest) (AH.of [srN a]) fun o H' => o = .ret (val [] a) ∧ H' = AH.of [srN ((a + 1 : Nat) : Int)])
    (hd : ∀ (a : Nat) (t2 : TypeId) (wr pl : Bool), a ≤ 4611686018427387903 → Fun Try.prog 2 f (.pointer (some ⟨0,0,none⟩) :: rest) (AH.of [srD a, deB t2 wr pl]) fun o H' => o = .ret (val [] a) ∧ H' = AH.of [srD ((a + 1 : Nat) : Int), deB t2 wr pl])
    (h : ∀ (l : List Int) (a : Nat) (wr pl : Bool), a ≤ 4611686018427387903 → Fun Try.prog 2 f (.pointer (some ⟨0,0,none⟩) :: rest) (AH.of [srB l a false, nsB l wr pl]) fun o H' =>
      o = .ret (val (l.map (Value.int .i64)) a) ∧ H' = AH.of [srB l ((a + 1 : Nat) : Int) false, nsB l wr pl])
    {p : Value} {H : AH} {k : Out → AH → Res} {r : Out × AH} (hr : srcS val p H k = some r) : ∃ Q, Fun Try.prog H.size f (p :: rest) H Q ∧ ∀ o H', Q o H' → k o H' = some r := by
  unfold srcS at hr
  split at hr
  · rename_i i o
    split at hr
    · rename_i a t hi
      obtain ⟨hc, hr2⟩ := cond_some hr
      clear hr
      simp only [Bool.and_eq_true, Nat.beq_eq, Nat.ble_eq] at hc
      obtain ⟨rfl, rfl, ha⟩ := hc
      have h2 := fun_one (H := H) (i := i) (h0 a ha) (by rw [hi]; simp [rB, rS]) (by simp [scS]) (by simp) rfl (by simp [scS]) rfl (by
        intro v hv
        rcases List.mem_cons.1 hv with rfl | hv
        · simp [scV, scT, scS]
        · exact scV_mono (Nat.zero_le _) _ (hrest v hv id).1)
      have e0 : (Value.pointer (some ⟨0, 0, none⟩) :: rest).map (rV fun _ => i) = Value.pointer (some ⟨i, 0, none⟩) :: rest := by
        rw [List.map_cons, List.map_congr_left (g := id) fun v hv => (hrest v hv (fun _ => i)).2, List.map_id]
        rfl
      rw [e0] at h2
      refine ⟨_, h2, fun o' H' ⟨h1, h2⟩ => ?_⟩
      rw [h1, h2, rO, hval]
      have e : rB (fun _ => i) (srN ((a + 1 : Nat) : Int)) = row [.slice none 0 0, .int .i64 (Int.ofNat (Nat.add a 1))] 114 false := by
        simp [rB, rS]
      rw [e]
      exact hr2
    · rename_i j o2 n c a t hi
      split at hr
      · rename_i cells t2 wr pl hj
        obtain ⟨hc, hr2⟩ := cond_some hr
        obtain ⟨hc2, hr3⟩ := cond_some hr2
        clear hr hr2
        simp only [Bool.and_eq_true, Nat.beq_eq, Nat.ble_eq] at hc
        simp only [srcOK, Bool.and_eq_true, Nat.beq_eq] at hc2
        obtain ⟨rfl, rfl, rfl, rfl, ha⟩ := hc
        obtain ⟨rfl, rfl, hcs⟩ := hc2
        have hij : i ≠ j := by
          rintro rfl
          rw [hi] at hj
          injection hj with hj
          injection hj with _ hj
          cases hj
        have hcs' := ints_eq hcs
        have h1 := h (cells.map vInt) a wr pl ha
        rw [← hcs'] at h1
        have h2 := fun_two (H := H) h1 hij (by rw [hi]; simp [rB, rS, rA, r2n]) (by rw [hj, rB_nsB]; unfold nsB; rw [← hcs']) (srB_fine _ _) (nsB_fine _ _ _) (srB_fine _ _) (by
          intro v hv
          rcases List.mem_cons.1 hv with rfl | hv
          · simp [scV, scT, scS]
          · exact scV_mono (Nat.zero_le _) _ (hrest v hv id).1)
        have e0 : (Value.pointer (some ⟨0, 0, none⟩) :: rest).map (rV (r2n i j)) = Value.pointer (some ⟨i, 0, none⟩) :: rest := by
          rw [List.map_cons, List.map_congr_left (g := id) fun v hv => (hrest v hv (r2n i j)).2, List.map_id]
          rfl
        rw [e0] at h2
        refine ⟨_, h2, fun o' H' ⟨h1, h2⟩ => ?_⟩
        rw [h1, h2]
        have e : rB (r2n i j) (srB (cells.map vInt) ((a + 1 : Nat) : Int) false) = row [.slice (some ⟨j, 0, none⟩) cells.length cells.length, .int .i64 (Int.ofNat (Nat.add a 1))] 114 false := by
          simp [rB, rS, rA, r2n]
        rw [e, rO, hval]
        exact hr3
      · cases hr
    · rename_i j o2 a t hi
      split at hr
      · rename_i t2 wr pl hj
        obtain ⟨hc, hr2⟩ := cond_some hr
        clear hr
        simp only [Bool.and_eq_true, Nat.beq_eq, Nat.ble_eq] at hc
        obtain ⟨rfl, rfl, rfl, ha⟩ := hc
        have hij : i ≠ j := by
          rintro rfl
          rw [hi] at hj
          injection hj with hj
          injection hj with hj
          cases hj
        have h2 := fun_two (H := H) (hd a t2 wr pl ha) hij (by rw [hi]; simp [rB, rS, rA, r2n]) (by rw [hj]; rfl) (srD_fine _) ⟨rfl, fun _ => rfl, rfl⟩ (srD_fine _) (by
          intro v hv
          rcases List.mem_cons.1 hv with rfl | hv
          · simp [scV, scT, scS]
          · exact scV_mono (Nat.zero_le _) _ (hrest v hv id).1)
        have e0 : (Value.pointer (some ⟨0, 0, none⟩) :: rest).map (rV (r2n i j)) = Value.pointer (some ⟨i, 0, none⟩) :: rest := by
          rw [List.map_cons, List.map_congr_left (g := id) fun v hv => (hrest v hv (r2n i j)).2, List.map_id]
          rfl
        rw [e0] at h2
        refine ⟨_, h2, fun o' H' ⟨h1, h2⟩ => ?_⟩
        rw [h1, h2]
        have e : rB (r2n i j) (srD ((a + 1 : Nat) : Int)) = row [.slice (some ⟨j, 0, some 0⟩) 0 0, .int .i64 (Int.ofNat (Nat.add a 1))] 114 false := by
          simp [rB, rS, rA, r2n]
        rw [e, rO, hval]
        exact hr2
      · cases hr
    · cases hr
  · cases hr
theorem nextN_fun (a : Nat) (ha : a ≤ 4611686018427387903) : Fun Try.prog 1 66 [.pointer (some ⟨0,0,none⟩)] (AH.of [srN a]) fun o H' => o = .ret (nextVal [] a) ∧ H' = AH.of [srN ((a + 1 : Nat) : Int)] := by
  refine fun_of_see try_num try_mix tbl_none (loops := 100) (n := 30) [srN ((a + 1 : Nat) : Int)] (low_of _ rfl) (fun g => (nextN_nest a g).trans ?_) (Nat.le_refl 1) (by simp [osc, scV, scT, scS, nextVal]) (by simp [scS])
  have e1 : w64 ((a : Int) + 1) = ((a + 1 : Nat) : Int) := w64_nat (a + 1) (by omega)
  rw [e1, ltB_eq, decide_eq_true (by omega), cond_true]
  rfl
theorem nextD_fun (a : Nat) (t2 : TypeId) (wr pl : Bool) (ha : a ≤ 4611686018427387903) : Fun Try.prog 2 66 [.pointer (some ⟨0,0,none⟩)] (AH.of [srD a, deB t2 wr pl]) fun o H' => o = .ret (nextVal [] a) ∧ H' = AH.of [srD ((a + 1 : Nat) : Int), deB t2 wr pl] := by
  refine fun_of_see try_num try_mix tbl_none (loops := 100) (n := 30) [srD ((a + 1 : Nat) : Int), deB t2 wr pl] (low_of _ rfl) (fun g => (nextD_nest a t2 wr pl g).trans ?_) (Nat.le_refl 2) (by simp [osc, scV, scT, scS, nextVal]) (by simp [scS])
  have e1 : w64 ((a : Int) + 1) = ((a + 1 : Nat) : Int) := w64_nat (a + 1) (by omega)
  rw [e1, ltB_eq, decide_eq_true (by omega), cond_true]
  rfl
theorem nextS_ok : CallOK Try.prog (fun g args H k => if g = 66 then nextS args H k else none) := by
  refine callOK_of_fun fun args H k r hr => ?_
  unfold nextS at hr
  split at hr
  · exact srcS_fun (rest := []) (fun v hv => by cases hv) (fun l a r => rfl) nextN_fun nextD_fun (fun l a wr pl ha => by
      have := next_fun l a wr pl ha
      unfold nextVal nthV
      rwa [ints_back]) hr
  · cases hr

/-- A number from 0 to most. -/
def fromN (x : Int) (most : Nat) : Nat := (x.tmod (most + 1 : Nat)).natAbs
def okMost (m : Nat) : Bool := Nat.beq m 1 || (Nat.beq m 2 || (Nat.beq m 8 || (Nat.beq m 64 || (Nat.beq m 255 || (Nat.beq m 2147483647 || Nat.beq m 1099511627776)))))
def fromVal (m : Nat) (cells : List Value) (a : Nat) : Value := .int .i64 (Int.ofNat (fromN (nthV cells a) m))
noncomputable def fromS : List Value → AH → (Out → AH → Res) → Res := fun args H k =>
  match args with
  | [p, .int .i64 (.ofNat m)] => bif okMost m then srcS (fromVal m) p H k else none
  | _ => none
def numX (x : Int) : Int := bif x == -9223372036854775808 then 0 else x
def numF (x : Int) : Bool := (numX x).tmod 7 == 3
def numVal (cells : List Value) (a : Nat) : Value := .agg #[.int .i64 (numX (nthV cells a)), .bool (numF (nthV cells a))]
noncomputable def numS : List Value → AH → (Out → AH → Res) → Res := fun args H k =>
  match args with
  | [p] => srcS numVal p H k
  | _ => none

noncomputable def t66 : Tbl := tblOf [(66, nextS)]
theorem t66_ok : TblOK Try.prog t66 := tblOf_ok fun x hx => by
  simp only [List.mem_cons, List.not_mem_nil, or_false] at hx
  rcases hx with rfl
  exact nextS_ok
section
variable (l : List Int) (a : Nat) (wr pl : Bool) (g : Out → List (Option Blk) → Res)
noncomputable def fromT (m : Nat) : Res :=
  bif Nat.ble a 4611686018427387903 then bif srcOK (l.map (Value.int .i64)) l.length l.length then
    (bif ltB ((nthV (l.map (Value.int .i64)) a).tmod (Int.ofNat (m + 1))) 0 then g (.ret (.int .i64 (IntKind.i64.wrap (0 - (nthV (l.map (Value.int .i64)) a).tmod (Int.ofNat (m + 1)))))) [some (nsB l wr pl), some (srB l (Int.ofNat (Nat.add a 1)) false)]
     else g (.ret (.int .i64 ((nthV (l.map (Value.int .i64)) a).tmod (Int.ofNat (m + 1))))) [some (nsB l wr pl), some (srB l (Int.ofNat (Nat.add a 1)) false)])
  else none else none
theorem from1 : run Try.prog t66 100 30 61 [.pointer (some ⟨0,0,none⟩), .int .i64 1] (AH.of [srB l (Int.ofNat a) false, nsB l wr pl]) (fun o H' => g o (seen H' 2)) = fromT l a wr pl g 1 := by kernel_rfl
theorem from2 : run Try.prog t66 100 30 61 [.pointer (some ⟨0,0,none⟩), .int .i64 2] (AH.of [srB l (Int.ofNat a) false, nsB l wr pl]) (fun o H' => g o (seen H' 2)) = fromT l a wr pl g 2 := by kernel_rfl
theorem from8 : run Try.prog t66 100 30 61 [.pointer (some ⟨0,0,none⟩), .int .i64 8] (AH.of [srB l (Int.ofNat a) false, nsB l wr pl]) (fun o H' => g o (seen H' 2)) = fromT l a wr pl g 8 := by kernel_rfl
theorem from64 : run Try.prog t66 100 30 61 [.pointer (some ⟨0,0,none⟩), .int .i64 64] (AH.of [srB l (Int.ofNat a) false, nsB l wr pl]) (fun o H' => g o (seen H' 2)) = fromT l a wr pl g 64 := by kernel_rfl
theorem from255 : run Try.prog t66 100 30 61 [.pointer (some ⟨0,0,none⟩), .int .i64 255] (AH.of [srB l (Int.ofNat a) false, nsB l wr pl]) (fun o H' => g o (seen H' 2)) = fromT l a wr pl g 255 := by kernel_rfl
theorem fromI : run Try.prog t66 100 30 61 [.pointer (some ⟨0,0,none⟩), .int .i64 2147483647] (AH.of [srB l (Int.ofNat a) false, nsB l wr pl]) (fun o H' => g o (seen H' 2)) = fromT l a wr pl g 2147483647 := by kernel_rfl
theorem fromV : run Try.prog t66 100 30 61 [.pointer (some ⟨0,0,none⟩), .int .i64 1099511627776] (AH.of [srB l (Int.ofNat a) false, nsB l wr pl]) (fun o H' => g o (seen H' 2)) = fromT l a wr pl g 1099511627776 := by kernel_rfl
theorem num_nest : run Try.prog t66 100 30 65 [.pointer (some ⟨0,0,none⟩)] (AH.of [srB l (Int.ofNat a) false, nsB l wr pl]) (fun o H' => g o (seen H' 2)) =
  bif Nat.ble a 4611686018427387903 then bif srcOK (l.map (Value.int .i64)) l.length l.length then
    (bif nthV (l.map (Value.int .i64)) a == -9223372036854775808 then g (.ret (.agg #[.int .i64 0, .bool false])) [some (nsB l wr pl), some (srB l (Int.ofNat (Nat.add a 1)) false)]
     else g (.ret (.agg #[.int .i64 (nthV (l.map (Value.int .i64)) a), .bool ((nthV (l.map (Value.int .i64)) a).tmod 7 == 3)])) [some (nsB l wr pl), some (srB l (Int.ofNat (Nat.add a 1)) false)])
  else none else none := by kernel_rfl
end

theorem srcOK_map (l : List Int) : srcOK (l.map (Value.int .i64)) l.length l.length = true := by
  simp [srcOK, isI64]
theorem nthV_map (l : List Int) (a : Nat) : nthV (l.map (Value.int .i64)) a = nth l a := by unfold nthV; rw [ints_back]
theorem from_wrap (x : Int) (m : Nat) (hm : m < 4611686018427387904) : (bif ltB (x.tmod (Int.ofNat (m + 1))) 0 then Value.int .i64 (IntKind.i64.wrap (0 - x.tmod (Int.ofNat (m + 1)))) else Value.int .i64 (x.tmod (Int.ofNat (m + 1)))) = Value.int .i64 (Int.ofNat (fromN x m)) := by
  have h1 : (x.tmod ((m + 1 : Nat) : Int)).natAbs < m + 1 := by
    have := Int.natAbs_tmod x ((m + 1 : Nat) : Int)
    rw [this, Int.natAbs_natCast]
    exact Nat.mod_lt _ (by omega)
  unfold fromN
  rw [ltB_eq, Int.ofNat_eq_natCast]
  by_cases h : x.tmod ((m + 1 : Nat) : Int) < 0
  · rw [decide_eq_true h, cond_true]
    congr 1
    rw [IntKind.wrap_i64, Int.ofNat_eq_natCast]
    omega
  · rw [decide_eq_false h, cond_false]
    congr 1
    rw [Int.ofNat_eq_natCast]; omega
theorem cond_g {α β : Type} (c : Bool) (f : α → β) (x y : α) : (bif c then f x else f y) = f (bif c then x else y) := by cases c <;> rfl
theorem okMost_cases {m : Nat} (h : okMost m = true) : m = 1 ∨ m = 2 ∨ m = 8 ∨ m = 64 ∨ m = 255 ∨ m = 2147483647 ∨ m = 1099511627776 := by
  simpa only [okMost, Bool.or_eq_true, Nat.beq_eq] using h
theorem srB_cast (l : List Int) (a : Nat) : srB l ((a + 1 : Nat) : Int) false = srB l (Int.ofNat (Nat.add a 1)) false := rfl
theorem from_fun (l : List Int) (a : Nat) (wr pl : Bool) (ha : a ≤ 4611686018427387903) (m : Nat) (hm : okMost m = true) : Fun Try.prog 2 61 [.pointer (some ⟨0,0,none⟩), .int .i64 (Int.ofNat m)] (AH.of [srB l a false, nsB l wr pl]) fun o H' =>
    o = .ret (fromVal m (l.map (Value.int .i64)) a) ∧ H' = AH.of [srB l ((a + 1 : Nat) : Int) false, nsB l wr pl] := by
  have hm' := okMost_cases hm
  refine fun_of_see try_num try_mix t66_ok (loops := 100) (n := 30) [srB l ((a + 1 : Nat) : Int) false, nsB l wr pl] (low_of _ rfl) (fun g => ?_) (Nat.le_refl 2) (by simp [osc, scV, scT, scS, fromVal]) ?_
  · have h1 : run Try.prog t66 100 30 61 [.pointer (some ⟨0,0,none⟩), .int .i64 (Int.ofNat m)] (AH.of [srB l (Int.ofNat a) false, nsB l wr pl]) (fun o H' => g o (seen H' 2)) = fromT l a wr pl g m := by
      rcases hm' with rfl | rfl | rfl | rfl | rfl | rfl | rfl
      · exact from1 l a wr pl g
      · exact from2 l a wr pl g
      · exact from8 l a wr pl g
      · exact from64 l a wr pl g
      · exact from255 l a wr pl g
      · exact fromI l a wr pl g
      · exact fromV l a wr pl g
    refine h1.trans ?_
    have hm2 : m < 4611686018427387904 := by rcases hm' with rfl | rfl | rfl | rfl | rfl | rfl | rfl <;> decide
    unfold fromT fromVal
    rw [show Nat.ble a 4611686018427387903 = true by rw [Nat.ble_eq]; exact ha, cond_true, srcOK_map, cond_true, cond_g _ (fun v => g (.ret v) _), from_wrap _ m hm2]
    rfl
  · simp [scS]
theorem num_fun (l : List Int) (a : Nat) (wr pl : Bool) (ha : a ≤ 4611686018427387903) : Fun Try.prog 2 65 [.pointer (some ⟨0,0,none⟩)] (AH.of [srB l a false, nsB l wr pl]) fun o H' =>
    o = .ret (numVal (l.map (Value.int .i64)) a) ∧ H' = AH.of [srB l ((a + 1 : Nat) : Int) false, nsB l wr pl] := by
  refine fun_of_see try_num try_mix t66_ok (loops := 100) (n := 30) [srB l ((a + 1 : Nat) : Int) false, nsB l wr pl] (low_of _ rfl) (fun g => (num_nest l a wr pl g).trans ?_) (Nat.le_refl 2) (by simp [osc, scV, scT, scS, numVal]) ?_
  · unfold numVal numX numF numX
    rw [show Nat.ble a 4611686018427387903 = true by rw [Nat.ble_eq]; exact ha, cond_true, srcOK_map, cond_true]
    cases nthV (l.map (Value.int .i64)) a == -9223372036854775808 <;> rfl
  · simp [scS]
theorem fromN1 (a : Nat) (g : Out → List (Option Blk) → Res) : run Try.prog t66 100 30 61 [.pointer (some ⟨0,0,none⟩), .int .i64 1] (AH.of [srN (Int.ofNat a)]) (fun o H' => g o (seen H' 1)) = (bif Nat.ble a 4611686018427387903 then g (.ret (.int .i64 0)) [some (srN (Int.ofNat (Nat.add a 1)))] else none) := by kernel_rfl
theorem fromN2 (a : Nat) (g : Out → List (Option Blk) → Res) : run Try.prog t66 100 30 61 [.pointer (some ⟨0,0,none⟩), .int .i64 2] (AH.of [srN (Int.ofNat a)]) (fun o H' => g o (seen H' 1)) = (bif Nat.ble a 4611686018427387903 then g (.ret (.int .i64 0)) [some (srN (Int.ofNat (Nat.add a 1)))] else none) := by kernel_rfl
theorem fromN8 (a : Nat) (g : Out → List (Option Blk) → Res) : run Try.prog t66 100 30 61 [.pointer (some ⟨0,0,none⟩), .int .i64 8] (AH.of [srN (Int.ofNat a)]) (fun o H' => g o (seen H' 1)) = (bif Nat.ble a 4611686018427387903 then g (.ret (.int .i64 0)) [some (srN (Int.ofNat (Nat.add a 1)))] else none) := by kernel_rfl
theorem fromN64 (a : Nat) (g : Out → List (Option Blk) → Res) : run Try.prog t66 100 30 61 [.pointer (some ⟨0,0,none⟩), .int .i64 64] (AH.of [srN (Int.ofNat a)]) (fun o H' => g o (seen H' 1)) = (bif Nat.ble a 4611686018427387903 then g (.ret (.int .i64 0)) [some (srN (Int.ofNat (Nat.add a 1)))] else none) := by kernel_rfl
theorem fromN255 (a : Nat) (g : Out → List (Option Blk) → Res) : run Try.prog t66 100 30 61 [.pointer (some ⟨0,0,none⟩), .int .i64 255] (AH.of [srN (Int.ofNat a)]) (fun o H' => g o (seen H' 1)) = (bif Nat.ble a 4611686018427387903 then g (.ret (.int .i64 0)) [some (srN (Int.ofNat (Nat.add a 1)))] else none) := by kernel_rfl
theorem fromNI (a : Nat) (g : Out → List (Option Blk) → Res) : run Try.prog t66 100 30 61 [.pointer (some ⟨0,0,none⟩), .int .i64 2147483647] (AH.of [srN (Int.ofNat a)]) (fun o H' => g o (seen H' 1)) = (bif Nat.ble a 4611686018427387903 then g (.ret (.int .i64 0)) [some (srN (Int.ofNat (Nat.add a 1)))] else none) := by kernel_rfl
theorem fromNV (a : Nat) (g : Out → List (Option Blk) → Res) : run Try.prog t66 100 30 61 [.pointer (some ⟨0,0,none⟩), .int .i64 1099511627776] (AH.of [srN (Int.ofNat a)]) (fun o H' => g o (seen H' 1)) = (bif Nat.ble a 4611686018427387903 then g (.ret (.int .i64 0)) [some (srN (Int.ofNat (Nat.add a 1)))] else none) := by kernel_rfl
theorem numN_nest (a : Nat) (g : Out → List (Option Blk) → Res) : run Try.prog t66 100 30 65 [.pointer (some ⟨0,0,none⟩)] (AH.of [srN (Int.ofNat a)]) (fun o H' => g o (seen H' 1)) = (bif Nat.ble a 4611686018427387903 then g (.ret (.agg #[.int .i64 0, .bool false])) [some (srN (Int.ofNat (Nat.add a 1)))] else none) := by kernel_rfl
theorem fromN_fun (a : Nat) (ha : a ≤ 4611686018427387903) (m : Nat) (hm : okMost m = true) : Fun Try.prog 1 61 [.pointer (some ⟨0,0,none⟩), .int .i64 (Int.ofNat m)] (AH.of [srN a]) fun o H' => o = .ret (fromVal m [] a) ∧ H' = AH.of [srN ((a + 1 : Nat) : Int)] := by
  have hm' := okMost_cases hm
  refine fun_of_see try_num try_mix t66_ok (loops := 100) (n := 30) [srN ((a + 1 : Nat) : Int)] (low_of _ rfl) (fun g => ?_) (Nat.le_refl 1) (by simp [osc, scV, scT, scS, fromVal]) (by simp [scS])
  have h1 : run Try.prog t66 100 30 61 [.pointer (some ⟨0,0,none⟩), .int .i64 (Int.ofNat m)] (AH.of [srN (Int.ofNat a)]) (fun o H' => g o (seen H' 1)) = (bif Nat.ble a 4611686018427387903 then g (.ret (.int .i64 0)) [some (srN (Int.ofNat (Nat.add a 1)))] else none) := by
    rcases hm' with rfl | rfl | rfl | rfl | rfl | rfl | rfl
    · exact fromN1 a g
    · exact fromN2 a g
    · exact fromN8 a g
    · exact fromN64 a g
    · exact fromN255 a g
    · exact fromNI a g
    · exact fromNV a g
  refine h1.trans ?_
  have e : fromVal m [] a = .int .i64 0 := by
    unfold fromVal nthV nth fromN
    simp
  rw [e, show Nat.ble a 4611686018427387903 = true by rw [Nat.ble_eq]; exact ha, cond_true]
  rfl
theorem numN_fun (a : Nat) (ha : a ≤ 4611686018427387903) : Fun Try.prog 1 65 [.pointer (some ⟨0,0,none⟩)] (AH.of [srN a]) fun o H' => o = .ret (numVal [] a) ∧ H' = AH.of [srN ((a + 1 : Nat) : Int)] := by
  refine fun_of_see try_num try_mix t66_ok (loops := 100) (n := 30) [srN ((a + 1 : Nat) : Int)] (low_of _ rfl) (fun g => (numN_nest a g).trans ?_) (Nat.le_refl 1) (by simp [osc, scV, scT, scS, numVal]) (by simp [scS])
  rw [show Nat.ble a 4611686018427387903 = true by rw [Nat.ble_eq]; exact ha, cond_true]
  rfl
theorem fromD1 (a : Nat) (t2 : TypeId) (wr pl : Bool) (g : Out → List (Option Blk) → Res) : run Try.prog t66 100 30 61 [.pointer (some ⟨0,0,none⟩), .int .i64 1] (AH.of [srD (Int.ofNat a), deB t2 wr pl]) (fun o H' => g o (seen H' 2)) = (bif Nat.ble a 4611686018427387903 then g (.ret (.int .i64 0)) [some (deB t2 wr pl), some (srD (Int.ofNat (Nat.add a 1)))] else none) := by kernel_rfl
theorem fromD2 (a : Nat) (t2 : TypeId) (wr pl : Bool) (g : Out → List (Option Blk) → Res) : run Try.prog t66 100 30 61 [.pointer (some ⟨0,0,none⟩), .int .i64 2] (AH.of [srD (Int.ofNat a), deB t2 wr pl]) (fun o H' => g o (seen H' 2)) = (bif Nat.ble a 4611686018427387903 then g (.ret (.int .i64 0)) [some (deB t2 wr pl), some (srD (Int.ofNat (Nat.add a 1)))] else none) := by kernel_rfl
theorem fromD8 (a : Nat) (t2 : TypeId) (wr pl : Bool) (g : Out → List (Option Blk) → Res) : run Try.prog t66 100 30 61 [.pointer (some ⟨0,0,none⟩), .int .i64 8] (AH.of [srD (Int.ofNat a), deB t2 wr pl]) (fun o H' => g o (seen H' 2)) = (bif Nat.ble a 4611686018427387903 then g (.ret (.int .i64 0)) [some (deB t2 wr pl), some (srD (Int.ofNat (Nat.add a 1)))] else none) := by kernel_rfl
theorem fromD64 (a : Nat) (t2 : TypeId) (wr pl : Bool) (g : Out → List (Option Blk) → Res) : run Try.prog t66 100 30 61 [.pointer (some ⟨0,0,none⟩), .int .i64 64] (AH.of [srD (Int.ofNat a), deB t2 wr pl]) (fun o H' => g o (seen H' 2)) = (bif Nat.ble a 4611686018427387903 then g (.ret (.int .i64 0)) [some (deB t2 wr pl), some (srD (Int.ofNat (Nat.add a 1)))] else none) := by kernel_rfl
theorem fromD255 (a : Nat) (t2 : TypeId) (wr pl : Bool) (g : Out → List (Option Blk) → Res) : run Try.prog t66 100 30 61 [.pointer (some ⟨0,0,none⟩), .int .i64 255] (AH.of [srD (Int.ofNat a), deB t2 wr pl]) (fun o H' => g o (seen H' 2)) = (bif Nat.ble a 4611686018427387903 then g (.ret (.int .i64 0)) [some (deB t2 wr pl), some (srD (Int.ofNat (Nat.add a 1)))] else none) := by kernel_rfl
theorem fromDI (a : Nat) (t2 : TypeId) (wr pl : Bool) (g : Out → List (Option Blk) → Res) : run Try.prog t66 100 30 61 [.pointer (some ⟨0,0,none⟩), .int .i64 2147483647] (AH.of [srD (Int.ofNat a), deB t2 wr pl]) (fun o H' => g o (seen H' 2)) = (bif Nat.ble a 4611686018427387903 then g (.ret (.int .i64 0)) [some (deB t2 wr pl), some (srD (Int.ofNat (Nat.add a 1)))] else none) := by kernel_rfl
theorem fromDV (a : Nat) (t2 : TypeId) (wr pl : Bool) (g : Out → List (Option Blk) → Res) : run Try.prog t66 100 30 61 [.pointer (some ⟨0,0,none⟩), .int .i64 1099511627776] (AH.of [srD (Int.ofNat a), deB t2 wr pl]) (fun o H' => g o (seen H' 2)) = (bif Nat.ble a 4611686018427387903 then g (.ret (.int .i64 0)) [some (deB t2 wr pl), some (srD (Int.ofNat (Nat.add a 1)))] else none) := by kernel_rfl
theorem numD_nest (a : Nat) (t2 : TypeId) (wr pl : Bool) (g : Out → List (Option Blk) → Res) : run Try.prog t66 100 30 65 [.pointer (some ⟨0,0,none⟩)] (AH.of [srD (Int.ofNat a), deB t2 wr pl]) (fun o H' => g o (seen H' 2)) = (bif Nat.ble a 4611686018427387903 then g (.ret (.agg #[.int .i64 0, .bool false])) [some (deB t2 wr pl), some (srD (Int.ofNat (Nat.add a 1)))] else none) := by kernel_rfl
theorem fromD_fun (a : Nat) (t2 : TypeId) (wr pl : Bool) (ha : a ≤ 4611686018427387903) (m : Nat) (hm : okMost m = true) : Fun Try.prog 2 61 [.pointer (some ⟨0,0,none⟩), .int .i64 (Int.ofNat m)] (AH.of [srD a, deB t2 wr pl]) fun o H' => o = .ret (fromVal m [] a) ∧ H' = AH.of [srD ((a + 1 : Nat) : Int), deB t2 wr pl] := by
  have hm' := okMost_cases hm
  refine fun_of_see try_num try_mix t66_ok (loops := 100) (n := 30) [srD ((a + 1 : Nat) : Int), deB t2 wr pl] (low_of _ rfl) (fun g => ?_) (Nat.le_refl 2) (by simp [osc, scV, scT, scS, fromVal]) (by simp [scS])
  have h1 : run Try.prog t66 100 30 61 [.pointer (some ⟨0,0,none⟩), .int .i64 (Int.ofNat m)] (AH.of [srD (Int.ofNat a), deB t2 wr pl]) (fun o H' => g o (seen H' 2)) = (bif Nat.ble a 4611686018427387903 then g (.ret (.int .i64 0)) [some (deB t2 wr pl), some (srD (Int.ofNat (Nat.add a 1)))] else none) := by
    rcases hm' with rfl | rfl | rfl | rfl | rfl | rfl | rfl
    · exact fromD1 a t2 wr pl g
    · exact fromD2 a t2 wr pl g
    · exact fromD8 a t2 wr pl g
    · exact fromD64 a t2 wr pl g
    · exact fromD255 a t2 wr pl g
    · exact fromDI a t2 wr pl g
    · exact fromDV a t2 wr pl g
  refine h1.trans ?_
  have e : fromVal m [] a = .int .i64 0 := by
    unfold fromVal nthV nth fromN
    simp
  rw [e, show Nat.ble a 4611686018427387903 = true by rw [Nat.ble_eq]; exact ha, cond_true]
  rfl
theorem numD_fun (a : Nat) (t2 : TypeId) (wr pl : Bool) (ha : a ≤ 4611686018427387903) : Fun Try.prog 2 65 [.pointer (some ⟨0,0,none⟩)] (AH.of [srD a, deB t2 wr pl]) fun o H' => o = .ret (numVal [] a) ∧ H' = AH.of [srD ((a + 1 : Nat) : Int), deB t2 wr pl] := by
  refine fun_of_see try_num try_mix t66_ok (loops := 100) (n := 30) [srD ((a + 1 : Nat) : Int), deB t2 wr pl] (low_of _ rfl) (fun g => (numD_nest a t2 wr pl g).trans ?_) (Nat.le_refl 2) (by simp [osc, scV, scT, scS, numVal]) (by simp [scS])
  rw [show Nat.ble a 4611686018427387903 = true by rw [Nat.ble_eq]; exact ha, cond_true]
  rfl
theorem fromS_ok : CallOK Try.prog (fun g args H k => if g = 61 then fromS args H k else none) := by
  refine callOK_of_fun fun args H k r hr => ?_
  unfold fromS at hr
  split at hr
  · obtain ⟨hm, hr2⟩ := cond_some hr
    exact srcS_fun (fun v hv => by rw [List.mem_singleton] at hv; subst hv; exact fun r => ⟨rfl, rfl⟩) (fun l a r => rfl) (fun a ha => fromN_fun a ha _ hm) (fun a t2 wr pl ha => fromD_fun a t2 wr pl ha _ hm) (fun l a wr pl ha => from_fun l a wr pl ha _ hm) hr2
  · cases hr
theorem numS_ok : CallOK Try.prog (fun g args H k => if g = 65 then numS args H k else none) := by
  refine callOK_of_fun fun args H k r hr => ?_
  unfold numS at hr
  split at hr
  · exact srcS_fun (rest := []) (fun v hv => by cases hv) (fun l a r => by simp [numVal, rV, rT, rS]) numN_fun numD_fun (fun l a wr pl ha => num_fun l a wr pl ha) hr
  · cases hr
end Go.RX
