/- The reader: kind, upto; fields one after the other. -/
import Derived.Test.YtnidbincddpaaaaW14
namespace Go.RX
open Go Go.Proofs Go.RowKit
set_option maxRecDepth 100000

noncomputable def tT : Tbl := tblOf [(87, takeS)]
theorem tT_ok : TblOK Try.prog tT := tblOf_ok fun x hx => by
  simp only [List.mem_cons, List.not_mem_nil, or_false] at hx
  rcases hx with rfl
  exact takeS_ok
def i64V (v : Int) : Value := .int .i64 (w64 v)
section
variable (s : ByteArray) (a : Nat) (pl : Bool) (g : Out → List (Option Blk) → Res)
noncomputable def uptoN (m : Int) (n : Nat) : Res := bif Nat.ble a 4611686018427387903 && true then tkD s a n (fun v => bif !!ltB m v then g (.pan (stopV 4)) [some (rdB s (Int.ofNat (Nat.add a n)) pl)] else g (.ret (i64V v)) [some (rdB s (Int.ofNat (Nat.add a n)) pl)]) (g (.pan (stopV 7)) [some (rdB s (Int.ofNat a) pl)]) else none
theorem upto1 (m : Int) : run Try.prog tT 100 30 133 [.pointer (some ⟨0,0,none⟩), .int .u64 m, .int .i64 1] (AH.of [rdB s (Int.ofNat a) pl]) (fun o H' => g o (seen H' 1)) = uptoN s a pl g m 1 := by kernel_rfl
theorem upto4 (m : Int) : run Try.prog tT 100 30 133 [.pointer (some ⟨0,0,none⟩), .int .u64 m, .int .i64 4] (AH.of [rdB s (Int.ofNat a) pl]) (fun o H' => g o (seen H' 1)) = uptoN s a pl g m 4 := by kernel_rfl
theorem upto8 (m : Int) : run Try.prog tT 100 30 133 [.pointer (some ⟨0,0,none⟩), .int .u64 m, .int .i64 8] (AH.of [rdB s (Int.ofNat a) pl]) (fun o H' => g o (seen H' 1)) = uptoN s a pl g m 8 := by kernel_rfl
noncomputable def kindN (low : Int) : Res := bif Nat.ble a 4611686018427387903 && true then tkD s a 1 (fun v => bif !ltB (w64 v) low then (bif !(bif true then !ltB 10 (w64 v) else false) then g (.pan (stopV 8)) [some (rdB s (Int.ofNat (Nat.add a 1)) pl)] else g (.ret (i64V v)) [some (rdB s (Int.ofNat (Nat.add a 1)) pl)]) else g (.pan (stopV 8)) [some (rdB s (Int.ofNat (Nat.add a 1)) pl)]) (g (.pan (stopV 7)) [some (rdB s (Int.ofNat a) pl)]) else none
theorem kind_nest (low : Int) : run Try.prog tT 100 30 120 [.pointer (some ⟨0,0,none⟩), .int .i64 low] (AH.of [rdB s (Int.ofNat a) pl]) (fun o H' => g o (seen H' 1)) = kindN s a pl g low := by kernel_rfl
end

/-- What a part of the reader does: it answers, and stands elsewhere. -/
def RdFun (f : FuncId) (rest : List Value) (sp : ByteArray → Nat → (Out → Nat → Res) → Res) : Prop :=
  ∀ (s : ByteArray) (a : Nat) (pl : Bool), s.size ≤ 4611686018427387903 → a ≤ 4611686018427387903 → ∃ (o : Out) (b : Nat), (∀ k, sp s a k = k o b) ∧ (osc 0 o ∧ ∀ r, rO r o = o) ∧
    ∀ g : Out → List (Option Blk) → Res, run Try.prog tT 100 30 f (.pointer (some ⟨0,0,none⟩) :: rest) (AH.of [rdB s (Int.ofNat a) pl]) (fun o H' => g o (seen H' 1)) = g o [some (rdB s (Int.ofNat b) pl)]
/-- An entry of the table that reads. -/
noncomputable def rdK (p : Value) (sp : ByteArray → Nat → (Out → Nat → Res) → Res) (H : AH) (k : Out → AH → Res) : Res :=
  match p with
  | .pointer (some ⟨i, o, none⟩) => (match H.get i with
    | some ⟨[.string s, .int .i64 (.ofNat a)], t, true, true, pl, none⟩ =>
      bif Nat.beq o 0 && (Nat.beq t 141 && (Nat.ble a 4611686018427387903 && Nat.ble s.size 4611686018427387903)) then sp s a (fun o b => k o (H.set i (rdB s (Int.ofNat b) pl))) else none
    | _ => none)
  | _ => none
theorem rdK_fun {f : FuncId} {rest : List Value} {sp : ByteArray → Nat → (Out → Nat → Res) → Res} (h : RdFun f rest sp) (hrest : ∀ v ∈ rest, ∀ r : Nat → Nat, scV 0 v = true ∧ rV r v = v)
    {p : Value} {H : AH} {k : Out → AH → Res} {r : Out × AH} (hr : rdK p sp H k = some r) : ∃ Q, Fun Try.prog H.size f (p :: rest) H Q ∧ ∀ o H', Q o H' → k o H' = some r := by
  unfold rdK at hr
  split at hr
  · rename_i i o
    split at hr
    · rename_i s a t pl hi
      obtain ⟨hc, hr2⟩ := cond_some hr
      clear hr
      simp only [Bool.and_eq_true, Nat.beq_eq, Nat.ble_eq] at hc
      obtain ⟨rfl, rfl, ha, hs⟩ := hc
      obtain ⟨o, b, h1, ⟨ho, hor⟩, h2⟩ := h s a pl hs ha
      rw [h1] at hr2
      have hf : Fun Try.prog 1 f (.pointer (some ⟨0,0,none⟩) :: rest) (AH.of [rdB s (Int.ofNat a) pl]) fun o' H' => o' = o ∧ H' = AH.of [rdB s (Int.ofNat b) pl] :=
        fun_of_see try_num try_mix tT_ok (loops := 100) (n := 30) [rdB s (Int.ofNat b) pl] (low_of _ rfl) (fun g => h2 g) (Nat.le_refl 1) (by
          cases o with
          | ret v => exact scV_mono (Nat.zero_le _) _ ho
          | pan v => exact scV_mono (Nat.zero_le _) _ ho) (by simp [scS])
      have h3 := fun_one hf hi (rd_sc s a pl) (rd_sc0 s a pl) rfl (rd_sc s b pl) rfl (by
        intro v hv
        rcases List.mem_cons.1 hv with rfl | hv
        · simp [scV, scT, scS]
        · exact scV_mono (Nat.zero_le _) _ (hrest v hv id).1)
      have e0 : (Value.pointer (some ⟨0, 0, none⟩) :: rest).map (rV fun _ => i) = Value.pointer (some ⟨i, 0, none⟩) :: rest := by
        rw [List.map_cons, List.map_congr_left (g := id) fun v hv => (hrest v hv (fun _ => i)).2, List.map_id]
        rfl
      rw [e0] at h3
      refine ⟨_, h3, fun o' H' ⟨h4, h5⟩ => ?_⟩
      rw [h4, h5, hor]
      exact hr2
    · cases hr
  · cases hr

/-- A byte read: what comes of it. -/
noncomputable def rdX (n : Nat) (c : Int → Out) (s : ByteArray) (a : Nat) (k : Out → Nat → Res) : Res := bif Nat.ble (Nat.add a n) s.size then k (c (Int.ofNat (beN s a n))) (Nat.add a n) else k (.pan (stopV 7)) a
theorem rdX_fun {f : FuncId} {rest : List Value} {n : Nat} {c : Int → Out} (hc : ∀ v, osc 0 (c v) ∧ ∀ r, rO r (c v) = c v)
    (h : ∀ (s : ByteArray) (a : Nat) (pl : Bool) (g : Out → List (Option Blk) → Res), run Try.prog tT 100 30 f (.pointer (some ⟨0,0,none⟩) :: rest) (AH.of [rdB s (Int.ofNat a) pl]) (fun o H' => g o (seen H' 1)) =
      bif Nat.ble a 4611686018427387903 && true then tkD s a n (fun v => g (c v) [some (rdB s (Int.ofNat (Nat.add a n)) pl)]) (g (.pan (stopV 7)) [some (rdB s (Int.ofNat a) pl)]) else none) : RdFun f rest (rdX n c) := by
  intro s a pl hs ha
  have e1 : (Nat.ble a 4611686018427387903 && true) = true := by rw [Bool.and_true, Nat.ble_eq]; exact ha
  have e2 : Nat.ble s.size 4611686018427387903 = true := by rw [Nat.ble_eq]; exact hs
  cases e3 : Nat.ble (Nat.add a n) s.size with
  | true =>
    refine ⟨c (Int.ofNat (beN s a n)), Nat.add a n, fun k => by unfold rdX; rw [e3, cond_true], hc _, fun g => ?_⟩
    rw [h, e1, cond_true, tkD, e2, cond_true, e3, cond_true]
  | false =>
    refine ⟨.pan (stopV 7), a, fun k => by unfold rdX; rw [e3, cond_false], ⟨stop_sc 0 7, fun r => stop_ren r 7⟩, fun g => ?_⟩
    rw [h, e1, cond_true, tkD, e2, cond_true, e3, cond_false]
def uptoC (m v : Int) : Out := bif !!ltB m v then .pan (stopV 4) else .ret (i64V v)
def kindC (low v : Int) : Out := bif !ltB (w64 v) low then (bif !(bif true then !ltB 10 (w64 v) else false) then .pan (stopV 8) else .ret (i64V v)) else .pan (stopV 8)
theorem i64_plain (v : Int) : osc 0 (.ret (i64V v)) ∧ ∀ r, rO r (.ret (i64V v)) = .ret (i64V v) := ⟨rfl, fun _ => rfl⟩
theorem stop_plain (e : Int) : osc 0 (.pan (stopV e)) ∧ ∀ r, rO r (.pan (stopV e)) = .pan (stopV e) := ⟨stop_sc 0 e, fun r => stop_ren r e⟩
theorem uptoC_plain (m v : Int) : osc 0 (uptoC m v) ∧ ∀ r, rO r (uptoC m v) = uptoC m v := by
  unfold uptoC
  cases !!ltB m v
  · exact i64_plain v
  · exact stop_plain 4
theorem kindC_plain (low v : Int) : osc 0 (kindC low v) ∧ ∀ r, rO r (kindC low v) = kindC low v := by
  unfold kindC
  cases !ltB (w64 v) low
  · exact stop_plain 8
  · cases !(bif true then !ltB 10 (w64 v) else false)
    · exact i64_plain v
    · exact stop_plain 8
theorem upto_rd (m : Int) (n : Nat) (hn : n = 1 ∨ n = 4 ∨ n = 8) : RdFun 133 [.int .u64 m, .int .i64 n] (rdX n (uptoC m)) := by
  refine rdX_fun (uptoC_plain m) fun s a pl g => ?_
  have e : uptoN s a pl g m n = bif Nat.ble a 4611686018427387903 && true then tkD s a n (fun v => g (uptoC m v) [some (rdB s (Int.ofNat (Nat.add a n)) pl)]) (g (.pan (stopV 7)) [some (rdB s (Int.ofNat a) pl)]) else none := by
    unfold uptoN
    congr 2
    funext v
    unfold uptoC
    cases !!ltB m v <;> rfl
  refine Eq.trans ?_ e
  rcases hn with rfl | rfl | rfl
  · exact upto1 s a pl g m
  · exact upto4 s a pl g m
  · exact upto8 s a pl g m
theorem kind_rd (low : Int) : RdFun 120 [.int .i64 low] (rdX 1 (kindC low)) := by
  refine rdX_fun (kindC_plain low) fun s a pl g => ?_
  have e : kindN s a pl g low = bif Nat.ble a 4611686018427387903 && true then tkD s a 1 (fun v => g (kindC low v) [some (rdB s (Int.ofNat (Nat.add a 1)) pl)]) (g (.pan (stopV 7)) [some (rdB s (Int.ofNat a) pl)]) else none := by
    unfold kindN
    congr 2
    funext v
    unfold kindC
    cases !ltB (w64 v) low
    · rfl
    · cases !(bif true then !ltB 10 (w64 v) else false) <;> rfl
  exact (kind_nest s a pl g low).trans e
theorem RdFun.congr {f : FuncId} {rest : List Value} {sp sp' : ByteArray → Nat → (Out → Nat → Res) → Res} (h : RdFun f rest sp) (he : ∀ s a k, sp' s a k = sp s a k) : RdFun f rest sp' := by
  intro s a pl hs ha
  obtain ⟨o, b, h1, h2, h3⟩ := h s a pl hs ha
  exact ⟨o, b, fun k => (he s a k).trans (h1 k), h2, h3⟩
noncomputable def uptoX (m : Int) (n : Nat) (s : ByteArray) (a : Nat) (k : Out → Nat → Res) : Res :=
  bif Nat.ble (Nat.add a n) s.size then (bif !!ltB m (Int.ofNat (beN s a n)) then k (.pan (stopV 4)) (Nat.add a n) else k (.ret (i64V (Int.ofNat (beN s a n)))) (Nat.add a n)) else k (.pan (stopV 7)) a
noncomputable def kindX (low : Int) (s : ByteArray) (a : Nat) (k : Out → Nat → Res) : Res :=
  bif Nat.ble (Nat.add a 1) s.size then (bif !ltB (w64 (Int.ofNat (beN s a 1))) low then (bif !(bif true then !ltB 10 (w64 (Int.ofNat (beN s a 1))) else false) then k (.pan (stopV 8)) (Nat.add a 1) else k (.ret (i64V (Int.ofNat (beN s a 1)))) (Nat.add a 1)) else k (.pan (stopV 8)) (Nat.add a 1)) else k (.pan (stopV 7)) a
noncomputable def takeX (n : Nat) (s : ByteArray) (a : Nat) (k : Out → Nat → Res) : Res :=
  bif Nat.ble (Nat.add a n) s.size then k (.ret (.int .u64 (Int.ofNat (beN s a n)))) (Nat.add a n) else k (.pan (stopV 7)) a
theorem uptoX_rd (m : Int) (n : Nat) (hn : n = 1 ∨ n = 4 ∨ n = 8) : RdFun 133 [.int .u64 m, .int .i64 n] (uptoX m n) := (upto_rd m n hn).congr fun s a k => by
  unfold uptoX rdX uptoC
  cases !!ltB m (Int.ofNat (beN s a n)) <;> rfl
theorem kindX_rd (low : Int) : RdFun 120 [.int .i64 low] (kindX low) := (kind_rd low).congr fun s a k => by
  unfold kindX rdX kindC
  cases !ltB (w64 (Int.ofNat (beN s a 1))) low
  · rfl
  · cases !(bif true then !ltB 10 (w64 (Int.ofNat (beN s a 1))) else false) <;> rfl
theorem take_nest (n : Nat) (hn : n = 1 ∨ n = 4 ∨ n = 8) (s : ByteArray) (a : Nat) (pl : Bool) (g : Out → List (Option Blk) → Res) : run Try.prog tT 100 30 87 [.pointer (some ⟨0,0,none⟩), .int .i64 n] (AH.of [rdB s (Int.ofNat a) pl]) (fun o H' => g o (seen H' 1)) =
    bif Nat.ble a 4611686018427387903 && true then tkD s a n (fun v => g (.ret (.int .u64 v)) [some (rdB s (Int.ofNat (Nat.add a n)) pl)]) (g (.pan (stopV 7)) [some (rdB s (Int.ofNat a) pl)]) else none := by
  rcases hn with rfl | rfl | rfl <;> kernel_rfl
theorem takeX_rd (n : Nat) (hn : n = 1 ∨ n = 4 ∨ n = 8) : RdFun 87 [.int .i64 n] (takeX n) :=
  (rdX_fun (c := fun v => .ret (.int .u64 v)) (fun _ => ⟨rfl, fun _ => rfl⟩) (fun s a pl g => take_nest n hn s a pl g)).congr fun _ _ _ => rfl

/-- A number that is known: it is asked whether it is that. -/
noncomputable def litW (n : Nat) (k : Out → AH → Res) : Out → AH → Res := fun o H' =>
  match o with
  | .ret (.int .i64 x) => bif asks (x = Int.ofNat n) then k (.ret (.int .i64 (Int.ofNat n))) H' else none
  | o => k o H'
theorem litW_ok (n : Nat) (k : Out → AH → Res) (o : Out) (H' : AH) (r : Out × AH) (h : litW n k o H' = some r) : k o H' = some r := by
  unfold litW at h
  split at h
  · obtain ⟨hc, h2⟩ := cond_some h
    rw [asks_iff.1 hc]
    exact h2
  · exact h
def okNn (n : Nat) : Bool := Nat.beq n 1 || (Nat.beq n 4 || Nat.beq n 8)
theorem okNn_cases {n : Nat} (h : okNn n = true) : n = 1 ∨ n = 4 ∨ n = 8 := by
  simpa only [okNn, Bool.or_eq_true, Nat.beq_eq] using h
noncomputable def takeR : List Value → AH → (Out → AH → Res) → Res := fun args H k =>
  match args with
  | [p, .int .i64 (.ofNat n)] => bif okNn n then rdK p (takeX n) H k else none
  | _ => none
noncomputable def uptoR : List Value → AH → (Out → AH → Res) → Res := fun args H k =>
  match args with
  | [p, .int .u64 m, .int .i64 (.ofNat n)] => bif okNn n then rdK p (uptoX m n) H k else none
  | _ => none
noncomputable def kindR : List Value → AH → (Out → AH → Res) → Res := fun args H k =>
  match args with
  | [p, .int .i64 low] => rdK p (kindX low) H k
  | _ => none
theorem scal_keep (l : List Value) (h : ∀ v ∈ l, isScal v = true) : ∀ v ∈ l, ∀ r : Nat → Nat, scV 0 v = true ∧ rV r v = v := by
  intro v hv r
  have := h v hv
  cases v <;> first | exact ⟨rfl, rfl⟩ | (simp [isScal] at this)
theorem takeR_ok : CallOK Try.prog (fun g args H k => if g = 87 then takeR args H k else none) := by
  refine callOK_of_fun fun args H k r hr => ?_
  unfold takeR at hr
  split at hr
  · obtain ⟨hc, hr2⟩ := cond_some hr
    exact rdK_fun (takeX_rd _ (okNn_cases hc)) (scal_keep _ (by simp [isScal])) hr2
  · cases hr
theorem uptoR_ok : CallOK Try.prog (fun g args H k => if g = 133 then uptoR args H k else none) := by
  refine callOK_of_fun fun args H k r hr => ?_
  unfold uptoR at hr
  split at hr
  · obtain ⟨hc, hr2⟩ := cond_some hr
    exact rdK_fun (uptoX_rd _ _ (okNn_cases hc)) (scal_keep _ (by simp [isScal])) hr2
  · cases hr
theorem kindR_ok : CallOK Try.prog (fun g args H k => if g = 120 then kindR args H k else none) := by
  refine callOK_of_fun fun args H k r hr => ?_
  unfold kindR at hr
  split at hr
  · exact rdK_fun (kindX_rd _) (scal_keep _ (by simp [isScal])) hr
  · cases hr
noncomputable def uptoK (n : Nat) (args : List Value) (k : Out → AH → Res) : Out → AH → Res :=
  match args with
  | [_, .int .u64 (.ofNat 8), _] => litW n k
  | [_, .int .u64 (.ofNat 64), _] => litW n k
  | _ => k
noncomputable def uptoA (n : Nat) : List Value → AH → (Out → AH → Res) → Res := fun args H k => uptoR args H (uptoK n args k)
noncomputable def kindA (j : Nat) : List Value → AH → (Out → AH → Res) → Res := fun args H k => kindR args H (litW j k)
theorem uptoA_ok (n : Nat) : CallOK Try.prog (fun g args H k => if g = 133 then uptoA n args H k else none) := ask_ok uptoR_ok (uptoK n) (fun args k o H' r h => by
  unfold uptoK at h
  split at h
  · exact litW_ok n k o H' r h
  · exact litW_ok n k o H' r h
  · exact h)
theorem kindA_ok (j : Nat) : CallOK Try.prog (fun g args H k => if g = 120 then kindA j args H k else none) := ask_ok kindR_ok (fun _ k => litW j k) (fun _ k o H' r h => litW_ok j k o H' r h)
noncomputable def tR (j n : Nat) : Tbl := tblOf [(87, takeR), (133, uptoA n), (120, kindA j)]
theorem tR_ok (j n : Nat) : TblOK Try.prog (tR j n) := tblOf_ok fun x hx => by
  simp only [List.mem_cons, List.not_mem_nil, or_false] at hx
  rcases hx with rfl | rfl | rfl
  · exact takeR_ok
  · exact uptoA_ok n
  · exact kindA_ok j
end Go.RX
