/- ReadCall: what is read of a string. -/
import Derived.Test.YtnidbincddpaaaaW15
namespace Go.RX
open Go Go.Proofs Go.RowKit
set_option maxRecDepth 100000

/-- Fields, as they are read: bytes of at most m; a number of parts; counts; versions; integers; numbers. -/
inductive Fk where
  | byte (m : Nat)
  | parts (m n : Nat)
  | cnt
  | ver
  | int
  | num
def Fk.n : Fk → Nat
  | .byte _ => 1
  | .parts _ _ => 1
  | .cnt => 4
  | _ => 8
noncomputable def Fk.go (f : Fk) (v : Int) (er : Res) (k : Int → Res) : Res :=
  match f with
  | .byte m => bif !!ltB (Int.ofNat m) v then er else k v
  | .parts m n => bif !!ltB (Int.ofNat m) v then er else bif asks (w64 v = Int.ofNat n) then k (Int.ofNat n) else none
  | .cnt => bif !!ltB 2147483647 v then er else k v
  | .ver => bif !!ltB 1099511627776 v then er else k v
  | .int => k v
  | .num => bif !(w64 v != -9223372036854775808) then er else k v
/-- Fields one after the other. -/
noncomputable def rdN (s : ByteArray) (er : Int → Res) : List Fk → Nat → (List Int → Res) → Res
  | [], _, k => k []
  | f :: fs, a, k => bif Nat.ble s.size 4611686018427387903 then (bif Nat.ble (Nat.add a f.n) s.size then f.go (Int.ofNat (beN s a f.n)) (er 4) (fun v => rdN s er fs (Nat.add a f.n) (fun l => k (v :: l))) else er 7) else none
def fNum : List Fk := [.num, .byte 1]
def fVec : List Fk := fNum ++ fNum
def fPose : List Fk := fVec ++ (fNum ++ fNum)
def fInts : Nat → List Fk
  | 0 => []
  | n + 1 => .int :: fInts n
def fSh (n : Nat) : List Fk := [.byte 255, .int, .int, .int, .parts 8 n] ++ fInts (2 * n)
def fmtK (kd n : Nat) : List Fk :=
  match kd with
  | 1 => .cnt :: (fSh n ++ (fPose ++ (fVec ++ (fNum ++ [.int, .byte 1]))))
  | 2 => [.cnt, .cnt, .cnt, .ver]
  | 3 => [.cnt, .cnt, .cnt, .ver] ++ (fVec ++ fVec)
  | 4 => [.cnt, .cnt, .cnt, .ver] ++ fVec
  | 5 => [.cnt, .cnt] ++ fVec
  | 6 => [.cnt, .cnt]
  | 7 => [.cnt, .cnt, .cnt]
  | 8 => .cnt :: fInts 4
  | 9 => .cnt :: fInts 4
  | _ => [.cnt]
def Fk.size : List Fk → Nat
  | [] => 0
  | f :: fs => f.n + Fk.size fs
section
variable (l : List Int)
def lI (i : Nat) : Int := w64 (l.getD i 0)

def lF (i : Nat) : Bool := w64 (l.getD i 0) == 1
def lN (i : Nat) : Nm := ⟨lI l i, lF l (i + 1)⟩
def lVc (i : Nat) : Vc := ⟨lN l i, lN l (i + 2)⟩
def lPs (i : Nat) : Ps := ⟨lVc l i, lN l (i + 4), lN l (i + 6)⟩
def l2 (i : Nat) : Int × Int := (lI l i, lI l (i + 1))
def lPts : Nat → Nat → List (Int × Int)
  | 0, _ => []
  | n + 1, i => l2 l i :: lPts n (i + 2)
def mkL (kd n : Nat) : Cl :=
  match kd with
  | 1 => mk1 (lI l 0) (lI l 1) (lI l 2) (lI l 3) (lI l 4) (lPs l (2 * n + 6)) (lVc l (2 * n + 14)) (lN l (2 * n + 18)) (lI l (2 * n + 20)) (lF l (2 * n + 21)) (lPts l n 6)
  | 2 => mk2 (lI l 0) (l2 l 1) (lI l 3)
  | 3 => mk3 (lI l 0) (l2 l 1) (lI l 3) (lVc l 4) (lVc l 8)
  | 4 => mk4 (lI l 0) (l2 l 1) (lI l 3) (lVc l 4)
  | 5 => mk5 (lI l 0) (lVc l 2) (lI l 1)
  | 6 => mk6 (lI l 0) (lI l 1)
  | 7 => mk7 (lI l 0) (l2 l 1)
  | 8 => mk8 (lI l 0) (l2 l 1, l2 l 3)
  | 9 => mk9 (lI l 0) (l2 l 1) (l2 l 3)
  | _ => mk10 (lI l 0)
end
def zC : Cl := ⟨0, 0, z2, 0, zS, zP, zV, zN, 0, false, zV, zV, 0, (z2, z2), z2, z2⟩
/-- What is picked: where all went well. -/
noncomputable def pkE (src : List Nat) (o : Out) (H : AH) : List (Option Blk) := match o with | .ret (.tuple ⟨[_, .int .i64 e]⟩) => bif e == 0 then pick H src else [] | _ => []
section
variable (s : ByteArray) (g : Out → List (Option Blk) → Res) (p : Value) (B : Cl → List (Option Blk))
/-- What an error gives. -/
noncomputable def erC (e : Int) : Res := g (.ret (.tuple #[.agg ⟨zC.cells (slN 0 0)⟩, .int .i64 e])) []
noncomputable def rdNest (kd n : Nat) : Res :=
  bif Nat.ble s.size 4611686018427387903 then
  bif Nat.ble (Nat.add 0 1) s.size then
    (bif !ltB (w64 (Int.ofNat (beN s 0 1))) 1 then (bif !(bif true then !ltB 10 (w64 (Int.ofNat (beN s 0 1))) else false) then erC g 8 else
      bif asks (w64 (Int.ofNat (beN s 0 1)) = Int.ofNat kd) then
        rdN s (erC g) (fmtK kd n) (Nat.add 0 1) (fun l => bif !((Int.ofNat (Nat.add 1 (Fk.size (fmtK kd n)))) == (s.size : Int)) then erC g 6 else g (.ret (.tuple #[.agg ⟨(mkL l kd n).cells p⟩, .int .i64 0])) (B (mkL l kd n))) else none)
    else erC g 8)
  else erC g 7 else none
noncomputable def rdRun (j n : Nat) (src : List Nat) : Res := run Try.prog (tR j n) 100 30 38 [.string s] (AH.of []) (fun o H' => g o (pkE src o H'))
theorem rd2 : rdRun s g 2 0 [] = rdNest s g (slN 0 0) (fun _ => []) 2 0 := by kernel_rfl
theorem rd3 : rdRun s g 3 0 [] = rdNest s g (slN 0 0) (fun _ => []) 3 0 := by kernel_rfl
theorem rd4 : rdRun s g 4 0 [] = rdNest s g (slN 0 0) (fun _ => []) 4 0 := by kernel_rfl
theorem rd5 : rdRun s g 5 0 [] = rdNest s g (slN 0 0) (fun _ => []) 5 0 := by kernel_rfl
theorem rd6 : rdRun s g 6 0 [] = rdNest s g (slN 0 0) (fun _ => []) 6 0 := by kernel_rfl
theorem rd7 : rdRun s g 7 0 [] = rdNest s g (slN 0 0) (fun _ => []) 7 0 := by kernel_rfl
theorem rd8 : rdRun s g 8 0 [] = rdNest s g (slN 0 0) (fun _ => []) 8 0 := by kernel_rfl
theorem rd9 : rdRun s g 9 0 [] = rdNest s g (slN 0 0) (fun _ => []) 9 0 := by kernel_rfl
theorem rd10 : rdRun s g 10 0 [] = rdNest s g (slN 0 0) (fun _ => []) 10 0 := by kernel_rfl
theorem rd1_0 : rdRun s g 1 0 [] = rdNest s g (slN 0 0) (fun _ => []) 1 0 := by kernel_rfl
theorem rd1_1 : rdRun s g 1 1 [7] = rdNest s g (slI 7 1 1) (fun c => [some (ptB c.shape.pts true true)]) 1 1 := by kernel_rfl
theorem rd1_2 : rdRun s g 1 2 [10] = rdNest s g (slI 10 2 2) (fun c => [some (ptB c.shape.pts true true)]) 1 2 := by kernel_rfl
theorem rd1_3 : rdRun s g 1 3 [13] = rdNest s g (slI 13 3 3) (fun c => [some (ptB c.shape.pts true true)]) 1 3 := by kernel_rfl
theorem rd1_4 : rdRun s g 1 4 [16] = rdNest s g (slI 16 4 4) (fun c => [some (ptB c.shape.pts true true)]) 1 4 := by kernel_rfl
theorem rd1_5 : rdRun s g 1 5 [19] = rdNest s g (slI 19 5 5) (fun c => [some (ptB c.shape.pts true true)]) 1 5 := by kernel_rfl
theorem rd1_6 : rdRun s g 1 6 [22] = rdNest s g (slI 22 6 6) (fun c => [some (ptB c.shape.pts true true)]) 1 6 := by kernel_rfl
theorem rd1_7 : rdRun s g 1 7 [25] = rdNest s g (slI 25 7 7) (fun c => [some (ptB c.shape.pts true true)]) 1 7 := by kernel_rfl
theorem rd1_8 : rdRun s g 1 8 [28] = rdNest s g (slI 28 8 8) (fun c => [some (ptB c.shape.pts true true)]) 1 8 := by kernel_rfl
end
end Go.RX
