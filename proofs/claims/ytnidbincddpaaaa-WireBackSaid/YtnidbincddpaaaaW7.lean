/- wire.Call: the bytes of calls, kind by kind. -/
import Derived.Test.YtnidbincddpaaaaW6
namespace Go.RX
open Go Go.Proofs Go.RowKit
set_option maxRecDepth 100000

/-- Bytes of a number, as put has them: the highest of the lowest n first. -/
def by8 (x : Int) (k : Nat) : UInt8 := byteVal (.int .u8 (IntKind.u8.wrap (x.fdiv (2 ^ k))))
def encW (n : Int) : List UInt8 := [by8 (IntKind.u64.wrap (IntKind.u32.wrap n)) 24, by8 (IntKind.u64.wrap (IntKind.u32.wrap n)) 16, by8 (IntKind.u64.wrap (IntKind.u32.wrap n)) 8, by8 (IntKind.u64.wrap (IntKind.u32.wrap n)) 0]
def encI (n : Int) : List UInt8 := [by8 (IntKind.u64.wrap n) 56, by8 (IntKind.u64.wrap n) 48, by8 (IntKind.u64.wrap n) 40, by8 (IntKind.u64.wrap n) 32, by8 (IntKind.u64.wrap n) 24, by8 (IntKind.u64.wrap n) 16, by8 (IntKind.u64.wrap n) 8, by8 (IntKind.u64.wrap n) 0]
def encO (n : Int) : List UInt8 := [byteVal (.int .u8 (IntKind.u8.wrap n))]
def encF (is : Bool) : List UInt8 := [byteVal (fl is)]
def encN (n : Nm) : List UInt8 := encI n.v ++ encF n.f
def encV (v : Vc) : List UInt8 := encN v.x ++ encN v.y
def encP (p : Ps) : List UInt8 := encV p.p ++ (encN p.c ++ encN p.s)
def encS2 (p : Int × Int) : List UInt8 := encI p.1 ++ encI p.2
def encH (p : Int × Int) : List UInt8 := encW p.1 ++ encW p.2
def encPts : List (Int × Int) → List UInt8
  | [] => []
  | p :: r => encS2 p ++ encPts r
def encSh (s : Shp) : List UInt8 := encO s.kind ++ (encI s.r ++ (encI s.w ++ (encI s.h ++ (encO s.pts.length ++ encPts s.pts))))
def encK (kd : Nat) (c : Cl) : List UInt8 :=
  match kd with
  | 1 => encSh c.shape ++ (encP c.pose ++ (encV c.v ++ (encN c.w ++ (encI c.den ++ encF c.moves))))
  | 2 => encH c.body ++ encI c.ver
  | 3 => encH c.body ++ (encI c.ver ++ (encV c.pt ++ encV c.to))
  | 4 => encH c.body ++ (encI c.ver ++ encV c.pt)
  | 5 => encW c.grab ++ encV c.to
  | 6 => encW c.grab
  | 7 => encH c.body
  | 8 => encS2 c.box.1 ++ encS2 c.box.2
  | 9 => encS2 c.fro ++ encS2 c.unt
  | _ => []
def encC (kd : Nat) (c : Cl) : List UInt8 := encO kd ++ (encW c.id ++ encK kd c)

/-- What is needed. -/
def cnt (n : Int) : List Bool := [!ltB n 0, bif true then !ltB 2147483647 n else false]
def ver (n : Int) : List Bool := [!ltB n 0, bif true then !ltB 1099511627776 n else false]
def smallc (n m : Int) : List Bool := [!ltB n 0, bif true then !ltB m n else false]
def numc (n : Nm) : List Bool := [n.v != -9223372036854775808]
def vecc (v : Vc) : List Bool := numc v.x ++ numc v.y
def posec (p : Ps) : List Bool := vecc p.p ++ (numc p.c ++ numc p.s)
def hanc (p : Int × Int) : List Bool := cnt p.1 ++ cnt p.2
def cndK (kd : Nat) (c : Cl) : List Bool :=
  match kd with
  | 1 => smallc c.shape.kind 255 ++ (posec c.pose ++ (vecc c.v ++ numc c.w))
  | 2 => hanc c.body ++ ver c.ver
  | 3 => hanc c.body ++ (ver c.ver ++ (vecc c.pt ++ vecc c.to))
  | 4 => hanc c.body ++ (ver c.ver ++ vecc c.pt)
  | 5 => cnt c.grab ++ vecc c.to
  | 6 => cnt c.grab
  | 7 => hanc c.body
  | _ => []
def cndC (kd : Nat) (c : Cl) : List Bool := cnt c.id ++ cndK kd c

noncomputable def tE : Tbl := tblOf [(94, putS), (95, octetS), (134, needA), (102, flagS), (25, sameS)]
theorem tE_ok : TblOK Try.prog tE := tblOf_ok fun x hx => by
  simp only [List.mem_cons, List.not_mem_nil, or_false] at hx
  rcases hx with rfl | rfl | rfl | rfl | rfl
  · exact putS_ok
  · exact octetS_ok
  · exact needA_ok
  · exact flagS_ok
  · exact sameS_ok

def z2 : Int × Int := (0, 0)
def zN : Nm := ⟨0, false⟩
def zV : Vc := ⟨zN, zN⟩
def zP : Ps := ⟨zV, zN, zN⟩
def zS : Shp := ⟨0, 0, 0, 0, []⟩
noncomputable def callRun (c : Cl) (p : Value) (B : List Blk) (g : Out → List (Option Blk) → Res) : Res := run Try.prog tE 100 30 24 [.agg ⟨c.cells p⟩] (AH.of B) (fun o H' => g o (seen H' B.length))
noncomputable def callNest (kd : Nat) (c : Cl) (p : Value) (n : Nat) (l : List Value) (B : List (Option Blk)) (g : Out → List (Option Blk) → Res) : Res :=
  bif asks (SameAsk (c.cells p) (c.cells p) p p n n l l) then (bif !sameB c c then g (.ret (.tuple #[.string ⟨#[]⟩, .int .i64 4])) B else
    andN none (g (.ret (.tuple #[.string ⟨⟨encC kd c⟩⟩, .int .i64 0])) B) (cndC kd c)) else none
section
variable (id : Int) (body : Int × Int) (vr : Int) (sk sr sw sh : Int) (pose : Ps) (v : Vc) (w : Nm) (den : Int) (moves : Bool) (pt to : Vc) (grab : Int) (box : (Int × Int) × (Int × Int)) (fro unt : Int × Int) (c : Nat) (wr pl : Bool) (g : Out → List (Option Blk) → Res)
def mk1 (pts : List (Int × Int)) : Cl := ⟨1, id, z2, 0, ⟨sk, sr, sw, sh, pts⟩, pose, v, w, den, moves, zV, zV, 0, (z2, z2), z2, z2⟩
def mk2 : Cl := ⟨2, id, body, vr, zS, zP, zV, zN, 0, false, zV, zV, 0, (z2, z2), z2, z2⟩
def mk3 : Cl := ⟨3, id, body, vr, zS, zP, zV, zN, 0, false, pt, to, 0, (z2, z2), z2, z2⟩
def mk4 : Cl := ⟨4, id, body, vr, zS, zP, zV, zN, 0, false, pt, zV, 0, (z2, z2), z2, z2⟩
def mk5 : Cl := ⟨5, id, z2, 0, zS, zP, zV, zN, 0, false, zV, to, grab, (z2, z2), z2, z2⟩
def mk6 : Cl := ⟨6, id, z2, 0, zS, zP, zV, zN, 0, false, zV, zV, grab, (z2, z2), z2, z2⟩
def mk7 : Cl := ⟨7, id, body, 0, zS, zP, zV, zN, 0, false, zV, zV, 0, (z2, z2), z2, z2⟩
def mk8 : Cl := ⟨8, id, z2, 0, zS, zP, zV, zN, 0, false, zV, zV, 0, box, z2, z2⟩
def mk9 : Cl := ⟨9, id, z2, 0, zS, zP, zV, zN, 0, false, zV, zV, 0, (z2, z2), fro, unt⟩
def mk10 : Cl := ⟨10, id, z2, 0, zS, zP, zV, zN, 0, false, zV, zV, 0, (z2, z2), z2, z2⟩
theorem call2 : callRun (mk2 id body vr) (slN 0 0) [] g = callNest 2 (mk2 id body vr) (slN 0 0) 0 [] [] g := by kernel_rfl
theorem call3 : callRun (mk3 id body vr pt to) (slN 0 0) [] g = callNest 3 (mk3 id body vr pt to) (slN 0 0) 0 [] [] g := by kernel_rfl
theorem call4 : callRun (mk4 id body vr pt) (slN 0 0) [] g = callNest 4 (mk4 id body vr pt) (slN 0 0) 0 [] [] g := by kernel_rfl
theorem call5 : callRun (mk5 id to grab) (slN 0 0) [] g = callNest 5 (mk5 id to grab) (slN 0 0) 0 [] [] g := by kernel_rfl
theorem call6 : callRun (mk6 id grab) (slN 0 0) [] g = callNest 6 (mk6 id grab) (slN 0 0) 0 [] [] g := by kernel_rfl
theorem call7 : callRun (mk7 id body) (slN 0 0) [] g = callNest 7 (mk7 id body) (slN 0 0) 0 [] [] g := by kernel_rfl
theorem call8 : callRun (mk8 id box) (slN 0 0) [] g = callNest 8 (mk8 id box) (slN 0 0) 0 [] [] g := by kernel_rfl
theorem call9 : callRun (mk9 id fro unt) (slN 0 0) [] g = callNest 9 (mk9 id fro unt) (slN 0 0) 0 [] [] g := by kernel_rfl
theorem call10 : callRun (mk10 id) (slN 0 0) [] g = callNest 10 (mk10 id) (slN 0 0) 0 [] [] g := by kernel_rfl
theorem call1n : callRun (mk1 id sk sr sw sh pose v w den moves []) (slN 0 0) [] g = callNest 1 (mk1 id sk sr sw sh pose v w den moves []) (slN 0 0) 0 [] [] g := by kernel_rfl
theorem call1_0 : callRun (mk1 id sk sr sw sh pose v w den moves []) (slI 0 0 c) [ptB [] wr pl] g = callNest 1 (mk1 id sk sr sw sh pose v w den moves []) (slI 0 0 c) 0 (flat []) [some (ptB [] wr pl)] g := by kernel_rfl
theorem call1_1 (x1 y1 : Int) : callRun (mk1 id sk sr sw sh pose v w den moves [(x1, y1)]) (slI 0 1 c) [ptB [(x1, y1)] wr pl] g = callNest 1 (mk1 id sk sr sw sh pose v w den moves [(x1, y1)]) (slI 0 1 c) 1 (flat [(x1, y1)]) [some (ptB [(x1, y1)] wr pl)] g := by kernel_rfl
theorem call1_2 (x1 y1 x2 y2 : Int) : callRun (mk1 id sk sr sw sh pose v w den moves [(x1, y1), (x2, y2)]) (slI 0 2 c) [ptB [(x1, y1), (x2, y2)] wr pl] g = callNest 1 (mk1 id sk sr sw sh pose v w den moves [(x1, y1), (x2, y2)]) (slI 0 2 c) 2 (flat [(x1, y1), (x2, y2)]) [some (ptB [(x1, y1), (x2, y2)] wr pl)] g := by kernel_rfl
theorem call1_3 (x1 y1 x2 y2 x3 y3 : Int) : callRun (mk1 id sk sr sw sh pose v w den moves [(x1, y1), (x2, y2), (x3, y3)]) (slI 0 3 c) [ptB [(x1, y1), (x2, y2), (x3, y3)] wr pl] g = callNest 1 (mk1 id sk sr sw sh pose v w den moves [(x1, y1), (x2, y2), (x3, y3)]) (slI 0 3 c) 3 (flat [(x1, y1), (x2, y2), (x3, y3)]) [some (ptB [(x1, y1), (x2, y2), (x3, y3)] wr pl)] g := by kernel_rfl
theorem call1_4 (x1 y1 x2 y2 x3 y3 x4 y4 : Int) : callRun (mk1 id sk sr sw sh pose v w den moves [(x1, y1), (x2, y2), (x3, y3), (x4, y4)]) (slI 0 4 c) [ptB [(x1, y1), (x2, y2), (x3, y3), (x4, y4)] wr pl] g = callNest 1 (mk1 id sk sr sw sh pose v w den moves [(x1, y1), (x2, y2), (x3, y3), (x4, y4)]) (slI 0 4 c) 4 (flat [(x1, y1), (x2, y2), (x3, y3), (x4, y4)]) [some (ptB [(x1, y1), (x2, y2), (x3, y3), (x4, y4)] wr pl)] g := by kernel_rfl
theorem call1_5 (x1 y1 x2 y2 x3 y3 x4 y4 x5 y5 : Int) : callRun (mk1 id sk sr sw sh pose v w den moves [(x1, y1), (x2, y2), (x3, y3), (x4, y4), (x5, y5)]) (slI 0 5 c) [ptB [(x1, y1), (x2, y2), (x3, y3), (x4, y4), (x5, y5)] wr pl] g = callNest 1 (mk1 id sk sr sw sh pose v w den moves [(x1, y1), (x2, y2), (x3, y3), (x4, y4), (x5, y5)]) (slI 0 5 c) 5 (flat [(x1, y1), (x2, y2), (x3, y3), (x4, y4), (x5, y5)]) [some (ptB [(x1, y1), (x2, y2), (x3, y3), (x4, y4), (x5, y5)] wr pl)] g := by kernel_rfl
theorem call1_6 (x1 y1 x2 y2 x3 y3 x4 y4 x5 y5 x6 y6 : Int) : callRun (mk1 id sk sr sw sh pose v w den moves [(x1, y1), (x2, y2), (x3, y3), (x4, y4), (x5, y5), (x6, y6)]) (slI 0 6 c) [ptB [(x1, y1), (x2, y2), (x3, y3), (x4, y4), (x5, y5), (x6, y6)] wr pl] g = callNest 1 (mk1 id sk sr sw sh pose v w den moves [(x1, y1), (x2, y2), (x3, y3), (x4, y4), (x5, y5), (x6, y6)]) (slI 0 6 c) 6 (flat [(x1, y1), (x2, y2), (x3, y3), (x4, y4), (x5, y5), (x6, y6)]) [some (ptB [(x1, y1), (x2, y2), (x3, y3), (x4, y4), (x5, y5), (x6, y6)] wr pl)] g := by kernel_rfl
theorem call1_7 (x1 y1 x2 y2 x3 y3 x4 y4 x5 y5 x6 y6 x7 y7 : Int) : callRun (mk1 id sk sr sw sh pose v w den moves [(x1, y1), (x2, y2), (x3, y3), (x4, y4), (x5, y5), (x6, y6), (x7, y7)]) (slI 0 7 c) [ptB [(x1, y1), (x2, y2), (x3, y3), (x4, y4), (x5, y5), (x6, y6), (x7, y7)] wr pl] g = callNest 1 (mk1 id sk sr sw sh pose v w den moves [(x1, y1), (x2, y2), (x3, y3), (x4, y4), (x5, y5), (x6, y6), (x7, y7)]) (slI 0 7 c) 7 (flat [(x1, y1), (x2, y2), (x3, y3), (x4, y4), (x5, y5), (x6, y6), (x7, y7)]) [some (ptB [(x1, y1), (x2, y2), (x3, y3), (x4, y4), (x5, y5), (x6, y6), (x7, y7)] wr pl)] g := by kernel_rfl
theorem call1_8 (x1 y1 x2 y2 x3 y3 x4 y4 x5 y5 x6 y6 x7 y7 x8 y8 : Int) : callRun (mk1 id sk sr sw sh pose v w den moves [(x1, y1), (x2, y2), (x3, y3), (x4, y4), (x5, y5), (x6, y6), (x7, y7), (x8, y8)]) (slI 0 8 c) [ptB [(x1, y1), (x2, y2), (x3, y3), (x4, y4), (x5, y5), (x6, y6), (x7, y7), (x8, y8)] wr pl] g = callNest 1 (mk1 id sk sr sw sh pose v w den moves [(x1, y1), (x2, y2), (x3, y3), (x4, y4), (x5, y5), (x6, y6), (x7, y7), (x8, y8)]) (slI 0 8 c) 8 (flat [(x1, y1), (x2, y2), (x3, y3), (x4, y4), (x5, y5), (x6, y6), (x7, y7), (x8, y8)]) [some (ptB [(x1, y1), (x2, y2), (x3, y3), (x4, y4), (x5, y5), (x6, y6), (x7, y7), (x8, y8)] wr pl)] g := by kernel_rfl
end
end Go.RX
