/- CallOf: calls made of numbers. -/
import Derived.Test.YtnidbincddpaaaaE19
import Derived.Test.YtnidbincddpaaaaW8
namespace Go.RX
open Go Go.Proofs Go.RowKit
set_option maxRecDepth 100000

/-- a modulo k + 1. -/
def modN (a : Int) (k : Nat) : Nat := (a % ((k + 1 : Nat) : Int)).toNat
theorem mod_nest (a : Int) (k : Nat) (g : Out → Res) : run Try.prog (fun _ => none) 100 30 39 [.int .i64 a, .int .i64 (Int.ofNat (k + 1))] .nil (fun o _ => g o) =
    bif ltB (a.tmod (Int.ofNat (k + 1))) 0 then g (.ret (.int .i64 (IntKind.i64.wrap (a.tmod (Int.ofNat (k + 1)) + Int.ofNat (k + 1))))) else g (.ret (.int .i64 (a.tmod (Int.ofNat (k + 1))))) := by kernel_rfl
theorem mod_run (a : Int) (k : Nat) (hk : k < 4611686018427387904) (g : Out → Res) : run Try.prog (fun _ => none) 100 30 39 [.int .i64 a, .int .i64 (Int.ofNat (k + 1))] .nil (fun o _ => g o) = g (.ret (.int .i64 (Int.ofNat (modN a k)))) := by
  rw [mod_nest, ltB_eq, Int.ofNat_eq_natCast, Int.ofNat_eq_natCast]
  have h2 := Int.emod_nonneg a (b := ((k + 1 : Nat) : Int)) (by omega)
  have h3 := Int.emod_lt_of_pos a (b := ((k + 1 : Nat) : Int)) (by omega)
  have h4 : ((modN a k : Nat) : Int) = a % ((k + 1 : Nat) : Int) := Int.toNat_of_nonneg h2
  rw [h4]
  by_cases h : a.tmod ((k + 1 : Nat) : Int) < 0
  · rw [decide_eq_true h, cond_true]
    have h5 : a.tmod ((k + 1 : Nat) : Int) + ((k + 1 : Nat) : Int) = a % ((k + 1 : Nat) : Int) := by
      rw [Int.tmod_eq_emod] at h ⊢
      split at h <;> rename_i hc
      · omega
      · rw [if_neg hc]
        simp only [Int.natAbs_natCast] at *
        omega
    rw [h5, IntKind.wrap_i64]
    congr 3
    omega
  · rw [decide_eq_false h, cond_false]
    have h5 : a.tmod ((k + 1 : Nat) : Int) = a % ((k + 1 : Nat) : Int) := by
      rw [Int.tmod_eq_emod] at h ⊢
      split at h <;> rename_i hc
      · rw [if_pos hc]; omega
      · rw [if_neg hc]
        simp only [Int.natAbs_natCast] at *
        omega
    rw [h5]
def modSpec : List Value → Option Value
  | [.int .i64 a, .int .i64 (.ofNat (k + 1))] => bif Nat.ble k 4611686018427387903 then some (.int .i64 (Int.ofNat (modN a k))) else none
  | _ => none
theorem modS_ok : CallOK Try.prog (fun g args H k => if g = 39 then pureS modSpec args H k else none) :=
  pureS_ok fun args v hv => by
    unfold modSpec at hv
    split at hv
    · rename_i a k
      cases hc : Nat.ble k 4611686018427387903 with
      | false => rw [hc, cond_false] at hv; cases hv
      | true =>
        rw [hc, cond_true] at hv
        injection hv with hv; subst hv
        rw [Nat.ble_eq] at hc
        exact ⟨rfl, calls_pure try_num try_mix tbl_none (mod_run a k (by omega)) (by simp [scV, scT, scS]) (by simp [scV, scT, scS])⟩
    · cases hv
/-- A call whose answer is known. -/
theorem ask_ok {f : FuncId} {s : List Value → AH → (Out → AH → Res) → Res} (hs : CallOK Try.prog (fun g args H k => if g = f then s args H k else none)) (K : List Value → (Out → AH → Res) → Out → AH → Res)
    (hK : ∀ args k o H' r, K args k o H' = some r → k o H' = some r) : CallOK Try.prog (fun g args H k => if g = f then s args H (K args k) else none) := by
  intro g args H k r hr W0 S R σ w hR hargs hk
  refine hs g args H (K args k) r hr W0 S R σ w hR hargs (fun o H' ho => hk o H' (hK args k o H' r ho))

noncomputable def litK (j : Nat) (k : Out → AH → Res) : Out → AH → Res := fun o H' =>
  match o with
  | .ret (.int .i64 (.ofNat x)) => bif asks (x = j) then k (.ret (.int .i64 (Int.ofNat j))) H' else none
  | _ => none
theorem litK_ok (j : Nat) (k : Out → AH → Res) (o : Out) (H' : AH) (r : Out × AH) (h : litK j k o H' = some r) : k o H' = some r := by
  unfold litK at h
  split at h
  · obtain ⟨hc, h2⟩ := cond_some h
    have := asks_iff.1 hc
    subst this
    exact h2
  · cases h
noncomputable def modC (j : Nat) : List Value → AH → (Out → AH → Res) → Res := fun args H k => pureS modSpec args H (litK j k)
noncomputable def from8K (n : Nat) (args : List Value) (k : Out → AH → Res) : Out → AH → Res :=
  match args with
  | [_, .int .i64 (.ofNat 8)] => litK n k
  | _ => k
noncomputable def fromC (n : Nat) : List Value → AH → (Out → AH → Res) → Res := fun args H k => fromS args H (from8K n args k)
theorem modC_ok (j : Nat) : CallOK Try.prog (fun g args H k => if g = 39 then modC j args H k else none) := ask_ok modS_ok (fun _ k => litK j k) (fun _ k o H' r h => litK_ok j k o H' r h)
theorem fromC_ok (n : Nat) : CallOK Try.prog (fun g args H k => if g = 61 then fromC n args H k else none) := ask_ok fromS_ok (from8K n) (fun args k o H' r h => by
  unfold from8K at h
  split at h
  · exact litK_ok n k o H' r h
  · exact h)
noncomputable def tC (j n : Nat) : Tbl := tblOf [(66, nextS), (61, fromC n), (65, numS), (39, modC j)]
theorem tC_ok (j n : Nat) : TblOK Try.prog (tC j n) := tblOf_ok fun x hx => by
  simp only [List.mem_cons, List.not_mem_nil, or_false] at hx
  rcases hx with rfl | rfl | rfl | rfl
  · exact nextS_ok
  · exact fromC_ok n
  · exact numS_ok
  · exact modC_ok j

section
variable (L : List Value)
def nF (m i : Nat) : Int := Int.ofNat (fromN (nthV L i) m)
def nX (i : Nat) : Int := nthV L i
def nN (i : Nat) : Nm := ⟨numX (nthV L i), numF (nthV L i)⟩
def nV (i : Nat) : Vc := ⟨nN L i, nN L (i + 1)⟩
def nP (i : Nat) : Ps := ⟨nV L i, nN L (i + 2), nN L (i + 3)⟩
def nH (i : Nat) : Int × Int := (nF L 2147483647 i, nF L 2147483647 (i + 1))
def nS (i : Nat) : Int × Int := (nX L i, nX L (i + 1))
def nPts : Nat → Nat → List (Int × Int)
  | 0, _ => []
  | n + 1, i => nS L i :: nPts n (i + 2)
/-- The call of a kind, made of numbers. -/
def ofK (kd n : Nat) : Cl :=
  match kd with
  | 1 => mk1 (nF L 2147483647 0) (nF L 255 1) (nX L 2) (nX L 3) (nX L 4) (nP L (2 * n + 6)) (nV L (2 * n + 10)) (nN L (2 * n + 12)) (nX L (2 * n + 13)) (nF L 1 (2 * n + 14) == 1) (nPts L n 6)
  | 2 => mk2 (nF L 2147483647 0) (nH L 1) (nF L 1099511627776 3)
  | 3 => mk3 (nF L 2147483647 0) (nH L 1) (nF L 1099511627776 3) (nV L 4) (nV L 6)
  | 4 => mk4 (nF L 2147483647 0) (nH L 1) (nF L 1099511627776 3) (nV L 4)
  | 5 => mk5 (nF L 2147483647 0) (nV L 2) (nF L 2147483647 1)
  | 6 => mk6 (nF L 2147483647 0) (nF L 2147483647 1)
  | 7 => mk7 (nF L 2147483647 0) (nH L 1)
  | 8 => mk8 (nF L 2147483647 0) (nS L 1, nS L 3)
  | 9 => mk9 (nF L 2147483647 0) (nS L 1) (nS L 3)
  | _ => mk10 (nF L 2147483647 0)
def reads (kd : Nat) : Nat := match kd with | 2 => 4 | 3 => 8 | 4 => 6 | 5 => 4 | 6 => 2 | 7 => 3 | 8 => 5 | 9 => 5 | 10 => 1 | _ => 0
end
noncomputable def srcN (L : List Value) (n c : Nat) : Nat → Res → Res
  | 0, r => r
  | N + 1, r => bif srcOK L n c then srcN L n c N r else none
@[reducible] def nuB (L : List Value) (wr pl : Bool) : Blk := ⟨L, 2, wr, true, pl, none⟩
noncomputable def ofRun (j n : Nat) (x : Int) (L : List Value) (len c : Nat) (wr pl : Bool) (src : List Nat) (g : Out → List (Option Blk) → Res) : Res := run Try.prog (tC j n) 100 30 23 [.int .i64 x, .slice (some ⟨0,0,none⟩) len c] (AH.of [nuB L wr pl]) (fun o H' => g o (pick H' src))
section
variable (x : Int) (L : List Value) (len c : Nat) (wr pl : Bool) (g : Out → List (Option Blk) → Res)
noncomputable def ofNest (kd : Nat) : Res := bif asks (modN x 9 = kd - 1) then srcN L len c (reads kd) (g (.ret (.agg ⟨(ofK L kd 0).cells (slN 0 0)⟩)) [some (nuB L wr pl)]) else none
noncomputable def ofNest1 (n : Nat) (p : Value) (B : List (Option Blk)) : Res := bif asks (modN x 9 = 0) then srcN L len c 6 (bif asks (fromN (nthV L 5) 8 = n) then srcN L len c (2 * n + 9) (g (.ret (.agg ⟨(ofK L 1 n).cells p⟩)) B) else none) else none
theorem of2 : ofRun 1 0 x L len c wr pl [0] g = ofNest x L len c wr pl g 2 := by kernel_rfl
theorem of3 : ofRun 2 0 x L len c wr pl [0] g = ofNest x L len c wr pl g 3 := by kernel_rfl
theorem of4 : ofRun 3 0 x L len c wr pl [0] g = ofNest x L len c wr pl g 4 := by kernel_rfl
theorem of5 : ofRun 4 0 x L len c wr pl [0] g = ofNest x L len c wr pl g 5 := by kernel_rfl
theorem of6 : ofRun 5 0 x L len c wr pl [0] g = ofNest x L len c wr pl g 6 := by kernel_rfl
theorem of7 : ofRun 6 0 x L len c wr pl [0] g = ofNest x L len c wr pl g 7 := by kernel_rfl
theorem of8 : ofRun 7 0 x L len c wr pl [0] g = ofNest x L len c wr pl g 8 := by kernel_rfl
theorem of9 : ofRun 8 0 x L len c wr pl [0] g = ofNest x L len c wr pl g 9 := by kernel_rfl
theorem of10 : ofRun 9 0 x L len c wr pl [0] g = ofNest x L len c wr pl g 10 := by kernel_rfl
theorem of1_0 : ofRun 0 0 x L len c wr pl [0] g = ofNest1 x L len c g 0 (slN 0 0) [some (nuB L wr pl)] := by kernel_rfl
theorem of1_1 : ofRun 0 1 x L len c wr pl [0, 8] g = ofNest1 x L len c g 1 (slI 8 1 1) [some (nuB L wr pl), some (ptB (nPts L 1 6) true true)] := by kernel_rfl
theorem of1_2 : ofRun 0 2 x L len c wr pl [0, 11] g = ofNest1 x L len c g 2 (slI 11 2 2) [some (nuB L wr pl), some (ptB (nPts L 2 6) true true)] := by kernel_rfl
theorem of1_3 : ofRun 0 3 x L len c wr pl [0, 14] g = ofNest1 x L len c g 3 (slI 14 3 3) [some (nuB L wr pl), some (ptB (nPts L 3 6) true true)] := by kernel_rfl
theorem of1_4 : ofRun 0 4 x L len c wr pl [0, 17] g = ofNest1 x L len c g 4 (slI 17 4 4) [some (nuB L wr pl), some (ptB (nPts L 4 6) true true)] := by kernel_rfl
theorem of1_5 : ofRun 0 5 x L len c wr pl [0, 20] g = ofNest1 x L len c g 5 (slI 20 5 5) [some (nuB L wr pl), some (ptB (nPts L 5 6) true true)] := by kernel_rfl
theorem of1_6 : ofRun 0 6 x L len c wr pl [0, 23] g = ofNest1 x L len c g 6 (slI 23 6 6) [some (nuB L wr pl), some (ptB (nPts L 6 6) true true)] := by kernel_rfl
theorem of1_7 : ofRun 0 7 x L len c wr pl [0, 26] g = ofNest1 x L len c g 7 (slI 26 7 7) [some (nuB L wr pl), some (ptB (nPts L 7 6) true true)] := by kernel_rfl
theorem of1_8 : ofRun 0 8 x L len c wr pl [0, 29] g = ofNest1 x L len c g 8 (slI 29 8 8) [some (nuB L wr pl), some (ptB (nPts L 8 6) true true)] := by kernel_rfl
end
end Go.RX
