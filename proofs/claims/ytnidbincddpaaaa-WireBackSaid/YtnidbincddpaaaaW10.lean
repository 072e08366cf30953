/- CallOf: what it tells. -/
import Derived.Test.YtnidbincddpaaaaW9
namespace Go.RX
open Go Go.Proofs Go.RowKit
set_option maxRecDepth 100000

noncomputable def ofRunN (j : Nat) (x : Int) (g : Out → List (Option Blk) → Res) : Res := run Try.prog (tC j 0) 100 30 23 [.int .i64 x, .slice none 0 0] (AH.of []) (fun o H' => g o (pick H' []))
section
variable (x : Int) (g : Out → List (Option Blk) → Res)
noncomputable def ofNestN (kd : Nat) : Res := bif asks (modN x 9 = kd - 1) then g (.ret (.agg ⟨(ofK [] kd 0).cells (slN 0 0)⟩)) [] else none
theorem ofN2 : ofRunN 1 x g = ofNestN x g 2 := by kernel_rfl
theorem ofN3 : ofRunN 2 x g = ofNestN x g 3 := by kernel_rfl
theorem ofN4 : ofRunN 3 x g = ofNestN x g 4 := by kernel_rfl
theorem ofN5 : ofRunN 4 x g = ofNestN x g 5 := by kernel_rfl
theorem ofN6 : ofRunN 5 x g = ofNestN x g 6 := by kernel_rfl
theorem ofN7 : ofRunN 6 x g = ofNestN x g 7 := by kernel_rfl
theorem ofN8 : ofRunN 7 x g = ofNestN x g 8 := by kernel_rfl
theorem ofN9 : ofRunN 8 x g = ofNestN x g 9 := by kernel_rfl
theorem ofN10 : ofRunN 9 x g = ofNestN x g 10 := by kernel_rfl
theorem ofN1 : ofRunN 0 x g = bif asks (modN x 9 = 0) then (bif asks (fromN (nthV [] 5) 8 = 0) then g (.ret (.agg ⟨(ofK [] 1 0).cells (slN 0 0)⟩)) [] else none) else none := by kernel_rfl
end
noncomputable def ofRunD (j : Nat) (x : Int) (t2 : TypeId) (wr pl : Bool) (g : Out → List (Option Blk) → Res) : Res := run Try.prog (tC j 0) 100 30 23 [.int .i64 x, .slice (some ⟨0, 0, some 0⟩) 0 0] (AH.of [deB t2 wr pl]) (fun o H' => g o (seen H' 1))
section
variable (x : Int) (t2 : TypeId) (wr pl : Bool) (g : Out → List (Option Blk) → Res)
noncomputable def ofNestD (kd : Nat) : Res := bif asks (modN x 9 = kd - 1) then g (.ret (.agg ⟨(ofK [] kd 0).cells (slN 0 0)⟩)) [some (deB t2 wr pl)] else none
theorem ofD2 : ofRunD 1 x t2 wr pl g = ofNestD x t2 wr pl g 2 := by kernel_rfl
theorem ofD3 : ofRunD 2 x t2 wr pl g = ofNestD x t2 wr pl g 3 := by kernel_rfl
theorem ofD4 : ofRunD 3 x t2 wr pl g = ofNestD x t2 wr pl g 4 := by kernel_rfl
theorem ofD5 : ofRunD 4 x t2 wr pl g = ofNestD x t2 wr pl g 5 := by kernel_rfl
theorem ofD6 : ofRunD 5 x t2 wr pl g = ofNestD x t2 wr pl g 6 := by kernel_rfl
theorem ofD7 : ofRunD 6 x t2 wr pl g = ofNestD x t2 wr pl g 7 := by kernel_rfl
theorem ofD8 : ofRunD 7 x t2 wr pl g = ofNestD x t2 wr pl g 8 := by kernel_rfl
theorem ofD9 : ofRunD 8 x t2 wr pl g = ofNestD x t2 wr pl g 9 := by kernel_rfl
theorem ofD10 : ofRunD 9 x t2 wr pl g = ofNestD x t2 wr pl g 10 := by kernel_rfl
theorem ofD1 : ofRunD 0 x t2 wr pl g = bif asks (modN x 9 = 0) then (bif asks (fromN (nthV [] 5) 8 = 0) then g (.ret (.agg ⟨(ofK [] 1 0).cells (slN 0 0)⟩)) [some (deB t2 wr pl)] else none) else none := by kernel_rfl
end
theorem srcN_true {L : List Value} {n c : Nat} (h : srcOK L n c = true) (r : Res) : ∀ N, srcN L n c N r = r
  | 0 => rfl
  | N + 1 => by rw [srcN, h, cond_true, srcN_true h r N]
theorem fromN_le (x : Int) (m : Nat) : fromN x m ≤ m := by
  unfold fromN
  rw [Int.natAbs_tmod, Int.natAbs_natCast]
  have := Nat.mod_lt x.natAbs (show 0 < m + 1 by omega)
  omega
theorem modN_le (x : Int) (k : Nat) : modN x k ≤ k := by
  unfold modN
  have h2 := Int.emod_nonneg x (b := ((k + 1 : Nat) : Int)) (by omega)
  have h3 := Int.emod_lt_of_pos x (b := ((k + 1 : Nat) : Int)) (by omega)
  omega
/-- How many corners the call has. -/
def nPt (x : Int) (L : List Value) : Nat := if modN x 9 = 0 then fromN (nthV L 5) 8 else 0
theorem of_nil (x : Int) (g : Out → List (Option Blk) → Res) : ofRunN (modN x 9) x g = g (.ret (.agg ⟨(ofK [] (modN x 9 + 1) 0).cells (slN 0 0)⟩)) [] := by
  have h := modN_le x 9
  have h0 : fromN (nthV [] 5) 8 = 0 := by decide
  have key : ∀ j, j = modN x 9 → ofRunN j x g = g (.ret (.agg ⟨(ofK [] (j + 1) 0).cells (slN 0 0)⟩)) [] := by
    intro j hj
    have h : j ≤ 9 := by omega
    match j, h, hj with
    | 0, _, hj => exact (ofN1 x g).trans (by rw [asks_true hj.symm, cond_true, asks_true h0, cond_true])
    | 1, _, hj => exact (ofN2 x g).trans (by unfold ofNestN; rw [asks_true hj.symm, cond_true])
    | 2, _, hj => exact (ofN3 x g).trans (by unfold ofNestN; rw [asks_true hj.symm, cond_true])
    | 3, _, hj => exact (ofN4 x g).trans (by unfold ofNestN; rw [asks_true hj.symm, cond_true])
    | 4, _, hj => exact (ofN5 x g).trans (by unfold ofNestN; rw [asks_true hj.symm, cond_true])
    | 5, _, hj => exact (ofN6 x g).trans (by unfold ofNestN; rw [asks_true hj.symm, cond_true])
    | 6, _, hj => exact (ofN7 x g).trans (by unfold ofNestN; rw [asks_true hj.symm, cond_true])
    | 7, _, hj => exact (ofN8 x g).trans (by unfold ofNestN; rw [asks_true hj.symm, cond_true])
    | 8, _, hj => exact (ofN9 x g).trans (by unfold ofNestN; rw [asks_true hj.symm, cond_true])
    | 9, _, hj => exact (ofN10 x g).trans (by unfold ofNestN; rw [asks_true hj.symm, cond_true])
    | j + 10, h, _ => omega
  exact key _ rfl
theorem of_dead (x : Int) (t2 : TypeId) (wr pl : Bool) (g : Out → List (Option Blk) → Res) : ofRunD (modN x 9) x t2 wr pl g = g (.ret (.agg ⟨(ofK [] (modN x 9 + 1) 0).cells (slN 0 0)⟩)) [some (deB t2 wr pl)] := by
  have h := modN_le x 9
  have h0 : fromN (nthV [] 5) 8 = 0 := by decide
  have key : ∀ j, j = modN x 9 → ofRunD j x t2 wr pl g = g (.ret (.agg ⟨(ofK [] (j + 1) 0).cells (slN 0 0)⟩)) [some (deB t2 wr pl)] := by
    intro j hj
    have h : j ≤ 9 := by omega
    match j, h, hj with
    | 0, _, hj => exact (ofD1 x t2 wr pl g).trans (by rw [asks_true hj.symm, cond_true, asks_true h0, cond_true])
    | 1, _, hj => exact (ofD2 x t2 wr pl g).trans (by unfold ofNestD; rw [asks_true hj.symm, cond_true])
    | 2, _, hj => exact (ofD3 x t2 wr pl g).trans (by unfold ofNestD; rw [asks_true hj.symm, cond_true])
    | 3, _, hj => exact (ofD4 x t2 wr pl g).trans (by unfold ofNestD; rw [asks_true hj.symm, cond_true])
    | 4, _, hj => exact (ofD5 x t2 wr pl g).trans (by unfold ofNestD; rw [asks_true hj.symm, cond_true])
    | 5, _, hj => exact (ofD6 x t2 wr pl g).trans (by unfold ofNestD; rw [asks_true hj.symm, cond_true])
    | 6, _, hj => exact (ofD7 x t2 wr pl g).trans (by unfold ofNestD; rw [asks_true hj.symm, cond_true])
    | 7, _, hj => exact (ofD8 x t2 wr pl g).trans (by unfold ofNestD; rw [asks_true hj.symm, cond_true])
    | 8, _, hj => exact (ofD9 x t2 wr pl g).trans (by unfold ofNestD; rw [asks_true hj.symm, cond_true])
    | 9, _, hj => exact (ofD10 x t2 wr pl g).trans (by unfold ofNestD; rw [asks_true hj.symm, cond_true])
    | j + 10, h, _ => omega
  exact key _ rfl
theorem of_row0 {L : List Value} {len c : Nat} (hs : srcOK L len c = true) (x : Int) (wr pl : Bool) (h0 : nPt x L = 0) (g : Out → List (Option Blk) → Res) :
    ofRun (modN x 9) 0 x L len c wr pl [0] g = g (.ret (.agg ⟨(ofK L (modN x 9 + 1) 0).cells (slN 0 0)⟩)) [some (nuB L wr pl)] := by
  have h := modN_le x 9
  have key : ∀ j, j = modN x 9 → ofRun j 0 x L len c wr pl [0] g = g (.ret (.agg ⟨(ofK L (j + 1) 0).cells (slN 0 0)⟩)) [some (nuB L wr pl)] := by
    intro j hj
    have h : j ≤ 9 := by omega
    match j, h, hj with
    | 0, _, hj =>
      have h1 : fromN (nthV L 5) 8 = 0 := by
        unfold nPt at h0
        rwa [if_pos hj.symm] at h0
      exact (of1_0 x L len c wr pl g).trans (by unfold ofNest1; rw [asks_true hj.symm, cond_true, srcN_true hs, asks_true h1, cond_true, srcN_true hs])
    | 1, _, hj => exact (of2 x L len c wr pl g).trans (by unfold ofNest; rw [asks_true hj.symm, cond_true, srcN_true hs])
    | 2, _, hj => exact (of3 x L len c wr pl g).trans (by unfold ofNest; rw [asks_true hj.symm, cond_true, srcN_true hs])
    | 3, _, hj => exact (of4 x L len c wr pl g).trans (by unfold ofNest; rw [asks_true hj.symm, cond_true, srcN_true hs])
    | 4, _, hj => exact (of5 x L len c wr pl g).trans (by unfold ofNest; rw [asks_true hj.symm, cond_true, srcN_true hs])
    | 5, _, hj => exact (of6 x L len c wr pl g).trans (by unfold ofNest; rw [asks_true hj.symm, cond_true, srcN_true hs])
    | 6, _, hj => exact (of7 x L len c wr pl g).trans (by unfold ofNest; rw [asks_true hj.symm, cond_true, srcN_true hs])
    | 7, _, hj => exact (of8 x L len c wr pl g).trans (by unfold ofNest; rw [asks_true hj.symm, cond_true, srcN_true hs])
    | 8, _, hj => exact (of9 x L len c wr pl g).trans (by unfold ofNest; rw [asks_true hj.symm, cond_true, srcN_true hs])
    | 9, _, hj => exact (of10 x L len c wr pl g).trans (by unfold ofNest; rw [asks_true hj.symm, cond_true, srcN_true hs])
    | j + 10, h, _ => omega
  exact key _ rfl
theorem of_rowN {L : List Value} {len c : Nat} (hs : srcOK L len c = true) (x : Int) (wr pl : Bool) {n : Nat} (hn : nPt x L = n) (h0 : n ≠ 0) (g : Out → List (Option Blk) → Res) :
    ofRun 0 n x L len c wr pl [0, 5 + 3 * n] g = g (.ret (.agg ⟨(ofK L 1 n).cells (slI (5 + 3 * n) n n)⟩)) [some (nuB L wr pl), some (ptB (nPts L n 6) true true)] := by
  have hm : modN x 9 = 0 := by
    unfold nPt at hn
    split at hn
    · assumption
    · exact absurd hn.symm h0
  have h1 : fromN (nthV L 5) 8 = n := by
    unfold nPt at hn
    rwa [if_pos hm] at hn
  have h8 : n ≤ 8 := by rw [← h1]; exact fromN_le _ _
  have fin : ∀ p B, ofNest1 x L len c g n p B = g (.ret (.agg ⟨(ofK L 1 n).cells p⟩)) B := by
    intro p B
    unfold ofNest1
    rw [asks_true hm, cond_true, srcN_true hs, asks_true h1, cond_true, srcN_true hs]
  refine Eq.trans ?_ (fin _ _)
  clear fin h1 hn
  match n, h8, h0 with
  | 0, _, h0 => exact absurd rfl h0
  | 1, _, _ => exact of1_1 x L len c wr pl g
  | 2, _, _ => exact of1_2 x L len c wr pl g
  | 3, _, _ => exact of1_3 x L len c wr pl g
  | 4, _, _ => exact of1_4 x L len c wr pl g
  | 5, _, _ => exact of1_5 x L len c wr pl g
  | 6, _, _ => exact of1_6 x L len c wr pl g
  | 7, _, _ => exact of1_7 x L len c wr pl g
  | 8, _, _ => exact of1_8 x L len c wr pl g
  | n + 9, h8, _ => omega

theorem asks_false {p : Prop} (h : ¬ p) : asks p = false := by
  cases hc : asks p with
  | false => rfl
  | true => exact absurd (asks_iff.1 hc) h
theorem asks_cond {p : Prop} {x y r : Res} (h : (bif asks p then x else y) = r) : (p ∧ x = r) ∨ (¬ p ∧ y = r) := by
  by_cases hp : p
  · rw [asks_true hp] at h; exact .inl ⟨hp, h⟩
  · rw [asks_false hp] at h; exact .inr ⟨hp, h⟩
/-- The numbers of a list that came in. -/
noncomputable def listC (H : AH) (p : Option Addr) (len c : Nat) : Option (List Value) :=
  match p with
  | none => bif Nat.beq len 0 && Nat.beq c 0 then some [] else none
  | some ⟨i, o, none⟩ => (match H.get i with
    | some ⟨L, t, _, true, _, none⟩ => bif Nat.beq t 2 && (Nat.beq o 0 && srcOK L len c) then some L else none
    | _ => none)
  | some ⟨i, o, some 0⟩ => (match H.get i with
    | some ⟨[], _, _, false, _, none⟩ => bif Nat.beq o 0 && (Nat.beq len 0 && Nat.beq c 0) then some [] else none
    | _ => none)
  | _ => none
theorem cond_someO {α : Type} {c : Bool} {x y : α} (h : (bif c then some x else none) = some y) : c = true ∧ x = y := by
  cases c with
  | false => cases h
  | true => injection h with h; exact ⟨rfl, h⟩
theorem listC_cases {H : AH} {p : Option Addr} {len c : Nat} {L : List Value} (h : listC H p len c = some L) :
    (p = none ∧ L = [] ∧ len = 0 ∧ c = 0) ∨ (∃ i wr pl, p = some ⟨i, 0, none⟩ ∧ H.get i = some (nuB L wr pl) ∧ srcOK L len c = true) ∨ (∃ i t wr pl, p = some ⟨i, 0, some 0⟩ ∧ H.get i = some (deB t wr pl) ∧ L = [] ∧ len = 0 ∧ c = 0) := by
  unfold listC at h
  split at h
  · obtain ⟨h1, h2⟩ := cond_someO h
    simp only [Bool.and_eq_true, Nat.beq_eq] at h1
    exact .inl ⟨rfl, h2.symm, h1⟩
  · rename_i i o
    split at h
    · rename_i _ _ _ _ hi
      obtain ⟨h1, rfl⟩ := cond_someO h
      simp only [Bool.and_eq_true, Nat.beq_eq] at h1
      obtain ⟨rfl, rfl, h1⟩ := h1
      exact .inr (.inl ⟨i, _, _, rfl, hi, h1⟩)
    · cases h
  · rename_i i o
    split at h
    · rename_i _ _ _ hi
      obtain ⟨h1, rfl⟩ := cond_someO h
      simp only [Bool.and_eq_true, Nat.beq_eq] at h1
      obtain ⟨rfl, h1⟩ := h1
      exact .inr (.inr ⟨i, _, _, _, rfl, hi, rfl, h1⟩)
    · cases h
  · cases h
noncomputable def callOfS : List Value → AH → (Out → AH → Res) → Res := fun args H k =>
  match args with
  | [.int .i64 x, .slice p len c] => (match listC H p len c with
    | some L => 
        (bif asks (nPt x L = 0) then k (.ret (.agg ⟨(ofK L (modN x 9 + 1) 0).cells (slN 0 0)⟩)) H
         else k (.ret (.agg ⟨(ofK L 1 (nPt x L)).cells (slI H.size (nPt x L) (nPt x L))⟩)) (H.push (ptB (nPts L (nPt x L) 6) true true)))
    | none => none)
  | _ => none
theorem vV_cells (V : Nat → View) (c : Cl) (p : Value) : vV V (.agg ⟨c.cells p⟩) = .agg ⟨c.cells (vS V p)⟩ := by
  show Value.agg ((⟨c.cells p⟩ : Array Value).map (vS V)) = _
  rw [List.map_toArray]
  rfl
theorem okV_cells (V : Nat → View) (n : Nat) (c : Cl) (p : Value) (h : okS V n p = true) : okV V n (.agg ⟨c.cells p⟩) = true := (all_cells (okS V n) (fun _ => rfl) (fun _ => rfl) c p).trans h
theorem i64_sc {L : List Value} (h : L.all isI64 = true) : L.all (scS 0) = true := by
  rw [ints_eq h]
  simp [scS]
theorem nuB_fine {n : Nat} {L : List Value} (h : L.all (scS 0) = true) (wr pl : Bool) : Fine n (nuB L wr pl) := ⟨List.all_eq_true.2 fun v hv => scS_mono (Nat.zero_le _) v (List.all_eq_true.1 h v hv), fun _ => h, rfl⟩
theorem rB_nuB {r : Nat → Nat} {L : List Value} (h : L.all (scS 0) = true) (wr pl : Bool) : rB r (nuB L wr pl) = nuB L wr pl := by
  have key : L.map (rS r) = L := (List.map_congr_left (g := id) fun v hv => rS_sc0 (List.all_eq_true.1 h v hv)).trans (List.map_id _)
  unfold rB nuB
  rw [key]; rfl
theorem of_fun0 {L : List Value} {len c : Nat} (hs : srcOK L len c = true) (x : Int) (wr pl : Bool) (h0 : nPt x L = 0) :
    Fun Try.prog 1 23 [.int .i64 x, .slice (some ⟨0,0,none⟩) len c] (AH.of [nuB L wr pl]) fun o H' => o = .ret (.agg ⟨(ofK L (modN x 9 + 1) 0).cells (slN 0 0)⟩) ∧ H' = AH.of [nuB L wr pl] := by
  have hL : L.all (scS 0) = true := by
    unfold srcOK at hs
    simp only [Bool.and_eq_true] at hs
    exact i64_sc hs.2.2
  refine fun_of_pick try_num try_mix (tC_ok (modN x 9) 0) (loops := 100) (n := 30) [0] [nuB L wr pl] (.ret (.agg ⟨(ofK L (modN x 9 + 1) 0).cells (slN 0 0)⟩)) (low_of _ rfl) (fun g => ?_) rfl ?_ (Nat.le_refl 1) ?_ ?_ ?_ ?_
  · refine (of_row0 hs x wr pl h0 g).trans ?_
    simp only [vO, vV_cells, List.map_cons, List.map_nil, vB_const (src := [0]) (b := nuB L wr pl) hL rfl]
    rfl
  · intro i j hi hj _
    simp only [List.length_singleton] at hi hj
    omega
  · intro i hi
    have : i = 0 := by omega
    subst this; rfl
  · exact okV_cells _ _ _ _ rfl
  · intro b hb
    rw [List.mem_singleton] at hb
    subst hb
    exact ⟨all_sc0_ok hL, fun _ => hL, rfl, rfl, fun _ => hL⟩
  · intro i b hi _
    match i, hi with
    | 0, _ => omega
    | i + 1, hi => simp at hi

theorem flat_sc0 : ∀ xs : List (Int × Int), (flat xs).all (scS 0) = true
  | [] => rfl
  | p :: r => by rw [flat, List.all_cons, List.all_cons, flat_sc0 r]; rfl
theorem of_funN {L : List Value} {len c : Nat} (hs : srcOK L len c = true) (x : Int) (wr pl : Bool) {n : Nat} (hn : nPt x L = n) (h0 : n ≠ 0) :
    Fun Try.prog 1 23 [.int .i64 x, .slice (some ⟨0,0,none⟩) len c] (AH.of [nuB L wr pl]) fun o H' => o = .ret (.agg ⟨(ofK L 1 n).cells (slI 1 n n)⟩) ∧ H' = AH.of [nuB L wr pl, ptB (nPts L n 6) true true] := by
  have hL : L.all (scS 0) = true := by
    unfold srcOK at hs
    simp only [Bool.and_eq_true] at hs
    exact i64_sc hs.2.2
  refine fun_of_pick try_num try_mix (tC_ok 0 n) (loops := 100) (n := 30) [0, 5 + 3 * n] [nuB L wr pl, ptB (nPts L n 6) true true] (.ret (.agg ⟨(ofK L 1 n).cells (slI 1 n n)⟩)) (low_of _ rfl) (fun g => ?_) rfl ?_ (by simp) ?_ ?_ ?_ ?_
  · refine (of_rowN hs x wr pl hn h0 g).trans ?_
    have e : vS (pV [0, 5 + 3 * n]) (slI 1 n n) = slI (5 + 3 * n) n n := by
      simp [vS, pV]
    simp only [vO, vV_cells, List.map_cons, List.map_nil, vB_const (src := [0, 5 + 3 * n]) (b := nuB L wr pl) hL rfl, vB_const (src := [0, 5 + 3 * n]) (b := ptB (nPts L n 6) true true) (flat_sc0 _) rfl, e]
  · intro i j hi hj he
    match i, j, hi, hj, he with
    | 0, 0, _, _, _ => rfl
    | 1, 1, _, _, _ => rfl
    | 0, 1, _, _, he => simp at he; omega
    | 1, 0, _, _, he => simp at he
  · intro i hi
    have : i = 0 := by omega
    subst this; rfl
  · exact okV_cells _ _ _ _ (by simp [okS, pV])
  · intro b hb
    simp only [List.mem_cons, List.not_mem_nil, or_false] at hb
    rcases hb with rfl | rfl
    · exact ⟨all_sc0_ok hL, fun _ => hL, rfl, rfl, fun _ => hL⟩
    · exact ⟨all_sc0_ok (flat_sc0 _), fun _ => flat_sc0 _, rfl, rfl, fun _ => flat_sc0 _⟩
  · intro i b hi hw
    match i, hi with
    | 0, _ => omega
    | 1, hi =>
      have : ptB (nPts L n 6) true true = b := by simpa using hi
      subst this
      cases hw
    | i + 2, hi => simp at hi
theorem callOfS_ok : CallOK Try.prog (fun g args H k => if g = 23 then callOfS args H k else none) := by
  refine callOK_of_fun fun args H k r hr => ?_
  unfold callOfS at hr
  split at hr
  · rename_i x p len c
    split at hr
    · rename_i L hp
      have hr2 := hr
      clear hr
      rcases listC_cases hp with ⟨rfl, rfl, rfl, rfl⟩ | ⟨i, wr, pl, rfl, hi, hs⟩ | ⟨i, t2, wr, pl, rfl, hi, rfl, rfl, rfl⟩
      · have h0 : nPt x [] = 0 := by
          unfold nPt
          split
          · decide
          · rfl
        rcases asks_cond hr2 with ⟨_, hr3⟩ | ⟨hn, _⟩
        · have h1 : Fun Try.prog 0 23 [.int .i64 x, .slice none 0 0] (AH.of []) fun o H' => o = .ret (.agg ⟨(ofK [] (modN x 9 + 1) 0).cells (slN 0 0)⟩) ∧ H' = AH.of [] := by
            refine fun_of_pick try_num try_mix (tC_ok (modN x 9) 0) (loops := 100) (n := 30) [] [] (.ret (.agg ⟨(ofK [] (modN x 9 + 1) 0).cells (slN 0 0)⟩)) (low_of _ rfl) (fun g => ?_) rfl (by simp) (by simp) (by simp) ?_ (by simp) (by simp)
            · refine (of_nil x g).trans ?_
              simp only [vO, vV_cells, List.map_nil]
              rfl
            · exact okV_cells _ _ _ _ rfl
          have h2 := fun_keep (H := H) (idx := []) (B := []) h1 rfl (by simp) (by simp) (by simp) (by
            intro v hv
            simp only [List.mem_cons, List.not_mem_nil, or_false] at hv
            rcases hv with rfl | rfl <;> rfl)
          refine ⟨_, h2, fun o' H' ⟨h1, h2⟩ => ?_⟩
          rw [h1, h2]
          simp only [rO, rV_cells]
          exact hr3
        · exact absurd h0 hn
      · have hL : L.all (scS 0) = true := by
          unfold srcOK at hs
          simp only [Bool.and_eq_true] at hs
          exact i64_sc hs.2.2
        rcases asks_cond hr2 with ⟨h0, hr3⟩ | ⟨h0, hr3⟩
        · have h2 := fun_keep (H := H) (idx := [i]) (B := [nuB L wr pl]) (of_fun0 hs x wr pl h0) rfl ?_ ?_ ?_ ?_
          · refine ⟨_, h2, fun o' H' ⟨h1, h2⟩ => ?_⟩
            rw [h1, h2]
            simp only [rO, rV_cells]
            exact hr3
          · intro a b ha hb _
            simp only [List.length_singleton] at ha hb
            omega
          · intro z y hz
            match z, hz with
            | 0, hz =>
              have : nuB L wr pl = y := by simpa using hz
              rw [← this, rB_nuB hL]
              exact hi
          · intro b hb
            rw [List.mem_singleton] at hb
            subst hb
            exact nuB_fine hL _ _
          · intro v hv
            simp only [List.mem_cons, List.not_mem_nil, or_false] at hv
            rcases hv with rfl | rfl <;> rfl
        · have h2 := fun_placed (H := H) (idx := [i]) (B := [nuB L wr pl]) (of_funN hs x wr pl rfl h0) (by simp) rfl ?_ ?_ ?_ ?_
          · have h3 := h2.same (H2 := H.push (ptB (nPts L (nPt x L) 6) true true)) ?_
            · refine ⟨_, h3, fun o' H' ⟨h1, h2⟩ => ?_⟩
              rw [h1, h2]
              simp only [rO, rV_cells]
              exact hr3
            · have e : placed H (rI [i]) [nuB L wr pl].length [nuB L wr pl, ptB (nPts L (nPt x L) 6) true true] = (H.set i (nuB L wr pl)).push (ptB (nPts L (nPt x L) 6) true true) := by
                show (H.set i (rB _ (nuB L wr pl))).push (rB _ (ptB (nPts L (nPt x L) 6) true true)) = _
                rw [rB_nuB hL, rB_ptB]
              rw [e]
              refine ⟨rfl, fun z => ?_⟩
              rw [AH.get_push, AH.get_push, AH.get_set, AH.size_set]
              by_cases hz : z = H.size
              · rw [if_pos hz, if_pos hz]
              · rw [if_neg hz, if_neg hz]
                by_cases hz2 : i = z ∧ i < H.size
                · rw [if_pos hz2, ← hz2.1]
                  exact hi
                · rw [if_neg hz2]
          · intro a b ha hb _
            simp only [List.length_singleton] at ha hb
            omega
          · intro z y hz
            match z, hz with
            | 0, hz =>
              have : nuB L wr pl = y := by simpa using hz
              rw [← this, rB_nuB hL]
              exact hi
          · intro b hb
            rw [List.mem_singleton] at hb
            subst hb
            exact nuB_fine hL _ _
          · intro v hv
            simp only [List.mem_cons, List.not_mem_nil, or_false] at hv
            rcases hv with rfl | rfl <;> rfl
      · have h0 : nPt x [] = 0 := by
          unfold nPt
          split
          · decide
          · rfl
        rcases asks_cond hr2 with ⟨_, hr3⟩ | ⟨hn, _⟩
        · have h1 : Fun Try.prog 1 23 [.int .i64 x, .slice (some ⟨0, 0, some 0⟩) 0 0] (AH.of [deB t2 wr pl]) fun o H' => o = .ret (.agg ⟨(ofK [] (modN x 9 + 1) 0).cells (slN 0 0)⟩) ∧ H' = AH.of [deB t2 wr pl] := by
            refine fun_of_see try_num try_mix (tC_ok (modN x 9) 0) (loops := 100) (n := 30) [deB t2 wr pl] (low_of _ rfl) (fun g => ?_) (Nat.le_refl 1) ?_ ?_
            · exact of_dead x t2 wr pl g
            · exact sc_cells _ _ _ rfl
            · rfl
          have h2 := fun_keep (H := H) (idx := [i]) (B := [deB t2 wr pl]) h1 rfl ?_ ?_ ?_ ?_
          · refine ⟨_, h2, fun o' H' ⟨h1, h2⟩ => ?_⟩
            rw [h1, h2]
            simp only [rO, rV_cells]
            exact hr3
          · intro a b ha hb _
            simp only [List.length_singleton] at ha hb
            omega
          · intro z y hz
            match z, hz with
            | 0, hz =>
              have : deB t2 wr pl = y := by simpa using hz
              rw [← this]
              exact hi
          · intro b hb
            rw [List.mem_singleton] at hb
            subst hb
            exact ⟨rfl, fun _ => rfl, rfl⟩
          · intro v hv
            simp only [List.mem_cons, List.not_mem_nil, or_false] at hv
            rcases hv with rfl | rfl <;> rfl
        · exact absurd h0 hn
    · cases hr
  · cases hr
end Go.RX
