/- Calls told by some of the blocks behind them. -/
import Derived.Test.YtnidbincddpaaaaE18
namespace Go.RX
open Go Go.RowKit

/-- The blocks of some numbers. -/
noncomputable def pick (H : AH) : List Nat → List (Option Blk) := List.rec (motive := fun _ => List (Option Blk)) [] (fun i _ ih => H.get i :: ih)
theorem pick_get {H : AH} : ∀ {src : List Nat} {B : List (Option Blk)}, pick H src = B → ∀ (i s : Nat), src[i]? = some s → B[i]? = some (H.get s)
  | [], B, h, i, s, hs => by simp at hs
  | a :: src, B, h, 0, s, hs => by
    have h' : H.get a :: pick H src = B := h
    subst h'
    have : a = s := by simpa using hs
    subst this; rfl
  | a :: src, B, h, i + 1, s, hs => by
    have h' : H.get a :: pick H src = B := h
    subst h'
    have := pick_get (H := H) (src := src) rfl i s (by simpa using hs)
    simpa using this
/-- Blocks told by the numbers of others. -/
def pV (src : List Nat) : Nat → View := fun i => ⟨src.getD i 0, 0, none⟩
def vB (src : List Nat) (b : Blk) : Blk := ⟨b.cells.map (vS (pV src)), b.ty, b.wr, b.live, b.pl, none⟩

theorem vS_sc0 {V : Nat → View} {v : Value} (h : scS 0 v = true) : vS V v = v := by
  cases v with
  | pointer a => cases a with
    | none => rfl
    | some a => simp [scS] at h
  | slice a l c => cases a with
    | none => rfl
    | some a => simp [scS] at h
  | map r => cases r with
    | none => rfl
    | some r => simp [scS] at h
  | _ => rfl
theorem vB_const {src : List Nat} {b : Blk} (h : b.cells.all (scS 0) = true) (hm : b.mp = none) : vB src b = b := by
  have e : b.cells.map (vS (pV src)) = b.cells := (List.map_congr_left (g := id) fun v hv => vS_sc0 (List.all_eq_true.1 h v hv)).trans (List.map_id _)
  unfold vB
  rw [e, ← hm]
section
variable {P : Program} {m : Nat} {f : FuncId} {args : List Value} {H : AH}
variable (hnum : ∀ (f : FuncId) (fn : Func), P.funcs[f]? = some fn → (fn.name == "runtime.NumGoroutine") = false) (hmix : P.follows .mixedOrders = true)

/-- A block of the new memory: it may be told. -/
def Told (src : List Nat) (n : Nat) (b : Blk) : Prop := b.cells.all (okS (pV src) n) = true ∧ (b.pl = true → b.cells.all (scS 0) = true) ∧ b.mp = none ∧ b.live = true ∧ (b.wr = false → b.cells.all (scS 0) = true)

theorem Fun.fitsV {o1 o2 : Out} {Q1 : AH → Prop} {H2 : AH} (h : Fun P m f args H (fun o H' => o = o1 ∧ Q1 H'))
    (hf : ∀ H1, Q1 H1 → Low m H1 → KeepM m H1 H2 ∧ ∀ (W0 : World) (S : Nat → Prop) (σ : Nat → Loc) (w : World), Rel P W0 S σ H1 w → osc H1.size o1 → ∃ σ', Ext m σ σ' ∧ Rel P W0 S σ' H2 w ∧ osc H2.size o2 ∧ ending σ o1 = ending σ' o2) :
    Fun P m f args H (fun o H' => o = o2 ∧ H' = H2) := by
  intro W0 S R σ w hR hargs hkk
  refine h W0 S R σ w hR hargs (fun o H' hQ hos σ' w' he hke hr => ?_)
  obtain ⟨rfl, hQ⟩ := hQ
  obtain ⟨hk, hf⟩ := hf H' hQ hke.low
  obtain ⟨σ2, e2, r2, s2, q2⟩ := hf W0 S σ' w' hr hos
  rw [q2]
  exact hkk o2 H2 ⟨rfl, rfl⟩ s2 σ2 w' (he.trans e2 (Nat.le_refl _)) (hke.trans hk) r2

def vO (src : List Nat) : Out → Out
  | .ret v => .ret (vV (pV src) v)
  | .pan v => .pan (vV (pV src) v)
def okO (src : List Nat) (n : Nat) : Out → Bool
  | .ret v => okV (pV src) n v
  | .pan v => okV (pV src) n v
theorem fun_of_told (src : List Nat) (B : List Blk) (o2 : Out)
    (h0 : Fun P m f args H (fun o H' => o = vO src o2 ∧ pick H' src = B.map (fun b => some (vB src b))))
    (hlen : src.length = B.length) (hnd : ∀ i j, i < src.length → j < src.length → src.getD i 0 = src.getD j 0 → i = j) (hm : m ≤ B.length) (hid : ∀ i, i < m → src.getD i 0 = i) (ho : okO src B.length o2 = true) (hB : ∀ b ∈ B, Told src B.length b) (hfz : ∀ (i : Nat) (b : Blk), B[i]? = some b → b.wr = false → i < m) :
    Fun P m f args H (fun o H' => o = o2 ∧ H' = AH.of B) := by
  refine h0.fitsV fun H1 hpick hlow => ?_
  have hget : ∀ (i : Nat) (b : Blk), B[i]? = some b → H1.get (src.getD i 0) = some (vB src b) := by
    intro i b hb
    have hi : i < src.length := by rw [hlen]; exact (List.getElem?_eq_some_iff.1 hb).1
    have hs : src[i]? = some (src.getD i 0) := by rw [List.getD_eq_getElem?_getD, List.getElem?_eq_getElem hi]; rfl
    have := pick_get hpick i _ hs
    rw [List.getElem?_map, hb] at this
    simpa using this.symm
  have hin : ∀ {i : Nat} {b : Blk}, (AH.of B).get i = some b → B[i]? = some b := fun h => by rwa [AH.get_of] at h
  refine ⟨⟨by rw [AH.size_of]; exact hm, fun i b hi hb hw => ?_, fun i b hi hw => ?_⟩, ?_⟩
  · have hiB : i < B.length := by omega
    have := hget i B[i] (List.getElem?_eq_getElem hiB)
    rw [hid i hi, hb] at this
    injection this with this
    rw [AH.get_of, List.getElem?_eq_getElem hiB, this]
    have hT := hB B[i] (List.getElem_mem hiB)
    rw [this] at hw
    exact congrArg some (vB_const (hT.2.2.2.2 hw) hT.2.2.1).symm
  · have hi' := hin hi
    have him := hfz i b hi' hw
    have := hget i b hi'
    rw [hid i him] at this
    have hT := hB b (List.mem_of_getElem? hi')
    rw [vB_const (hT.2.2.2.2 hw) hT.2.2.1] at this
    exact ⟨him, this⟩
  · intro W0 S σ w hR hos
    have hsz : (AH.of B).size = B.length := AH.size_of _
    have key : ∀ v : Value, okV (pV src) B.length v = true → scV H1.size (vV (pV src) v) = true → ∃ σ', Ext m σ σ' ∧ Rel P W0 S σ' (AH.of B) w ∧ scV B.length v = true ∧ cV σ (vV (pV src) v) = cV σ' v := by
      intro v hv hs
      have hfit : Fits P m (tmOf [(0, vV (pV src) v)]) H1 (tmOf [(0, v)]) (AH.of B) := by
        refine Fits.view P (pV src) (fun i hi => by unfold pV; rw [hid i hi]) ?_ ?_ ?_
        · intro i b hi
          have hi' := hin hi
          have hT := hB b (List.mem_of_getElem? hi')
          have hg := hget i b hi'
          rw [hsz]
          exact ⟨hT.1, hT.2.1, fun _ => hT.2.2.1, fun _ => ⟨_, hg, hT.2.2.2.1, rfl, rfl, Nat.zero_le _, by simp [vB, pV]⟩, fun es he => by rw [hT.2.2.1] at he; cases he⟩
        · intro i j bi bj hi hj _ _ _ hne he
          have h1 := (List.getElem?_eq_some_iff.1 (hin hi)).1
          have h2 := (List.getElem?_eq_some_iff.1 (hin hj)).1
          exact hne (hnd i j (by omega) (by omega) he)
        · intro t v' htv
          have e1 : (tmOf [(0, v)]) = (Tr.e : Tm).set 0 v := rfl
          have e2 : (tmOf [(0, vV (pV src) v)]) = (Tr.e : Tm).set 0 (vV (pV src) v) := rfl
          rw [e1, Tr.get_set] at htv
          split at htv
          · rename_i e
            injection htv with htv
            subst htv; subst e
            rw [hsz, e2, Tr.get_set, if_pos rfl]
            exact ⟨hv, rfl⟩
          · rw [Tr.get_e] at htv; cases htv
      have hts : TmSc (tmOf [(0, vV (pV src) v)]) H1.size := by
        intro t u hu
        obtain ⟨p, hp, rfl⟩ := tmOf_mem hu
        rw [List.mem_singleton] at hp
        subst hp
        exact hs
      obtain ⟨σ', h1, h2, h3⟩ := hfit W0 S σ w hR hts
      obtain ⟨h4, u, h5, h6⟩ := h3 0 v (by rw [show (tmOf [(0, v)]) = (Tr.e : Tm).set 0 v from rfl, Tr.get_set, if_pos rfl])
      rw [show (tmOf [(0, vV (pV src) v)]) = (Tr.e : Tm).set 0 (vV (pV src) v) from rfl, Tr.get_set, if_pos rfl] at h5
      injection h5 with h5
      rw [hsz] at h4
      exact ⟨σ', h1, h2, h4, by rw [h5]; exact h6⟩
    rw [hsz]
    cases o2 with
    | ret v =>
      obtain ⟨σ', h1, h2, h3, h4⟩ := key v ho hos
      exact ⟨σ', h1, h2, h3, by simp only [vO, ending]; rw [h4]⟩
    | pan v =>
      obtain ⟨σ', h1, h2, h3, h4⟩ := key v ho hos
      exact ⟨σ', h1, h2, h3, by simp only [vO, ending]; rw [h4]⟩
include hnum hmix in
/-- What a run tells of its blocks, however it picks them. -/
theorem fun_of_pickE {tbl : Tbl} (ht : TblOK P tbl) {loops : LH} [LHGood P loops] {n : Nat} (pk : Out → AH → List (Option Blk)) (src : List Nat) (B : List Blk) (o2 : Out) (hl : Low m H) (hpk : ∀ H', pk (vO src o2) H' = pick H' src)
    (h : ∀ g : Out → List (Option Blk) → Res, run P tbl loops n f args H (fun o H' => g o (pk o H')) = g (vO src o2) (B.map (fun b => some (vB src b))))
    (hlen : src.length = B.length) (hnd : ∀ i j, i < src.length → j < src.length → src.getD i 0 = src.getD j 0 → i = j) (hm : m ≤ B.length) (hid : ∀ i, i < m → src.getD i 0 = i) (ho : okO src B.length o2 = true) (hB : ∀ b ∈ B, Told src B.length b) (hfz : ∀ (i : Nat) (b : Blk), B[i]? = some b → b.wr = false → i < m) :
    Fun P m f args H (fun o H' => o = o2 ∧ H' = AH.of B) := by
  refine fun_of_told src B o2 ?_ hlen hnd hm hid ho hB hfz
  classical
  intro W0 S R σ w hR hargs hk
  have h1 := h (fun o l => if o = vO src o2 ∧ l = B.map (fun b => some (vB src b)) then some (.ret undef, .nil) else none)
  rw [if_pos ⟨rfl, rfl⟩] at h1
  refine run_ok hnum hmix ht loops n f args H _ _ h1 W0 S R σ w hR hargs ?_
  intro o H' hk' σ' w' he hke hr hos
  by_cases hq : o = vO src o2 ∧ pk o H' = B.map (fun b => some (vB src b))
  · refine hk o H' ⟨hq.1, ?_⟩ hos σ' w' (he.mono hl.len) (hke.low hl) hr
    rw [← hpk, ← hq.1]
    exact hq.2
  · rw [if_neg hq] at hk'; cases hk'
include hnum hmix in
theorem fun_of_pick {tbl : Tbl} (ht : TblOK P tbl) {loops : LH} [LHGood P loops] {n : Nat} (src : List Nat) (B : List Blk) (o2 : Out) (hl : Low m H)
    (h : ∀ g : Out → List (Option Blk) → Res, run P tbl loops n f args H (fun o H' => g o (pick H' src)) = g (vO src o2) (B.map (fun b => some (vB src b))))
    (hlen : src.length = B.length) (hnd : ∀ i j, i < src.length → j < src.length → src.getD i 0 = src.getD j 0 → i = j) (hm : m ≤ B.length) (hid : ∀ i, i < m → src.getD i 0 = i) (ho : okO src B.length o2 = true) (hB : ∀ b ∈ B, Told src B.length b) (hfz : ∀ (i : Nat) (b : Blk), B[i]? = some b → b.wr = false → i < m) :
    Fun P m f args H (fun o H' => o = o2 ∧ H' = AH.of B) :=
  fun_of_pickE hnum hmix ht (fun _ H' => pick H' src) src B o2 hl (fun _ => rfl) h hlen hnd hm hid ho hB hfz
end
end Go.RX
