/- What was shown of a call in a small memory holds in any memory that holds it. -/
import Derived.Test.YtnidbincddpaaaaE14
namespace Go.RX
open Go Go.RowKit

def rA (r : Nat → Nat) (a : Addr) : Addr := ⟨r a.block, a.off, a.spot⟩
def r0 (r : Nat → Nat) : Value → Value
  | .pointer (some a) => .pointer (some (rA r a))
  | .slice (some a) n c => .slice (some (rA r a)) n c
  | .map (some g) => .map (some (r g))
  | v => v
def r1 (r : Nat → Nat) : Value → Value := cUp (r0 r)
def r2 (r : Nat → Nat) : Value → Value := cUp (r1 r)
def rS (r : Nat → Nat) : Value → Value
  | .pointer (some a) => .pointer (some (rA r a))
  | .slice (some a) n c => .slice (some (rA r a)) n c
  | .map (some g) => .map (some (r g))
  | .iface t v => .iface t (r2 r v)
  | .func f a b => .func f (a.map (r2 r)) (b.map (r2 r))
  | v => v
def rT (r : Nat → Nat) : Value → Value
  | .agg cs => .agg (cs.map (rS r))
  | v => rS r v
def rV (r : Nat → Nat) : Value → Value
  | .tuple vs => .tuple (vs.map (rT r))
  | v => rT r v
def rP (r : Nat → Nat) (p : Value × Value) : Value × Value := (rS r p.1, rT r p.2)
def rB (r : Nat → Nat) (b : Blk) : Blk := ⟨b.cells.map (rS r), b.ty, b.wr, b.live, b.pl, b.mp.map (·.map (rP r))⟩
def rO (r : Nat → Nat) : Out → Out
  | .ret v => .ret (rV r v)
  | .pan v => .pan (rV r v)

theorem cL_ren (σ : Nat → Loc) (r : Nat → Nat) (a : Addr) (n c : Nat) : cL σ (rA r a) n c = cL (fun i => σ (r i)) a n c := rfl
theorem c0_ren (σ : Nat → Loc) (r : Nat → Nat) (v : Value) : c0 σ (r0 r v) = c0 (fun i => σ (r i)) v := by
  cases v with
  | pointer a => cases a <;> rfl
  | slice a n c => cases a <;> rfl
  | map g => cases g <;> rfl
  | _ => rfl
theorem up_ren {c c' r : Value → Value} (h : ∀ v, c (r v) = c' v) (v : Value) (hr : ∀ v, cUp c (r v) = c (r v) ∨ (∃ cs, v = .agg cs) ∨ (∃ t u, v = .iface t u) ∨ (∃ f a b, v = .func f a b)) : cUp c (cUp r v) = cUp c' v := by
  have key : ∀ u, (¬ (∃ cs, u = .agg cs) ∧ ¬ (∃ t w, u = .iface t w) ∧ ¬ (∃ f a b, u = .func f a b)) → cUp c (r u) = c' u := by
    intro u hu
    rcases hr u with h1 | h1 | h1 | h1
    · rw [h1, h]
    · exact (hu.1 h1).elim
    · exact (hu.2.1 h1).elim
    · exact (hu.2.2 h1).elim
  cases v with
  | agg cs => simp only [cUp, Array.map_map]; congr 1; exact amap_congr cs fun v _ => h v
  | iface t v => simp only [cUp]; rw [h]
  | func f a b => simp only [cUp, Array.map_map]; congr 1 <;> exact amap_congr _ fun v _ => h v
  | _ => exact key _ (by simp)
theorem c1_ren (σ : Nat → Loc) (r : Nat → Nat) (v : Value) : c1 σ (r1 r v) = c1 (fun i => σ (r i)) v := by
  refine up_ren (c0_ren σ r) v (fun u => ?_)
  cases u with
  | pointer a => cases a <;> exact .inl rfl
  | slice a n c => cases a <;> exact .inl rfl
  | map g => cases g <;> exact .inl rfl
  | agg cs => exact .inr (.inl ⟨_, rfl⟩)
  | iface t v => exact .inr (.inr (.inl ⟨_, _, rfl⟩))
  | func f a b => exact .inr (.inr (.inr ⟨_, _, _, rfl⟩))
  | _ => exact .inl rfl
theorem c2_ren (σ : Nat → Loc) (r : Nat → Nat) (v : Value) : c2 σ (r2 r v) = c2 (fun i => σ (r i)) v := by
  refine up_ren (c1_ren σ r) v (fun u => ?_)
  cases u with
  | pointer a => cases a <;> exact .inl rfl
  | slice a n c => cases a <;> exact .inl rfl
  | map g => cases g <;> exact .inl rfl
  | agg cs => exact .inr (.inl ⟨_, rfl⟩)
  | iface t v => exact .inr (.inr (.inl ⟨_, _, rfl⟩))
  | func f a b => exact .inr (.inr (.inr ⟨_, _, _, rfl⟩))
  | _ => exact .inl rfl
theorem cS_ren (σ : Nat → Loc) (r : Nat → Nat) (v : Value) : cS σ (rS r v) = cS (fun i => σ (r i)) v := by
  cases v with
  | pointer a => cases a <;> rfl
  | slice a n c => cases a <;> rfl
  | map g => cases g <;> rfl
  | iface t v => simp only [rS, cS, c2_ren]
  | func f a b => simp only [rS, cS, Array.map_map]; congr 1 <;> exact amap_congr _ fun v _ => c2_ren σ r v
  | _ => rfl
theorem cT_ren (σ : Nat → Loc) (r : Nat → Nat) (v : Value) : cT σ (rT r v) = cT (fun i => σ (r i)) v := by
  cases v with
  | agg cs => simp only [rT, cT, Array.map_map]; congr 1; exact amap_congr _ fun v _ => cS_ren σ r v
  | pointer a => cases a <;> rfl
  | slice a n c => cases a with
    | none => rfl
    | some a => exact cS_ren σ r (.slice (some a) n c)
  | map g => cases g <;> rfl
  | iface t v => exact cS_ren σ r (.iface t v)
  | func f a b => exact cS_ren σ r (.func f a b)
  | _ => rfl
theorem cV_ren (σ : Nat → Loc) (r : Nat → Nat) (v : Value) : cV σ (rV r v) = cV (fun i => σ (r i)) v := by
  cases v with
  | tuple vs => simp only [rV, cV, Array.map_map]; congr 1; exact amap_congr _ fun v _ => cT_ren σ r v
  | agg cs => exact cT_ren σ r (.agg cs)
  | pointer a => cases a <;> rfl
  | slice a n c => cases a with
    | none => rfl
    | some a => exact cT_ren σ r (.slice (some a) n c)
  | map g => cases g <;> rfl
  | iface t v => exact cT_ren σ r (.iface t v)
  | func f a b => exact cT_ren σ r (.func f a b)
  | _ => rfl
theorem mapC_ren (σ : Nat → Loc) (r : Nat → Nat) (es : List (Value × Value)) : (es.map (rP r)).map (mapC σ) = es.map (mapC fun i => σ (r i)) := by
  rw [List.map_map]
  exact List.map_congr_left fun p _ => by simp only [Function.comp, mapC, rP, cS_ren, cT_ren]

theorem s0_ren {m n : Nat} {r : Nat → Nat} (h : ∀ i, i < m → r i < n) (v : Value) (hv : s0 m v = true) : s0 n (r0 r v) = true := by
  cases v with
  | pointer a => cases a with
    | none => rfl
    | some a => exact ble_lt'.2 (h _ (ble_lt'.1 hv))
  | slice a l c => cases a with
    | none => rfl
    | some a => exact ble_lt'.2 (h _ (ble_lt'.1 hv))
  | map g => cases g with
    | none => rfl
    | some g => exact ble_lt'.2 (h _ (ble_lt'.1 hv))
  | _ => exact hv
theorem sUp_ren {s s' : Value → Bool} {r : Value → Value} (h : ∀ v, s v = true → s' (r v) = true) (hc : ∀ v, ¬ (∃ cs, v = .agg cs) → ¬ (∃ t u, v = .iface t u) → ¬ (∃ f a b, v = .func f a b) → sUp s' (r v) = s' (r v)) (v : Value) (hv : sUp s v = true) : sUp s' (cUp r v) = true := by
  cases v with
  | agg cs =>
    simp only [cUp, sUp, Array.toList_map, List.all_map]
    exact List.all_eq_true.2 fun v hx => h v (List.all_eq_true.1 hv v hx)
  | iface t v => exact h v hv
  | func f a b =>
    simp only [sUp, Bool.and_eq_true] at hv
    simp only [cUp, sUp, Array.toList_map, List.all_map, Bool.and_eq_true]
    exact ⟨List.all_eq_true.2 fun v hx => h v (List.all_eq_true.1 hv.1 v hx), List.all_eq_true.2 fun v hx => h v (List.all_eq_true.1 hv.2 v hx)⟩
  | _ =>
    simp only [cUp]
    rw [hc _ (by simp) (by simp) (by simp)]
    exact h _ hv
theorem s1_ren {m n : Nat} {r : Nat → Nat} (h : ∀ i, i < m → r i < n) (v : Value) (hv : s1 m v = true) : s1 n (r1 r v) = true := by
  refine sUp_ren (s0_ren h) (fun u h1 h2 h3 => ?_) v hv
  cases u with
  | pointer a => cases a <;> rfl
  | slice a l c => cases a <;> rfl
  | map g => cases g <;> rfl
  | agg cs => exact (h1 ⟨_, rfl⟩).elim
  | iface t v => exact (h2 ⟨_, _, rfl⟩).elim
  | func f a b => exact (h3 ⟨_, _, _, rfl⟩).elim
  | _ => rfl
theorem s2_ren {m n : Nat} {r : Nat → Nat} (h : ∀ i, i < m → r i < n) (v : Value) (hv : s2 m v = true) : s2 n (r2 r v) = true := by
  refine sUp_ren (s1_ren h) (fun u h1 h2 h3 => ?_) v hv
  cases u with
  | pointer a => cases a <;> rfl
  | slice a l c => cases a <;> rfl
  | map g => cases g <;> rfl
  | agg cs => exact (h1 ⟨_, rfl⟩).elim
  | iface t v => exact (h2 ⟨_, _, rfl⟩).elim
  | func f a b => exact (h3 ⟨_, _, _, rfl⟩).elim
  | _ => rfl
theorem scS_ren {m n : Nat} {r : Nat → Nat} (h : ∀ i, i < m → r i < n) {v : Value} (hv : scS m v = true) : scS n (rS r v) = true := by
  cases v with
  | pointer a => cases a with
    | none => rfl
    | some a => exact ble_lt'.2 (h _ (ble_lt'.1 hv))
  | slice a l c => cases a with
    | none => rfl
    | some a => exact ble_lt'.2 (h _ (ble_lt'.1 hv))
  | map g => cases g with
    | none => rfl
    | some g => exact ble_lt'.2 (h _ (ble_lt'.1 hv))
  | iface t v => exact s2_ren h v hv
  | func f a b =>
    simp only [scS, Bool.and_eq_true] at hv
    simp only [rS, scS, Array.toList_map, List.all_map, Bool.and_eq_true]
    exact ⟨List.all_eq_true.2 fun v hx => s2_ren h v (List.all_eq_true.1 hv.1 v hx), List.all_eq_true.2 fun v hx => s2_ren h v (List.all_eq_true.1 hv.2 v hx)⟩
  | _ => exact hv
theorem scT_ren {m n : Nat} {r : Nat → Nat} (h : ∀ i, i < m → r i < n) {v : Value} (hv : scT m v = true) : scT n (rT r v) = true := by
  cases v with
  | agg cs =>
    simp only [rT, scT, Array.toList_map, List.all_map]
    exact List.all_eq_true.2 fun v hx => scS_ren h (List.all_eq_true.1 hv v hx)
  | pointer a => cases a with
    | none => rfl
    | some a => exact scS_ren (v := .pointer (some a)) h hv
  | slice a l c => cases a with
    | none => rfl
    | some a => exact scS_ren (v := .slice (some a) l c) h hv
  | map g => cases g with
    | none => rfl
    | some g => exact scS_ren (v := .map (some g)) h hv
  | iface t v => exact scS_ren (v := .iface t v) h hv
  | func f a b => exact scS_ren (v := .func f a b) h hv
  | tuple vs => cases hv
  | _ => rfl
theorem scV_ren {m n : Nat} {r : Nat → Nat} (h : ∀ i, i < m → r i < n) {v : Value} (hv : scV m v = true) : scV n (rV r v) = true := by
  cases v with
  | tuple vs =>
    simp only [rV, scV, Array.toList_map, List.all_map]
    exact List.all_eq_true.2 fun v hx => scT_ren h (List.all_eq_true.1 hv v hx)
  | agg cs => exact scT_ren (v := .agg cs) h hv
  | pointer a => cases a with
    | none => rfl
    | some a => exact scT_ren (v := .pointer (some a)) h hv
  | slice a l c => cases a with
    | none => rfl
    | some a => exact scT_ren (v := .slice (some a) l c) h hv
  | map g => cases g with
    | none => rfl
    | some g => exact scT_ren (v := .map (some g)) h hv
  | iface t v => exact scT_ren (v := .iface t v) h hv
  | func f a b => exact scT_ren (v := .func f a b) h hv
  | _ => rfl
theorem rS_const {r : Nat → Nat} {v : Value} (h : scS 0 v = true) : scS 0 (rS r v) = true := scS_ren (m := 0) (fun i hi => by omega) h

section
variable {P : Program} {W0 w : World} {S : Nat → Prop} {σ : Nat → Loc} {H : AH}

/-- Where the blocks of ours of a small memory lie. -/
def Own0 (H0 : AH) (σ0 : Nat → Loc) (k : Nat) : Prop := ∃ i b0, H0.get i = some b0 ∧ b0.act = true ∧ b0.wr = true ∧ (σ0 i).blk = k

/-- A small memory lies in a greater one: its block i is the block r i there. -/
structure Lies (r : Nat → Nat) (H0 H : AH) : Prop where
  sc : ∀ (i : Nat) (b0 : Blk), H0.get i = some b0 → b0.cells.all (scS H0.size) = true ∧ (b0.pl = true → b0.cells.all (scS 0) = true) ∧ ∀ es, b0.mp = some es → es.all (scP H0.size) = true
  inj : ∀ i j, i < H0.size → j < H0.size → r i = r j → i = j
  at_ : ∀ (i : Nat) (b0 : Blk), H0.get i = some b0 → H.get (r i) = some (rB r b0)
  lt : ∀ i, i < H0.size → r i < H.size
  full : ∀ i, i < H0.size → ∃ b0, H0.get i = some b0

theorem rB_act {r : Nat → Nat} {b : Blk} : (rB r b).act = b.act := by simp [Blk.act, rB]

theorem Rel.sub (h : Rel P W0 S σ H w) {H0 : AH} {r : Nat → Nat} (hl : Lies r H0 H) : Rel P w (Own0 H0 fun i => σ (r i)) (fun i => σ (r i)) H0 w := by
  have hlt : ∀ {i : Nat} {b0 : Blk}, H0.get i = some b0 → i < H0.size := fun hi => AH.get_lt hi
  refine ⟨Fr.refl _ _, fun i b hi => (hl.sc i b hi).1, fun i b hi => (hl.sc i b hi).2.1, ?_, ?_, ?_, ?_, ?_, ?_, ?_⟩
  · intro i b0 hi ha
    exact h.lt (r i) _ (hl.at_ i b0 hi) (by rw [rB_act]; exact ha)
  · intro i b0 hi hv
    exact h.sp (r i) _ (hl.at_ i b0 hi) hv
  · intro i b0 hi hlv hw j v hj
    have := h.ro (r i) _ (hl.at_ i b0 hi) hlv hw j (rS r v) (by simp [rB, hj])
    rw [cS_ren] at this
    exact this
  · intro i b0 hi hlv hw
    obtain ⟨_, g2⟩ := h.wb (r i) _ (hl.at_ i b0 hi) hlv hw
    refine ⟨.inl ⟨i, b0, hi, act_live hlv, hw, rfl⟩, ?_⟩
    have e : (rB r b0).cells.map (cS σ) = b0.cells.map (cS fun i => σ (r i)) := by
      simp only [rB, List.map_map]
      exact List.map_congr_left fun v _ => cS_ren σ r v
    rw [e] at g2
    exact g2
  · intro i b0 es hi hm
    have hm' : (rB r b0).mp = some (es.map (rP r)) := by simp [rB, hm]
    obtain ⟨g1, _, g3, g4⟩ := h.mp (r i) _ _ (hl.at_ i b0 hi) hm'
    rw [mapC_ren] at g4
    exact ⟨g1, .inl ⟨i, b0, hi, act_mp hm, g1, rfl⟩, (hl.sc i b0 hi).2.2 es hm, g4⟩
  · intro i b0 hi hlv
    have := h.lm (r i) _ (hl.at_ i b0 hi) hlv
    simpa [rB] using this
  · intro i j bi bj hi hj hai haj hwi hij
    exact h.inj (r i) (r j) _ _ (hl.at_ i bi hi) (hl.at_ j bj hj) (by rw [rB_act]; exact hai) (by rw [rB_act]; exact haj) hwi (fun e => hij (hl.inj i j (hlt hi) (hlt hj) e))

/-- The numbers behind a call: the first m blocks lie where they lay, what is new lies behind all. -/
def rr (r : Nat → Nat) (m n i : Nat) : Nat := if i < m then r i else n + (i - m)
/-- The greater memory behind a call. -/
structure Merged (r : Nat → Nat) (m : Nat) (H0 H H1 H' : AH) : Prop where
  size : H'.size = H.size + (H1.size - m)
  old : ∀ i, i < m → H'.get (r i) = (H1.get i).map (rB (rr r m H.size))
  far : ∀ k, k < H.size → (∀ i, i < H0.size → r i ≠ k) → H'.get k = H.get k
  gone : ∀ i, m ≤ i → i < H0.size → H'.get (r i) = some dead
  new : ∀ i, m ≤ i → i < H1.size → H'.get (H.size + (i - m)) = (H1.get i).map (rB (rr r m H.size))

/-- A block behind a call: one that was not touched, one that was given up, or one of the small memory's. -/
theorem Merged.get {r : Nat → Nat} {m : Nat} {H0 H H1 H' : AH} (h : Merged r m H0 H H1 H') (_ : m ≤ H0.size) {k : Nat} {b : Blk} (hk : H'.get k = some b) :
    (k < H.size ∧ (∀ i, i < H0.size → r i ≠ k) ∧ H.get k = some b) ∨ b = dead ∨ ∃ j b1, H1.get j = some b1 ∧ k = rr r m H.size j ∧ b = rB (rr r m H.size) b1 := by
  by_cases hkl : k < H.size
  · by_cases hex : ∃ i, i < H0.size ∧ r i = k
    · obtain ⟨i, hi, rfl⟩ := hex
      by_cases him : i < m
      · rw [h.old i him] at hk
        cases h1 : H1.get i with
        | none => rw [h1] at hk; cases hk
        | some b1 =>
          rw [h1] at hk
          injection hk with hk
          exact .inr (.inr ⟨i, b1, h1, by simp [rr, him], hk.symm⟩)
      · rw [h.gone i (by omega) hi] at hk
        injection hk with hk
        exact .inr (.inl hk.symm)
    · have hn : ∀ i, i < H0.size → r i ≠ k := fun i hi e => hex ⟨i, hi, e⟩
      rw [h.far k hkl hn] at hk
      exact .inl ⟨hkl, hn, hk⟩
  · have hks := AH.get_lt hk
    rw [h.size] at hks
    have e : H.size + ((m + (k - H.size)) - m) = k := by omega
    have := h.new (m + (k - H.size)) (by omega) (by omega)
    rw [e, hk] at this
    cases h1 : H1.get (m + (k - H.size)) with
    | none => rw [h1] at this; cases this
    | some b1 =>
      rw [h1] at this
      injection this with this
      refine .inr (.inr ⟨_, b1, h1, ?_, this⟩)
      unfold rr
      rw [if_neg (by omega)]; omega
end
end Go.RX
