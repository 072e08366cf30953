/- From runs in small memories to entries of a table. -/
import Derived.Test.YtnidbincddpaaaaE16
namespace Go.RX
open Go Go.RowKit

section
variable {P : Program} {W0 : World} {S : Nat → Prop} {σ : Nat → Loc} {w : World} {H : AH}

/-- The first blocks alone. -/
structure Front (H1 H2 : AH) : Prop where
  size : H2.size ≤ H1.size
  get : ∀ i, i < H2.size → H2.get i = H1.get i
  sc : ∀ (i : Nat) (b : Blk), H2.get i = some b → b.cells.all (scS H2.size) = true
  mp : ∀ (i : Nat) (b : Blk) (es : List (Value × Value)), H2.get i = some b → b.mp = some es → es.all (scP H2.size) = true
theorem Front.old {H1 H2 : AH} (h : Front H1 H2) {i : Nat} {b : Blk} (hi : H2.get i = some b) : H1.get i = some b := by rw [← h.get i (AH.get_lt hi)]; exact hi
theorem Rel.front (h : Rel P W0 S σ H w) {H2 : AH} (hf : Front H H2) : Rel P W0 S σ H2 w :=
  ⟨h.fr, hf.sc, fun i b hi => h.pl i b (hf.old hi), fun i b hi => h.lt i b (hf.old hi), fun i b hi => h.sp i b (hf.old hi), fun i b hi => h.ro i b (hf.old hi), fun i b hi => h.wb i b (hf.old hi),
    fun i b es hi hm => by
      obtain ⟨h1, h2, _, h4⟩ := h.mp i b es (hf.old hi) hm
      exact ⟨h1, h2, hf.mp i b es hi hm, h4⟩,
    fun i b hi => h.lm i b (hf.old hi), fun i j bi bj hi hj => h.inj i j bi bj (hf.old hi) (hf.old hj)⟩

/-- Two ways of writing the same blocks. -/
structure Same (H H' : AH) : Prop where
  size : H'.size = H.size
  get : ∀ i, H'.get i = H.get i
theorem Rel.same (h : Rel P W0 S σ H w) {H' : AH} (hs : Same H H') : Rel P W0 S σ H' w := by
  refine h.front ⟨Nat.le_of_eq hs.size, fun i _ => hs.get i, fun i b hi => ?_, fun i b es hi hm => ?_⟩
  · rw [hs.size]; exact h.sc i b ((hs.get i) ▸ hi)
  · rw [hs.size]; exact (h.mp i b es ((hs.get i) ▸ hi) hm).2.2.1

variable {m : Nat} {f : FuncId} {args : List Value}

/-- The first blocks alone are kept behind a call. -/
theorem Fun.front {o1 : Out} {H1 H2 : AH} (h : Fun P m f args H (fun o H' => o = o1 ∧ H' = H1)) (hf : Front H1 H2) (hm : m ≤ H2.size) (ho : osc H2.size o1) : Fun P m f args H (fun o H' => o = o1 ∧ H' = H2) := by
  intro W0 S R σ w hR hargs hk
  refine h W0 S R σ w hR hargs (fun o H' hQ hos σ' w' he hke hr => ?_)
  obtain ⟨rfl, rfl⟩ := hQ
  refine hk o H2 ⟨rfl, rfl⟩ ho σ' w' he ⟨hm, fun i b hi hb hw => ?_, fun i b hi hw => hke.back i b (hf.old hi) hw⟩ (hr.front hf)
  rw [hf.get i (by omega)]
  exact hke.ro i b hi hb hw

theorem Fun.same {o1 : Out} {H1 H2 : AH} (h : Fun P m f args H (fun o H' => o = o1 ∧ H' = H1)) (hs : Same H1 H2) : Fun P m f args H (fun o H' => o = o1 ∧ H' = H2) := by
  intro W0 S R σ w hR hargs hk
  refine h W0 S R σ w hR hargs (fun o H' hQ hos σ' w' he hke hr => ?_)
  obtain ⟨rfl, rfl⟩ := hQ
  refine hk o H2 ⟨rfl, rfl⟩ (by rw [hs.size]; exact hos) σ' w' he ⟨by rw [hs.size]; exact hke.len, fun i b hi hb hw => by rw [hs.get]; exact hke.ro i b hi hb hw, fun i b hi hw => hke.back i b (by rw [← hs.get]; exact hi) hw⟩ (hr.same hs)

theorem Fun.mono {Q Q' : Out → AH → Prop} (h : Fun P m f args H Q) (hq : ∀ o H', Q o H' → Q' o H') : Fun P m f args H Q' :=
  fun W0 S R σ w hR hargs hk => h W0 S R σ w hR hargs (fun o H' hQ => hk o H' (hq o H' hQ))

/-- What was shown in a small memory, in a greater one. -/
theorem Fun.place {args0 : List Value} {H0 H2 H' : AH} {o1 : Out} (h : Fun P H0.size f args0 H0 (fun o H' => o = o1 ∧ H' = H2)) {r : Nat → Nat} (hl : Lies r H0 H)
    (hmp : ∀ (i : Nat) (b0 : Blk), H0.get i = some b0 → b0.mp = none) (hargs0 : ∀ v ∈ args0, scV H0.size v = true) (hfull : ∀ i, i < H2.size → ∃ b, H2.get i = some b)
    (hM : Merged r H0.size H0 H H2 H') : Fun P H.size f (args0.map (rV r)) H (fun o H'' => o = rO (rr r H0.size H.size) o1 ∧ H'' = H') := by
  have h1 := Fun.embed h hl (Nat.le_refl _) (Low.all H) (fun i b0 hi _ => ⟨AH.get_lt hi, (hl.sc i b0 hi).1, hmp i b0 hi⟩) hargs0 (fun o H1 hQ => by obtain ⟨_, rfl⟩ := hQ; exact hfull)
  intro W0 S R σ w hR hargs hk
  refine h1 W0 S R σ w hR hargs (fun o H'' hQ hos σ' w' he hke hr => ?_)
  obtain ⟨o0, H1, ⟨rfl, rfl⟩, _, hle, rfl, hM'⟩ := hQ
  have hs : Same H'' H' := by
    refine ⟨by rw [hM.size, hM'.size], fun k => ?_⟩
    by_cases hk1 : k < H.size
    · by_cases hk2 : ∃ i, i < H0.size ∧ r i = k
      · obtain ⟨i, hi, rfl⟩ := hk2
        rw [hM.old i hi, hM'.old i hi]
      · have : ∀ i, i < H0.size → r i ≠ k := fun i hi he => hk2 ⟨i, hi, he⟩
        rw [hM.far k hk1 this, hM'.far k hk1 this]
    · by_cases hk3 : k < H'.size
      · have e : k = H.size + (H0.size + (k - H.size) - H0.size) := by omega
        have hlt : H0.size + (k - H.size) < H1.size := by rw [hM.size] at hk3; omega
        rw [e, hM.new _ (by omega) hlt, hM'.new _ (by omega) hlt]
      · rw [AH.get_none (by omega), AH.get_none (by rw [hM'.size]; rw [hM.size] at hk3; omega)]
  exact hk _ H' ⟨rfl, rfl⟩ (by rw [hs.size]; exact hos) σ' w' he ⟨by rw [hs.size]; exact hke.len, fun i b hi hb hw => by rw [hs.get]; exact hke.ro i b hi hb hw, fun i b hi hw => hke.back i b (by rw [← hs.get]; exact hi) hw⟩ (hr.same hs)

/-- Nothing was turned. -/
theorem Merged.none {H0 H2 : AH} {r : Nat → Nat} (hl : Lies r H0 H) (hs : H2.size = H0.size) (hg : ∀ i, i < H0.size → H2.get i = H0.get i)
    (hsm : ∀ (i : Nat) (b0 : Blk), H0.get i = some b0 → b0.mp = Option.none) : Merged r H0.size H0 H H2 H := by
  refine ⟨by rw [hs, Nat.sub_self]; rfl, fun i hi => ?_, fun _ _ _ => rfl, fun i h1 h2 => by omega, fun i h1 h2 => by omega⟩
  rw [hg i hi]
  obtain ⟨b0, hb0⟩ := hl.full i hi
  rw [hb0, hl.at_ i b0 hb0, Option.map_some]
  exact congrArg some (rB_eq (m := H0.size) (fun j hj => by simp [rr, hj]) (hl.sc i b0 hb0).1 (hsm i b0 hb0))
/-- The first block was turned. -/
theorem Merged.set0 {H0 H2 : AH} {r : Nat → Nat} (hl : Lies r H0 H) (hs : H2.size = H0.size) {b : Blk} (hb : H2.get 0 = some b) (hbs : b.cells.all (scS H0.size) = true) (hbm : b.mp = Option.none)
    (hg : ∀ i, 0 < i → i < H0.size → H2.get i = H0.get i) (hsm : ∀ (i : Nat) (b0 : Blk), H0.get i = some b0 → b0.mp = Option.none) : Merged r H0.size H0 H H2 (H.set (r 0) (rB r b)) := by
  have h0 : 0 < H0.size := by have := AH.get_lt hb; omega
  refine ⟨by rw [hs, Nat.sub_self]; rfl, fun i hi => ?_, fun k _ hn => ?_, fun i h1 h2 => by omega, fun i h1 h2 => by omega⟩
  · rw [AH.get_set]
    by_cases h : i = 0
    · subst h
      rw [if_pos ⟨rfl, hl.lt 0 h0⟩, hb, Option.map_some]
      exact congrArg some (rB_eq (m := H0.size) (fun j hj => by simp [rr, hj]) hbs hbm)
    · rw [if_neg (fun e => h (hl.inj _ _ h0 hi e.1).symm), hg i (by omega) hi]
      obtain ⟨b0, hb0⟩ := hl.full i hi
      rw [hb0, hl.at_ i b0 hb0, Option.map_some]
      exact congrArg some (rB_eq (m := H0.size) (fun j hj => by simp [rr, hj]) (hl.sc i b0 hb0).1 (hsm i b0 hb0))
  · rw [AH.get_set, if_neg (fun e => hn 0 h0 e.1)]
/-- One block is new. -/
theorem Merged.push1 {H0 H2 : AH} {r : Nat → Nat} (hl : Lies r H0 H) (hs : H2.size = H0.size + 1) {b : Blk} (hb : H2.get H0.size = some b)
    (hg : ∀ i, i < H0.size → H2.get i = H0.get i) (hsm : ∀ (i : Nat) (b0 : Blk), H0.get i = some b0 → b0.mp = Option.none) : Merged r H0.size H0 H H2 (H.push (rB (rr r H0.size H.size) b)) := by
  refine ⟨by rw [hs]; simp, fun i hi => ?_, fun k hk hn => ?_, fun i h1 h2 => by omega, fun i h1 h2 => ?_⟩
  · rw [AH.get_push, if_neg (Nat.ne_of_lt (hl.lt i hi)), hg i hi]
    obtain ⟨b0, hb0⟩ := hl.full i hi
    rw [hb0, hl.at_ i b0 hb0, Option.map_some]
    exact congrArg some (rB_eq (m := H0.size) (fun j hj => by simp [rr, hj]) (hl.sc i b0 hb0).1 (hsm i b0 hb0))
  · rw [AH.get_push, if_neg (by omega)]
  · have : i = H0.size := by omega
    subst this
    rw [AH.get_push, Nat.sub_self, Nat.add_zero, if_pos rfl, hb, Option.map_some]

/-- The first j blocks. -/
noncomputable def seen (H : AH) : Nat → List (Option Blk) := Nat.rec (motive := fun _ => List (Option Blk)) [] (fun i ih => H.get i :: ih)
theorem seen_get {H : AH} : ∀ {j : Nat} {B : List Blk}, seen H j = (B.reverse.map some) → B.length = j ∧ ∀ i, i < j → H.get i = B[i]?
  | 0, B, h => by
    have : B = [] := by
      have := congrArg List.length h
      rw [List.length_map, List.length_reverse] at this
      exact List.eq_nil_of_length_eq_zero this.symm
    subst this
    exact ⟨rfl, fun i hi => by omega⟩
  | j + 1, B, h => by
    have h' : H.get j :: seen H j = B.reverse.map some := h
    rcases List.eq_nil_or_concat B with rfl | ⟨B', b, rfl⟩
    · simp at h'
    · rw [List.concat_eq_append, List.reverse_append, List.reverse_singleton, List.singleton_append, List.map_cons] at h'
      injection h' with h1 h2
      obtain ⟨h3, h4⟩ := seen_get h2
      refine ⟨by simp [h3], fun i hi => ?_⟩
      by_cases e : i = j
      · subst e
        rw [h1, List.concat_eq_append, List.getElem?_append_right (by omega), h3]; simp
      · rw [h4 i (by omega), List.concat_eq_append, List.getElem?_append_left (by omega)]
theorem front_of {H : AH} {B : List Blk} (h : seen H B.length = B.reverse.map some) (hs : B.all (fun b => b.cells.all (scS B.length) && b.mp.isNone) = true) : Front H (AH.of B) := by
  obtain ⟨_, h2⟩ := seen_get h
  have hsz : (AH.of B).size = B.length := AH.size_of B
  have hin : ∀ (i : Nat) (b : Blk), (AH.of B).get i = some b → b.cells.all (scS B.length) = true ∧ b.mp = none := by
    intro i b hi
    rw [AH.get_of] at hi
    have := List.all_eq_true.1 hs b (List.mem_of_getElem? hi)
    simpa using this
  refine ⟨?_, fun i hi => ?_, fun i b hi => ?_, fun i b es hi hm => ?_⟩
  · rw [hsz]
    by_cases hz : B.length = 0
    · omega
    · have h3 := h2 (B.length - 1) (by omega)
      rw [List.getElem?_eq_getElem (by omega)] at h3
      have := AH.get_lt h3
      omega
  · rw [hsz] at hi
    rw [AH.get_of, h2 i hi]
  · rw [hsz]; exact (hin i b hi).1
  · rw [(hin i b hi).2] at hm; cases hm

section
variable (hnum : ∀ (f : FuncId) (fn : Func), P.funcs[f]? = some fn → (fn.name == "runtime.NumGoroutine") = false) (hmix : P.follows .mixedOrders = true)
include hnum hmix in
/-- A run that tells what it yields and its first blocks, whoever asks. -/
theorem fun_of_see {tbl : Tbl} (ht : TblOK P tbl) {loops : LH} [LHGood P loops] {n : Nat} {o1 : Out} (B : List Blk) (hl : Low m H)
    (h : ∀ g : Out → List (Option Blk) → Res, run P tbl loops n f args H (fun o H' => g o (seen H' B.length)) = g o1 (B.reverse.map some))
    (hm : m ≤ B.length) (ho : osc B.length o1) (hs : B.all (fun b => b.cells.all (scS B.length) && b.mp.isNone) = true) : Fun P m f args H (fun o H' => o = o1 ∧ H' = AH.of B) := by
  classical
  intro W0 S R σ w hR hargs hk
  have h1 := h (fun o l => if o = o1 ∧ l = B.reverse.map some then some (.ret undef, .nil) else none)
  rw [if_pos ⟨rfl, rfl⟩] at h1
  refine run_ok hnum hmix ht loops n f args H _ _ h1 W0 S R σ w hR hargs ?_
  intro o H' hk' σ' w' he hke hr hos
  by_cases hq : o = o1 ∧ seen H' B.length = B.reverse.map some
  · obtain ⟨rfl, hseen⟩ := hq
    have hf := front_of hseen hs
    have hkm := hke.low hl
    refine hk o (AH.of B) ⟨rfl, rfl⟩ (by rw [AH.size_of]; exact ho) σ' w' (he.mono hl.len) ⟨by rw [AH.size_of]; exact hm, fun i b hi hb hw => ?_, fun i b hi hw => hkm.back i b (hf.old hi) hw⟩ (hr.front hf)
    rw [hf.get i (by rw [AH.size_of]; omega)]
    exact hkm.ro i b hi hb hw
  · rw [if_neg hq] at hk'; cases hk'
end
end

section
variable {P : Program} {H : AH} {f : FuncId}
theorem of_get1 {b0 : Blk} {i : Nat} {b : Blk} (h : (AH.of [b0]).get i = some b) : i = 0 ∧ b = b0 := by
  rw [AH.get_of] at h
  cases i with
  | zero => exact ⟨rfl, by simpa using h.symm⟩
  | succ i => simp at h
theorem lies1 {b0 : Blk} {i : Nat} (hi : H.get i = some (rB (fun _ => i) b0)) (hs : b0.cells.all (scS 1) = true) (hp : b0.pl = true → b0.cells.all (scS 0) = true) (hm : b0.mp = none) : Lies (fun _ => i) (AH.of [b0]) H := by
  have hsz : (AH.of [b0]).size = 1 := AH.size_of _
  refine ⟨fun j b h => ?_, fun a b ha hb _ => by omega, fun j b h => ?_, fun j _ => AH.get_lt hi, fun j hj => ⟨b0, ?_⟩⟩
  · obtain ⟨_, rfl⟩ := of_get1 h
    rw [hsz]
    exact ⟨hs, hp, fun es he => by rw [hm] at he; cases he⟩
  · obtain ⟨_, rfl⟩ := of_get1 h
    exact hi
  · have : j = 0 := by omega
    subst this
    rw [AH.get_of]; rfl
/-- One block: it is turned. -/
theorem fun_one {args0 : List Value} {b0 b1 : Blk} {o1 : Out} (h : Fun P 1 f args0 (AH.of [b0]) (fun o H' => o = o1 ∧ H' = AH.of [b1])) {i : Nat} (hi : H.get i = some (rB (fun _ => i) b0))
    (hs : b0.cells.all (scS 1) = true) (hp : b0.pl = true → b0.cells.all (scS 0) = true) (hm : b0.mp = none) (hs1 : b1.cells.all (scS 1) = true) (hm1 : b1.mp = none) (hargs : ∀ v ∈ args0, scV 1 v = true) :
    Fun P H.size f (args0.map (rV fun _ => i)) H (fun o H' => o = rO (rr (fun _ => i) 1 H.size) o1 ∧ H' = H.set i (rB (fun _ => i) b1)) := by
  have hl := lies1 hi hs hp hm
  have hsz : (AH.of [b0]).size = 1 := AH.size_of _
  refine Fun.place (H0 := AH.of [b0]) (r := fun _ => i) h hl (fun j b hj => by rw [(of_get1 hj).2]; exact hm) (by rw [hsz]; exact hargs) (fun j hj => ?_) ?_
  · rw [AH.size_of] at hj
    have : j = 0 := by simp at hj; omega
    subst this
    exact ⟨b1, by rw [AH.get_of]; rfl⟩
  · exact Merged.set0 hl (by rw [AH.size_of, AH.size_of]; rfl) (by rw [AH.get_of]; rfl) (by rw [hsz]; exact hs1) hm1 (fun j h1 h2 => by omega) (fun j b hj => by rw [(of_get1 hj).2]; exact hm)
/-- One block: it stays. -/
theorem fun_one' {args0 : List Value} {b0 : Blk} {o1 : Out} (h : Fun P 1 f args0 (AH.of [b0]) (fun o H' => o = o1 ∧ H' = AH.of [b0])) {i : Nat} (hi : H.get i = some (rB (fun _ => i) b0))
    (hs : b0.cells.all (scS 1) = true) (hp : b0.pl = true → b0.cells.all (scS 0) = true) (hm : b0.mp = none) (hargs : ∀ v ∈ args0, scV 1 v = true) :
    Fun P H.size f (args0.map (rV fun _ => i)) H (fun o H' => o = rO (rr (fun _ => i) 1 H.size) o1 ∧ H' = H) := by
  have hl := lies1 hi hs hp hm
  have hsz : (AH.of [b0]).size = 1 := AH.size_of _
  refine Fun.place (H0 := AH.of [b0]) (r := fun _ => i) h hl (fun j b hj => by rw [(of_get1 hj).2]; exact hm) (by rw [hsz]; exact hargs) (fun j hj => ?_) ?_
  · rw [AH.size_of] at hj
    have : j = 0 := by simp at hj; omega
    subst this
    exact ⟨b0, by rw [AH.get_of]; rfl⟩
  · exact Merged.none hl rfl (fun _ _ => rfl) (fun j b hj => by rw [(of_get1 hj).2]; exact hm)
end

section
variable {P : Program} {H : AH} {f : FuncId}
def r2n (i j : Nat) : Nat → Nat := fun x => if x = 0 then i else j
theorem of_get2 {b0 b1 : Blk} {i : Nat} {b : Blk} (h : (AH.of [b0, b1]).get i = some b) : (i = 0 ∧ b = b0) ∨ (i = 1 ∧ b = b1) := by
  rw [AH.get_of] at h
  match i, h with
  | 0, h => exact .inl ⟨rfl, by simpa using h.symm⟩
  | 1, h => exact .inr ⟨rfl, by simpa using h.symm⟩
  | i + 2, h => simp at h
/-- A block that may stand in a small memory of n blocks. -/
def Fine (n : Nat) (b : Blk) : Prop := b.cells.all (scS n) = true ∧ (b.pl = true → b.cells.all (scS 0) = true) ∧ b.mp = none
theorem lies2 {b0 b1 : Blk} {i j : Nat} (hij : i ≠ j) (hi : H.get i = some (rB (r2n i j) b0)) (hj : H.get j = some (rB (r2n i j) b1)) (h0 : Fine 2 b0) (h1 : Fine 2 b1) : Lies (r2n i j) (AH.of [b0, b1]) H := by
  have hsz : (AH.of [b0, b1]).size = 2 := AH.size_of _
  refine ⟨fun x b h => ?_, fun x y hx hy he => ?_, fun x b h => ?_, fun x hx => ?_, fun x hx => ?_⟩
  · rw [hsz]
    rcases of_get2 h with ⟨_, rfl⟩ | ⟨_, rfl⟩
    · exact ⟨h0.1, h0.2.1, fun es he => by rw [h0.2.2] at he; cases he⟩
    · exact ⟨h1.1, h1.2.1, fun es he => by rw [h1.2.2] at he; cases he⟩
  · rw [hsz] at hx hy
    unfold r2n at he
    split at he <;> split at he <;> omega
  · rcases of_get2 h with ⟨rfl, rfl⟩ | ⟨rfl, rfl⟩
    · exact hi
    · exact hj
  · unfold r2n
    split
    · exact AH.get_lt hi
    · exact AH.get_lt hj
  · rw [hsz] at hx
    match x, hx with
    | 0, _ => exact ⟨b0, by rw [AH.get_of]; rfl⟩
    | 1, _ => exact ⟨b1, by rw [AH.get_of]; rfl⟩
theorem fine2_mp {b0 b1 : Blk} (h0 : Fine 2 b0) (h1 : Fine 2 b1) (x : Nat) (b : Blk) (h : (AH.of [b0, b1]).get x = some b) : b.mp = none := by
  rcases of_get2 h with ⟨_, rfl⟩ | ⟨_, rfl⟩
  · exact h0.2.2
  · exact h1.2.2
theorem full_of (B : List Blk) (i : Nat) (h : i < (AH.of B).size) : ∃ b, (AH.of B).get i = some b := by
  rw [AH.size_of] at h
  exact ⟨B[i], by rw [AH.get_of]; exact List.getElem?_eq_getElem h⟩
/-- Two blocks: the first is turned. -/
theorem fun_two {args0 : List Value} {b0 b1 b2 : Blk} {o1 : Out} (h : Fun P 2 f args0 (AH.of [b0, b1]) (fun o H' => o = o1 ∧ H' = AH.of [b2, b1])) {i j : Nat} (hij : i ≠ j) (hi : H.get i = some (rB (r2n i j) b0)) (hj : H.get j = some (rB (r2n i j) b1))
    (h0 : Fine 2 b0) (h1 : Fine 2 b1) (h2 : Fine 2 b2) (hargs : ∀ v ∈ args0, scV 2 v = true) :
    Fun P H.size f (args0.map (rV (r2n i j))) H (fun o H' => o = rO (rr (r2n i j) 2 H.size) o1 ∧ H' = H.set i (rB (r2n i j) b2)) := by
  have hl := lies2 hij hi hj h0 h1
  have hsz : (AH.of [b0, b1]).size = 2 := AH.size_of _
  refine Fun.place (H0 := AH.of [b0, b1]) (r := r2n i j) h hl (fine2_mp h0 h1) (by rw [hsz]; exact hargs) (full_of _) ?_
  exact Merged.set0 hl (by rw [AH.size_of, AH.size_of]; rfl) (by rw [AH.get_of]; rfl) (by rw [hsz]; exact h2.1) h2.2.2 (fun x hx1 hx2 => by
    have : x = 1 := by omega
    subst this
    rw [AH.get_of, AH.get_of]; rfl) (fine2_mp h0 h1)
/-- Two blocks: they stay. -/
theorem fun_two' {args0 : List Value} {b0 b1 : Blk} {o1 : Out} (h : Fun P 2 f args0 (AH.of [b0, b1]) (fun o H' => o = o1 ∧ H' = AH.of [b0, b1])) {i j : Nat} (hij : i ≠ j) (hi : H.get i = some (rB (r2n i j) b0)) (hj : H.get j = some (rB (r2n i j) b1))
    (h0 : Fine 2 b0) (h1 : Fine 2 b1) (hargs : ∀ v ∈ args0, scV 2 v = true) :
    Fun P H.size f (args0.map (rV (r2n i j))) H (fun o H' => o = rO (rr (r2n i j) 2 H.size) o1 ∧ H' = H) := by
  have hl := lies2 hij hi hj h0 h1
  have hsz : (AH.of [b0, b1]).size = 2 := AH.size_of _
  exact Fun.place (H0 := AH.of [b0, b1]) (r := r2n i j) h hl (fine2_mp h0 h1) (by rw [hsz]; exact hargs) (full_of _) (Merged.none hl rfl (fun _ _ => rfl) (fine2_mp h0 h1))
theorem low_of {n : Nat} (B : List Blk) (h : B.length = n) : Low n (AH.of B) := by
  have := Low.all (AH.of B)
  rwa [AH.size_of, h] at this
end
end Go.RX
