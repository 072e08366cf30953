/- A call in a small memory, told of the greater one that holds it. -/
import Derived.Test.YtnidbincddpaaaaE15
namespace Go.RX
open Go Go.RowKit

section
variable {P : Program} {W0 w : World} {S : Nat → Prop} {σ : Nat → Loc} {H : AH}

def back (m n : Nat) (σ σ1 : Nat → Loc) (k : Nat) : Loc := if k < n then σ k else σ1 (m + (k - n))

theorem rB_eq {m : Nat} {r r' : Nat → Nat} (h : ∀ i, i < m → r i = r' i) {b : Blk} (hs : b.cells.all (scS m) = true) (hm : b.mp = none) : rB r b = rB r' b := by
  have key : ∀ v, scS m v = true → rS r v = rS r' v := by
    have k0 : ∀ v, s0 m v = true → r0 r v = r0 r' v := by
      intro v hv
      cases v with
      | pointer a => cases a with
        | none => rfl
        | some a => simp only [r0, rA, h _ (ble_lt'.1 hv)]
      | slice a l c => cases a with
        | none => rfl
        | some a => simp only [r0, rA, h _ (ble_lt'.1 hv)]
      | map g => cases g with
        | none => rfl
        | some g => simp only [r0, h _ (ble_lt'.1 hv)]
      | _ => rfl
    have kup : ∀ {c c' : Value → Value} {s : Value → Bool}, (∀ v, s v = true → c v = c' v) → ∀ v, sUp s v = true → cUp c v = cUp c' v := by
      intro c c' s hc v hv
      cases v with
      | agg cs => simp only [cUp]; rw [amap_congr cs fun v hx => hc v (List.all_eq_true.1 hv v hx)]
      | iface t v => simp only [cUp]; rw [hc v hv]
      | func f a b =>
        simp only [sUp, Bool.and_eq_true] at hv
        simp only [cUp]
        rw [amap_congr a fun v hx => hc v (List.all_eq_true.1 hv.1 v hx), amap_congr b fun v hx => hc v (List.all_eq_true.1 hv.2 v hx)]
      | _ => exact hc _ hv
    have k2 : ∀ v, s2 m v = true → r2 r v = r2 r' v := kup (kup k0)
    intro v hv
    cases v with
    | pointer a => cases a with
      | none => rfl
      | some a => simp only [rS, rA, h _ (ble_lt'.1 hv)]
    | slice a l c => cases a with
      | none => rfl
      | some a => simp only [rS, rA, h _ (ble_lt'.1 hv)]
    | map g => cases g with
      | none => rfl
      | some g => simp only [rS, h _ (ble_lt'.1 hv)]
    | iface t v => simp only [rS]; rw [k2 v hv]
    | func f a b =>
      simp only [scS, Bool.and_eq_true] at hv
      simp only [rS]
      rw [amap_congr a (g := r2 r') fun v hx => k2 v (List.all_eq_true.1 hv.1 v hx), amap_congr b (g := r2 r') fun v hx => k2 v (List.all_eq_true.1 hv.2 v hx)]
    | _ => rfl
  unfold rB
  rw [hm, List.map_congr_left fun v hv => key v (List.all_eq_true.1 hs v hv)]
  rfl

theorem Rel.merge (h : Rel P W0 S σ H w) {H0 H1 H' : AH} {r : Nat → Nat} {m : Nat} (hl : Lies r H0 H) (hm : m ≤ H0.size) {σ1 : Nat → Loc} {w1 : World}
    (h1 : Rel P w (Own0 H0 fun i => σ (r i)) σ1 H1 w1) (he : Ext m (fun i => σ (r i)) σ1) (hk : KeepM m H0 H1) (hM : Merged r m H0 H H1 H') :
    Rel P W0 S (back m H.size σ σ1) H' w1 ∧ Ext H.size σ (back m H.size σ σ1) ∧ ∀ i, i < H1.size → back m H.size σ σ1 (rr r m H.size i) = σ1 i := by
  have hlt0 : ∀ {i : Nat} {b0 : Blk}, H0.get i = some b0 → i < H0.size := fun hi => AH.get_lt hi
  have hext : Ext H.size σ (back m H.size σ σ1) := fun i hi => by simp [back, hi]
  have key : ∀ i, i < H1.size → back m H.size σ σ1 (rr r m H.size i) = σ1 i := by
    intro i hi
    unfold rr
    by_cases him : i < m
    · rw [if_pos him, back, if_pos (hl.lt i (by omega))]
      exact (he i him).symm
    · rw [if_neg him, back, if_neg (by omega)]
      congr 1; omega
  have hmH1 : m ≤ H1.size := hk.len
  have hr : ∀ i, i < H1.size → rr r m H.size i < H'.size := by
    intro i hi
    rw [hM.size]
    unfold rr
    split
    · have := hl.lt i (by omega); omega
    · omega
  have hcS : ∀ v, scS H1.size v = true → cS (back m H.size σ σ1) (rS (rr r m H.size) v) = cS σ1 v := fun v hv => by
    rw [cS_ren]
    exact cS_ext (n := H1.size) (fun i hi => key i hi) v hv
  have hS0 : ∀ k, Own0 H0 (fun i => σ (r i)) k → S k ∨ W0.heap.size ≤ k := by
    rintro k ⟨i, b0, hi, ha, hw, rfl⟩
    have ha' : (rB r b0).act = true := by rw [rB_act]; exact ha
    simp only [Blk.act, Bool.or_eq_true, Option.isSome_iff_exists] at ha'
    rcases ha' with ha' | ⟨es, ha'⟩
    · exact (h.wb _ _ (hl.at_ i b0 hi) ha' hw).1
    · exact (h.mp _ _ es (hl.at_ i b0 hi) ha').2.1
  have far : ∀ {k : Nat} {b : Blk}, (∀ i, i < H0.size → r i ≠ k) → H.get k = some b → b.act = true → ¬ Own0 H0 (fun i => σ (r i)) (σ k).blk := by
    rintro k b hk hb ha ⟨i, b0, hi, ha0, hw, he'⟩
    exact h.inj _ k _ _ (hl.at_ i b0 hi) hb (by rw [rB_act]; exact ha0) ha hw (hk i (hlt0 hi)) he'
  have hbk : ∀ {k : Nat} {b : Blk}, (∀ i, i < H0.size → r i ≠ k) → H.get k = some b → b.act = true → w1.heap[(σ k).blk]? = w.heap[(σ k).blk]? := fun hk hb ha =>
    h1.fr.block _ (h.lt _ _ hb ha) (far hk hb ha)
  have hbo : ∀ k, k < H.size → back m H.size σ σ1 k = σ k := hext
  have own1 : ∀ (j : Nat) (b1 : Blk), H1.get j = some b1 → b1.act = true → b1.wr = true → Own0 H0 (fun i => σ (r i)) (σ1 j).blk ∨ w.heap.size ≤ (σ1 j).blk := by
    intro j b1 hj ha hw
    simp only [Blk.act, Bool.or_eq_true, Option.isSome_iff_exists] at ha
    rcases ha with ha | ⟨es, ha⟩
    · exact (h1.wb j b1 hj ha hw).1
    · exact (h1.mp j b1 es hj ha).2.1
  have ro1 : ∀ (j : Nat) (b1 : Blk), H1.get j = some b1 → b1.wr = false → j < m ∧ H0.get j = some b1 := fun j b1 hj hw => hk.back j b1 hj hw
  refine ⟨⟨h.fr.trans h1.fr hS0, ?_, ?_, ?_, ?_, ?_, ?_, ?_, ?_, ?_⟩, hext, key⟩
  · intro k b hkb
    rcases hM.get hm hkb with ⟨_, _, hb⟩ | rfl | ⟨j, b1, hj, rfl, rfl⟩
    · exact List.all_eq_true.2 fun v hv => scS_mono (by rw [hM.size]; omega) v (List.all_eq_true.1 (h.sc k b hb) v hv)
    · rfl
    · simp only [rB, List.all_map]
      exact List.all_eq_true.2 fun v hv => scS_ren hr (List.all_eq_true.1 (h1.sc j b1 hj) v hv)
  · intro k b hkb hp
    rcases hM.get hm hkb with ⟨_, _, hb⟩ | rfl | ⟨j, b1, hj, rfl, rfl⟩
    · exact h.pl k b hb hp
    · cases hp
    · simp only [rB, List.all_map]
      exact List.all_eq_true.2 fun v hv => rS_const (List.all_eq_true.1 (h1.pl j b1 hj hp) v hv)
  · intro k b hkb ha
    rcases hM.get hm hkb with ⟨hkn, _, hb⟩ | rfl | ⟨j, b1, hj, rfl, rfl⟩
    · rw [hbo k hkn]; exact Nat.lt_of_lt_of_le (h.lt k b hb ha) h1.fr.size
    · cases ha
    · rw [key j (AH.get_lt hj)]; exact h1.lt j b1 hj (by rw [← rB_act]; exact ha)
  · intro k b hkb hlv
    rcases hM.get hm hkb with ⟨hkn, _, hb⟩ | rfl | ⟨j, b1, hj, rfl, rfl⟩
    · rw [hbo k hkn]; exact h.sp k b hb hlv
    · cases hlv
    · rw [key j (AH.get_lt hj)]; exact h1.sp j b1 hj hlv
  · intro k b hkb hlv hw j' v hv
    rcases hM.get hm hkb with ⟨hkn, hkr, hb⟩ | rfl | ⟨j, b1, hj, rfl, rfl⟩
    · rw [hbo k hkn, cS_ext hext v (h.sc' hb v (List.mem_of_getElem? hv)), World.cell?_of_block (w := w) (hbk hkr hb (act_live hlv))]
      exact h.ro k b hb hlv hw j' v hv
    · cases hlv
    · simp only [rB, List.getElem?_map] at hv
      cases hv1 : b1.cells[j']? with
      | none => rw [hv1] at hv; cases hv
      | some v1 =>
        rw [hv1] at hv
        injection hv with hv; subst hv
        rw [key j (AH.get_lt hj), hcS v1 (h1.sc' hj v1 (List.mem_of_getElem? hv1))]
        exact h1.ro j b1 hj hlv hw j' v1 hv1
  · intro k b hkb hlv hw
    rcases hM.get hm hkb with ⟨hkn, hkr, hb⟩ | rfl | ⟨j, b1, hj, rfl, rfl⟩
    · obtain ⟨g1, g2⟩ := h.wb k b hb hlv hw
      rw [hbo k hkn, map_cS_ext hext _ (h.sc' hb)]
      exact ⟨g1, g2.of_heap (hbk hkr hb (act_live hlv))⟩
    · cases hlv
    · obtain ⟨g1, g2⟩ := h1.wb j b1 hj hlv hw
      rw [key j (AH.get_lt hj)]
      have e : (rB (rr r m H.size) b1).cells.map (cS (back m H.size σ σ1)) = b1.cells.map (cS σ1) := by
        simp only [rB, List.map_map]
        exact List.map_congr_left fun v hv => hcS v (h1.sc' hj v hv)
      rw [e]
      exact ⟨g1.elim (hS0 _) (fun hh => .inr (Nat.le_trans h.fr.size hh)), g2⟩
  · intro k b es hkb hmp
    rcases hM.get hm hkb with ⟨hkn, hkr, hb⟩ | rfl | ⟨j, b1, hj, rfl, rfl⟩
    · obtain ⟨g1, g2, g3, g4⟩ := h.mp k b es hb hmp
      rw [hbo k hkn, mapC_ext hext g3]
      exact ⟨g1, g2, all_scP_mono (by rw [hM.size]; omega) g3, g4.of_heap (hbk hkr hb (act_mp hmp))⟩
    · cases hmp
    · simp only [rB, Option.map_eq_some_iff] at hmp
      obtain ⟨es1, hmp, rfl⟩ := hmp
      obtain ⟨g1, g2, g3, g4⟩ := h1.mp j b1 es1 hj hmp
      rw [key j (AH.get_lt hj), mapC_ren, mapC_ext (n := H1.size) (σ := σ1) (fun i hi => key i hi) g3]
      refine ⟨g1, g2.elim (hS0 _) (fun hh => .inr (Nat.le_trans h.fr.size hh)), ?_, g4⟩
      rw [List.all_map]
      refine List.all_eq_true.2 fun p hp => ?_
      have := List.all_eq_true.1 g3 p hp
      simp only [scP, Bool.and_eq_true] at this
      simp only [Function.comp, scP, rP, Bool.and_eq_true]
      exact ⟨scS_ren hr this.1, scT_ren hr this.2⟩
  · intro k b hkb hlv
    rcases hM.get hm hkb with ⟨_, _, hb⟩ | rfl | ⟨j, b1, hj, rfl, rfl⟩
    · exact h.lm k b hb hlv
    · cases hlv
    · have := h1.lm j b1 hj hlv
      simp [rB, this]
  · intro i j bi bj hi hj hai haj hwi hij
    rcases hM.get hm hi with ⟨hin, hir, hbi⟩ | e1 | ⟨i1, b1, hi1, ei, eb⟩
    · rcases hM.get hm hj with ⟨hjn, hjr, hbj⟩ | e2 | ⟨j1, c1, hj1, ej, ec⟩
      · rw [hbo i hin, hbo j hjn]; exact h.inj i j bi bj hbi hbj hai haj hwi hij
      · subst e2; cases haj
      · subst ej ec
        rw [hbo i hin, key j1 (AH.get_lt hj1)]
        rw [rB_act] at haj
        cases hw1 : c1.wr with
        | true =>
          rcases own1 j1 c1 hj1 haj hw1 with g | g
          · exact fun e => far hir hbi hai (e ▸ g)
          · have := h.lt i bi hbi hai; omega
        | false =>
          obtain ⟨hjm, h0⟩ := ro1 j1 c1 hj1 hw1
          rw [he j1 hjm]
          exact h.inj i _ bi _ hbi (hl.at_ j1 c1 h0) hai (by rw [rB_act]; exact haj) hwi (fun e => hir j1 (hlt0 h0) e.symm)
    · subst e1; cases hai
    · subst ei eb
      rw [rB_act] at hai
      rcases hM.get hm hj with ⟨hjn, hjr, hbj⟩ | e2 | ⟨j1, c1, hj1, ej, ec⟩
      · rw [hbo j hjn, key i1 (AH.get_lt hi1)]
        rcases own1 i1 b1 hi1 hai hwi with g | g
        · exact fun e => far hjr hbj haj (e ▸ g)
        · have := h.lt j bj hbj haj; omega
      · subst e2; cases haj
      · subst ej ec
        rw [rB_act] at haj
        rw [key i1 (AH.get_lt hi1), key j1 (AH.get_lt hj1)]
        exact h1.inj i1 j1 b1 c1 hi1 hj1 hai haj hwi (fun e => hij (by rw [e]))

theorem Merged.keep {r : Nat → Nat} {m M : Nat} {H0 H1 H' : AH} (hM : Merged r m H0 H H1 H') (hl : Lies r H0 H) (hm : m ≤ H0.size) (hk : KeepM m H0 H1) (hlow : Low M H)
    (hro : ∀ (i : Nat) (b0 : Blk), H0.get i = some b0 → b0.wr = false → i < m ∧ b0.cells.all (scS m) = true ∧ b0.mp = none) : KeepM M H H' := by
  have e : ∀ (i : Nat) (b0 : Blk), H0.get i = some b0 → b0.wr = false → rB (rr r m H.size) b0 = rB r b0 := fun i b0 hi hw =>
    rB_eq (m := m) (fun j hj => by simp [rr, hj]) (hro i b0 hi hw).2.1 (hro i b0 hi hw).2.2
  refine ⟨by rw [hM.size]; have := hlow.len; omega, ?_, ?_⟩
  · intro k b hkM hb hw
    have hkl := AH.get_lt hb
    by_cases hex : ∃ i, i < H0.size ∧ r i = k
    · obtain ⟨i, hi, rfl⟩ := hex
      obtain ⟨b0, h0⟩ := hl.full i hi
      have hb0 := hl.at_ i b0 h0
      rw [hb] at hb0
      injection hb0 with hb0
      subst hb0
      have hw0 : b0.wr = false := hw
      have him := (hro i b0 h0 hw0).1
      rw [hM.old i him, hk.ro i b0 him h0 hw0, Option.map_some, e i b0 h0 hw0]
    · rw [hM.far k hkl (fun i hi e => hex ⟨i, hi, e⟩)]; exact hb
  · intro k b hkb hw
    rcases hM.get hm hkb with ⟨_, _, hb⟩ | rfl | ⟨j, b1, hj, rfl, rfl⟩
    · exact ⟨hlow.ro k b hb hw, hb⟩
    · cases hw
    · obtain ⟨hjm, h0⟩ := hk.back j b1 hj hw
      have hb := hl.at_ j b1 h0
      have er : rr r m H.size j = r j := by simp [rr, hjm]
      rw [er, e j b1 h0 hw]
      exact ⟨hlow.ro (r j) _ hb hw, hb⟩

theorem exists_set (H : AH) (r : Nat → Nat) (x : Nat → Blk) : ∀ n, (∀ i, i < n → r i < H.size) → (∀ i j, i < n → j < n → r i = r j → i = j) →
    ∃ Hn : AH, Hn.size = H.size ∧ (∀ i, i < n → Hn.get (r i) = some (x i)) ∧ ∀ k, (∀ i, i < n → r i ≠ k) → Hn.get k = H.get k := by
  intro n
  induction n with
  | zero => intro _ _; exact ⟨H, rfl, fun i hi => by omega, fun _ _ => rfl⟩
  | succ n ih =>
    intro hlt hinj
    obtain ⟨Hn, h1, h2, h3⟩ := ih (fun i hi => hlt i (by omega)) (fun i j hi hj => hinj i j (by omega) (by omega))
    refine ⟨Hn.set (r n) (x n), h1, fun i hi => ?_, fun k hk => ?_⟩
    · rw [AH.get_set]
      by_cases hin : i = n
      · subst hin
        rw [if_pos ⟨rfl, by rw [h1]; exact hlt i (by omega)⟩]
      · rw [if_neg (fun e => hin (hinj n i (by omega) hi e.1).symm)]
        exact h2 i (by omega)
    · rw [AH.get_set, if_neg (fun e => hk n (by omega) e.1)]
      exact h3 k (fun i hi => hk i (by omega))
theorem exists_push (H : AH) (y : Nat → Blk) : ∀ p, ∃ Hp : AH, Hp.size = H.size + p ∧ (∀ k, k < H.size → Hp.get k = H.get k) ∧ ∀ j, j < p → Hp.get (H.size + j) = some (y j) := by
  intro p
  induction p with
  | zero => exact ⟨H, rfl, fun _ _ => rfl, fun j hj => by omega⟩
  | succ p ih =>
    obtain ⟨Hp, h1, h2, h3⟩ := ih
    refine ⟨Hp.push (y p), by rw [AH.size_push, h1]; omega, fun k hk => ?_, fun j hj => ?_⟩
    · rw [AH.get_push, if_neg (by omega)]; exact h2 k hk
    · rw [AH.get_push]
      by_cases hjp : j = p
      · subst hjp; rw [if_pos h1.symm]
      · rw [if_neg (by omega)]; exact h3 j (by omega)

theorem exists_merged {H0 H1 : AH} {r : Nat → Nat} {m : Nat} (hl : Lies r H0 H) (hm : m ≤ H0.size) (hm1 : m ≤ H1.size) (hf : ∀ i, i < H1.size → ∃ b, H1.get i = some b) : ∃ H', Merged r m H0 H H1 H' := by
  obtain ⟨Hn, a1, a2, a3⟩ := exists_set H r (fun i => if i < m then ((H1.get i).map (rB (rr r m H.size))).getD dead else dead) H0.size hl.lt hl.inj
  obtain ⟨Hp, b1, b2, b3⟩ := exists_push Hn (fun j => ((H1.get (m + j)).map (rB (rr r m H.size))).getD dead) (H1.size - m)
  refine ⟨Hp, by rw [b1, a1], fun i hi => ?_, fun k hk hn => ?_, fun i hi hi2 => ?_, fun i hi hi2 => ?_⟩
  · rw [b2 _ (by rw [a1]; exact hl.lt i (by omega)), a2 i (by omega), if_pos hi]
    obtain ⟨b, hb⟩ := hf i (by omega)
    rw [hb]; rfl
  · rw [b2 _ (by rw [a1]; exact hk), a3 k hn]
  · rw [b2 _ (by rw [a1]; exact hl.lt i hi2), a2 i hi2, if_neg (by omega)]
  · have h3 := b3 (i - m) (by omega)
    obtain ⟨b, hb⟩ := hf i hi2
    rw [a1, show m + (i - m) = i by omega, hb] at h3
    rw [h3, hb]; rfl

/-- WHAT WAS SHOWN OF A CALL IN A SMALL MEMORY HOLDS IN A GREATER ONE. -/
theorem Fun.embed {f : FuncId} {m M : Nat} {args0 : List Value} {H0 : AH} {Q0 : Out → AH → Prop} (h : Fun P m f args0 H0 Q0) {r : Nat → Nat} (hl : Lies r H0 H) (hm : m ≤ H0.size) (hlow : Low M H)
    (hro : ∀ (i : Nat) (b0 : Blk), H0.get i = some b0 → b0.wr = false → i < m ∧ b0.cells.all (scS m) = true ∧ b0.mp = none) (hargs0 : ∀ v ∈ args0, scV H0.size v = true)
    (hfull : ∀ o H1, Q0 o H1 → ∀ i, i < H1.size → ∃ b, H1.get i = some b) :
    Fun P M f (args0.map (rV r)) H (fun o H' => ∃ o0 H1, Q0 o0 H1 ∧ osc H1.size o0 ∧ m ≤ H1.size ∧ o = rO (rr r m H.size) o0 ∧ Merged r m H0 H H1 H') := by
  intro W0 S R σ w hR _ hk
  have he : (args0.map (rV r)).map (cV σ) = args0.map (cV fun i => σ (r i)) := by
    rw [List.map_map]
    exact List.map_congr_left fun v _ => cV_ren σ r v
  rw [he]
  refine h w (Own0 H0 fun i => σ (r i)) R (fun i => σ (r i)) w (hR.sub hl) hargs0 (fun o0 H1 hQ hos σ1 w1 hext hkp hr1 => ?_)
  obtain ⟨H', hM⟩ := exists_merged hl hm hkp.len (hfull o0 H1 hQ)
  obtain ⟨g1, g2, g3⟩ := hR.merge hl hm hr1 hext hkp hM
  have hr : ∀ i, i < H1.size → rr r m H.size i < H'.size := by
    intro i hi
    rw [hM.size]
    unfold rr
    split
    · have := hl.lt i (by omega); omega
    · omega
  have hend : ending (back m H.size σ σ1) (rO (rr r m H.size) o0) = ending σ1 o0 := by
    cases o0 with
    | ret v => simp only [rO, ending]; rw [cV_ren, cV_ext (n := H1.size) (σ := σ1) (fun i hi => g3 i hi) v hos]
    | pan v => simp only [rO, ending]; rw [cV_ren, cV_ext (n := H1.size) (σ := σ1) (fun i hi => g3 i hi) v hos]
  rw [← hend]
  refine hk _ H' ⟨o0, H1, hQ, hos, hkp.len, rfl, hM⟩ ?_ _ w1 (g2.mono hlow.len) (hM.keep hl hm hkp hlow hro) g1
  cases o0 with
  | ret v => exact scV_ren hr hos
  | pan v => exact scV_ren hr hos
end
end Go.RX
