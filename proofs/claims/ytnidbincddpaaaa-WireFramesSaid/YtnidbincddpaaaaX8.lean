/- Aggregates that are built, rows that grow; and each operation of the executor is the machine's. -/
import Derived.Test.YtnidbincddpaaaaX7
import Derived.Lib.AppendStr
namespace Go.RX
open Go Go.Proofs.Ytnidbincddpaaaa Go.RowKit

section
variable {P : Program} {W0 w : World} {S : Nat → Prop} {σ : Nat → Loc} {H : AH}

theorem foldl_set_map (f : Value → Value) (off : Nat) : ∀ (l : List Value) (i : Nat) (cs : Array Value),
    ((l.map f).zipIdx i).foldl (fun cs (c, j) => cs.setIfInBounds (off + j) c) (cs.map f) = ((l.zipIdx i).foldl (fun cs (c, j) => cs.setIfInBounds (off + j) c) cs).map f := by
  intro l
  induction l with
  | nil => intro i cs; rfl
  | cons v r ih =>
    intro i cs
    simp only [List.map_cons, List.zipIdx_cons, List.foldl_cons]
    rw [← ih (i + 1) (cs.setIfInBounds (off + i) v)]
    congr 1
    apply Array.toList_inj.1
    simp

theorem fill_conc {n : Nat} (place : Nat → Option (Nat × Nat)) : ∀ (parts : List (Nat × Value)) (cells cs : Array Value), Instr.fill place cells parts = some cs →
    (∀ p ∈ parts, p.2.cells.toList.all (scS n) = true) → Instr.fill place (cells.map (cS σ)) (parts.map fun p => (p.1, cV σ p.2)) = some (cs.map (cS σ)) := by
  intro parts
  induction parts with
  | nil => intro cells cs h _; simp [Instr.fill] at h ⊢; rw [h]
  | cons p r ih =>
    intro cells cs h hs
    obtain ⟨i, v⟩ := p
    have hv := hs (i, v) (by simp)
    have hc := cV_cells σ v n hv
    have hsz : (cV σ v).cells.size = v.cells.size := by
      have := congrArg List.length hc
      simpa using this
    unfold Instr.fill at h
    simp only [List.map_cons]
    unfold Instr.fill
    split at h
    · cases h
    · rename_i off size hp
      simp only
      rw [hsz, Array.size_map]
      split at h
      · cases h
      · rename_i hcond
        rw [if_neg hcond]
        have := ih _ _ h (fun q hq => hs q (by simp [hq]))
        rw [← this]
        congr 1
        rw [← Array.foldl_toList, ← Array.foldl_toList, Array.toList_zipIdx, Array.toList_zipIdx, hc]
        exact foldl_set_map (cS σ) off v.cells.toList 0 cells

theorem foldl_set_size (off : Nat) : ∀ (l : List (Value × Nat)) (cs : Array Value), (l.foldl (fun cs (c, j) => cs.setIfInBounds (off + j) c) cs).size = cs.size := by
  intro l
  induction l with
  | nil => intro cs; rfl
  | cons x l ih => intro cs; rw [List.foldl_cons, ih]; simp

theorem foldl_set_sc {n : Nat} (off : Nat) : ∀ (l : List (Value × Nat)) (cs : Array Value), (∀ p ∈ l, scS n p.1 = true) → cs.toList.all (scS n) = true →
    (l.foldl (fun cs (c, j) => cs.setIfInBounds (off + j) c) cs).toList.all (scS n) = true := by
  intro l
  induction l with
  | nil => intro cs _ h; exact h
  | cons x l ih =>
    intro cs hl h
    rw [List.foldl_cons]
    refine ih _ (fun p hp => hl p (by simp [hp])) ?_
    obtain ⟨c, j⟩ := x
    refine List.all_eq_true.2 fun u hu => ?_
    simp only [Array.toList_setIfInBounds] at hu
    rcases List.mem_or_eq_of_mem_set hu with hu | rfl
    · exact List.all_eq_true.1 h u hu
    · exact hl (u, j) (by simp)

theorem fill_sc {n : Nat} (place : Nat → Option (Nat × Nat)) : ∀ (parts : List (Nat × Value)) (cells cs : Array Value), Instr.fill place cells parts = some cs →
    (∀ p ∈ parts, p.2.cells.toList.all (scS n) = true) → cells.toList.all (scS n) = true → cs.toList.all (scS n) = true := by
  intro parts
  induction parts with
  | nil => intro cells cs h _ hc; simp only [Instr.fill, Option.some.injEq] at h; rw [← h]; exact hc
  | cons p r ih =>
    intro cells cs h hs hc
    obtain ⟨i, v⟩ := p
    have hv := hs (i, v) (by simp)
    unfold Instr.fill at h
    split at h
    · cases h
    · rename_i off size hp
      split at h
      · cases h
      · refine ih _ _ h (fun q hq => hs q (by simp [hq])) ?_
        rw [← Array.foldl_toList, Array.toList_zipIdx]
        refine foldl_set_sc off _ _ (fun q hq => ?_) hc
        have := List.mem_zipIdx hq
        obtain ⟨_, _, h3⟩ := this
        have : q.1 ∈ v.cells.toList := by rw [h3]; exact List.getElem_mem _
        exact List.all_eq_true.1 hv _ this

theorem fill_size (place : Nat → Option (Nat × Nat)) : ∀ (parts : List (Nat × Value)) (cells cs : Array Value), Instr.fill place cells parts = some cs → cs.size = cells.size := by
  intro parts
  induction parts with
  | nil => intro cells cs h; simp only [Instr.fill, Option.some.injEq] at h; rw [h]
  | cons p r ih =>
    intro cells cs h
    obtain ⟨i, v⟩ := p
    unfold Instr.fill at h
    split at h
    · cases h
    · split at h
      · cases h
      · rw [ih _ _ h, ← Array.foldl_toList, foldl_set_size]

theorem esz_of {e : TypeId} {ie : TypeInfo} (hi : P.info? e = some ie) : esz P e = ie.size := by simp [esz, hi]

/-- Where the new row lies, and what it holds: H1 has no block any more at the row that is appended to. -/
theorem append_put {H1 : AH} (h : Rel P W0 S σ H1 w) {e : TypeId} {ie : TypeInfo} (hi : P.info? e = some ie) (hp : 0 < ie.size)
    {vs v' : Value} {w' : World} {n m : Nat} {xs new : List Value} (hxs : xs.all (scS H1.length) = true)
    (hr : ∀ k, vs.ownBlock = some k → (S k ∨ W0.heap.size ≤ k) ∧ ∀ (i : Nat) (b : Blk), H1[i]? = some b → b.live = true → (σ i).blk ≠ k)
    (hnsc : new.all (scS H1.length) = true) (hm : 0 < m)
    (hown' : w'.ownsRow 0 e ie.size v' (n + m) (xs.map (cS σ) ++ new.map (cS σ))) (hg : w.grownBy w' vs.ownBlock) (hat : v'.ownBlock = vs.ownBlock ∨ v'.ownBlock = some w.heap.size) :
    ∃ σ', Ext H1.length σ σ' ∧ Rel P W0 S σ' (H1 ++ [⟨xs ++ new, e, true, true⟩]) w' ∧ v' = cV σ' (.slice (some ⟨H1.length, 0, none⟩) (n + m) (n + m)) := by
  rcases hown'.2 with ⟨_, h0⟩ | ⟨g, cap, cur, rfl, _, hgc, hcap, hmax, hcs, htake⟩
  · omega
  · have hgS : S g ∨ W0.heap.size ≤ g := by
      rcases hat with h2 | h2
      · exact (hr g (by rw [← h2]; rfl)).1
      · simp only [Value.ownBlock, Option.some.injEq] at h2; rw [h2]; exact .inr h.fr.size
    have hglive : ∀ (i : Nat) (b : Blk), H1[i]? = some b → b.live = true → (σ i).blk ≠ g := by
      intro i b hib hlv
      rcases hat with h2 | h2
      · exact (hr g (by rw [← h2]; rfl)).2 i b hib hlv
      · simp only [Value.ownBlock, Option.some.injEq] at h2
        have := h.lt i b hib hlv
        omega
    have hR := h.push (T := fun k => vs.ownBlock = some k) (w' := w') ⟨hg.os, hg.tape, hg.output, hg.size, fun k hk hn => hg.block k hk (fun e => hn e.symm)⟩
      (fun i b hib hlv he => (hr _ he).2 i b hib hlv rfl) (fun k hk => (hr k hk).1) g (cap - (n + m)) (xs ++ new) (cur.toList.drop ((n + m) * ie.size)) e hglive hgS
      (Array.getElem?_eq_some_iff.1 hgc).1 (by simp only [List.all_append, hxs, hnsc, Bool.and_self])
      (by rw [List.length_drop, esz_of hi, Array.length_toList, hcs, Nat.sub_mul]) (fun _ k hk => by
        rw [esz_of hi] at hk
        have hlen : (xs ++ new).length = (n + m) * ie.size := by
          have := hown'.1
          simpa using this
        rw [hlen] at hk
        have := Nat.eq_of_mul_eq_mul_right hp hk
        omega)
      (by
        rw [hgc]
        congr 2
        apply Array.toList_inj.1
        show cur.toList = (xs ++ new).map (cS σ) ++ cur.toList.drop ((n + m) * ie.size)
        rw [List.map_append, ← htake, List.take_append_drop])
    refine ⟨_, up_ext σ _ _, hR, ?_⟩
    simp only [cV, cT, cS, cA, up_at]
    congr 1
    omega

/-- The append itself. -/
theorem append_core {H1 : AH} (h : Rel P W0 S σ H1 w) {t e : TypeId} {ie : TypeInfo} {z : Value} (hu : P.underlying t = some (.slice e)) (hi : P.info? e = some ie) (hz : ie.zero = some z) (hzs : z.cells.size = ie.size) (hp : 0 < ie.size)
    {vs : Value} {n : Nat} {xs : List Value} (hown : w.ownsRow 0 e ie.size vs n (xs.map (cS σ))) (hxs : xs.all (scS H1.length) = true)
    (hr : ∀ k, vs.ownBlock = some k → (S k ∨ W0.heap.size ≤ k) ∧ ∀ (i : Nat) (b : Blk), H1[i]? = some b → b.live = true → (σ i).blk ≠ k)
    {j off m c : Nat} {new : List Value} (hl : new.length = m * ie.size) (hnews : ∀ k u, new[k]? = some u → w.cell? ⟨(σ j).blk, (σ j).off + off + k, none⟩ = some (cS σ u)) (hnsc : new.all (scS H1.length) = true)
    (hb : (n + m) * ie.bytes ≤ 1000000000) (hb2 : n + m ≤ 1000000000) (hm : 0 < m) (T : TypeId) :
    ∃ σ' w', Ext H1.length σ σ' ∧ Rel P W0 S σ' (H1 ++ [⟨xs ++ new, e, true, true⟩]) w' ∧
      (Builtin.append_ #[t, t] T #[vs, .slice (some ⟨(σ j).blk, (σ j).off + off, none⟩) m c]).run P w = .ok (cV σ' (.slice (some ⟨H1.length, 0, none⟩) (n + m) (n + m))) w' := by
  obtain ⟨v', w', hrun, hown', hg, _, hat⟩ := run_append_own_at (P := P) w 0 t T e ie z ie.size ie.bytes hu hi hz rfl rfl hzs hp vs n _ hown ⟨(σ j).blk, (σ j).off + off, none⟩ m c (new.map (cS σ)) (by simpa using hl)
    (fun k u hk => by
      rw [List.getElem?_map] at hk
      cases hn : new[k]? with
      | none => rw [hn] at hk; cases hk
      | some x =>
        rw [hn] at hk
        injection hk with hk
        rw [add_at, ← hk]
        exact hnews k x hn)
    (fun u hu => by
      obtain ⟨x, hx, rfl⟩ := List.mem_map.1 hu
      exact cS_one σ x H1.length (List.all_eq_true.1 hnsc x hx))
    (by unfold maxLen; omega) (by omega) (by omega)
  obtain ⟨σ', h1, h2, h3⟩ := append_put h hi hp hxs hr hnsc hm hown' hg hat
  exact ⟨σ', w', h1, h2, by rw [hrun, h3]⟩

theorem strCells_conc (x : ByteArray) (τ : Nat → Loc) : (Go.Lib.strCells x).map (cS τ) = Go.Lib.strCells x := by
  simp [Go.Lib.strCells, cS]

/-- The same with a string's bytes. -/
theorem append_core_str {H1 : AH} (h : Rel P W0 S σ H1 w) {t t' e : TypeId} {ie : TypeInfo} (hu : P.underlying t = some (.slice e)) (hu' : P.underlying t' = some .string) (hi : P.info? e = some ie) (hz : ie.zero = some (.int .u8 0)) (h1s : ie.size = 1) (h1b : ie.bytes = 1)
    {vs : Value} {n : Nat} {xs : List Value} (hown : w.ownsRow 0 e 1 vs n (xs.map (cS σ))) (hxs : xs.all (scS H1.length) = true)
    (hr : ∀ k, vs.ownBlock = some k → (S k ∨ W0.heap.size ≤ k) ∧ ∀ (i : Nat) (b : Blk), H1[i]? = some b → b.live = true → (σ i).blk ≠ k)
    (x : ByteArray) (hb2 : n + x.size ≤ 1000000000) (hm : 0 < x.size) (T : TypeId) :
    ∃ σ' w', Ext H1.length σ σ' ∧ Rel P W0 S σ' (H1 ++ [⟨xs ++ Go.Lib.strCells x, e, true, true⟩]) w' ∧
      (Builtin.append_ #[t, t'] T #[vs, .string x]).run P w = .ok (cV σ' (.slice (some ⟨H1.length, 0, none⟩) (n + x.size) (n + x.size))) w' := by
  obtain ⟨v', w', hrun, hown', hg, _⟩ := Go.Lib.run_append_own_string (P := P) w 0 t t' T e ie hu hu' hi hz h1s h1b vs n _ hown x (by unfold maxLen; omega) (by omega) (by omega)
  have hat : v'.ownBlock = vs.ownBlock ∨ v'.ownBlock = some w.heap.size := by
    rcases hown.2 with ⟨rfl, rfl⟩ | ⟨g, cap, cur, rfl, hbg, hgg, hnc, hcm, hcs, htake⟩
    · have hr := run_append_nil_string (P := P) w t t' T e ie (.int .u8 0) hu hu' hi hz x (by omega) (by omega) (by rw [h1b]; omega)
      rw [hrun] at hr
      injection hr with h1 h2
      rw [h1]; exact .inr rfl
    · by_cases hroom : n + x.size ≤ cap
      · have hcs' : cur.size = cap := by simpa using hcs
        have hr := Go.Lib.run_append_room_string (P := P) w t t' T e ie hu hu' hi h1s g n cap cur hgg x hroom (by omega)
        rw [hrun] at hr
        injection hr with h1 h2
        rw [h1]; exact .inl rfl
      · have hr := Go.Lib.run_append_grow_string (P := P) w t t' T e ie (.int .u8 0) hu hu' hi hz ⟨g, 0, none⟩ n cap _ (by rw [h1s]; exact hown.1) (hown.cells (g := g) rfl) x (by omega) (by omega) (by rw [h1b]; exact growslice_fits (by omega) (by omega))
        rw [hrun] at hr
        injection hr with h1 h2
        rw [h1]; exact .inr rfl
  obtain ⟨σ', h1, h2, h3⟩ := append_put (new := Go.Lib.strCells x) h hi (by omega) hxs hr (by
    refine List.all_eq_true.2 fun u hu => ?_
    simp only [Go.Lib.strCells, List.mem_map] at hu
    obtain ⟨b, _, rfl⟩ := hu
    rfl) hm (by rw [strCells_conc, h1s]; exact hown') hg hat
  exact ⟨σ', w', h1, h2, by rw [hrun, h3]⟩

theorem kill_get {H : AH} {i : Nat} {b : Blk} {j : Nat} {b' : Blk} (hj : (List.set H i { b with live := false })[j]? = some b') (hl : b'.live = true) : j ≠ i ∧ H[j]? = some b' := by
  rw [List.getElem?_set] at hj
  split at hj
  · split at hj
    · injection hj with hj; subst hj; cases hl
    · cases hj
  · rename_i hne; exact ⟨fun e => hne e.symm, hj⟩

theorem ld_cells (h : Rel P W0 S σ H w) {j off n : Nat} {l : List Value} (hl : ld H j off n = some l) : ∀ k u, l[k]? = some u → w.cell? ⟨(σ j).blk, (σ j).off + off + k, none⟩ = some (cS σ u) := by
  intro k u hk
  obtain ⟨b, hb, hlv, hlen, hj⟩ := ld_some hl
  have hkn : k < n := by have := (List.getElem?_eq_some_iff.1 hk).1; omega
  rw [Nat.add_assoc]
  exact h.cell hb hlv ((hj k hkn).trans hk)

theorem aappend_run (h : Rel P W0 S σ H w) {t : TypeId} {s x v : Value} {H' : AH} (ha : aappend P H t s x = some (v, H')) (hs : scV H.length s = true) (hx : scV H.length x = true) (T : TypeId) :
    ∃ σ' w', Ext H.length σ σ' ∧ Keep H H' ∧ Rel P W0 S σ' H' w' ∧ scV H'.length v = true ∧ (Builtin.append_ #[t, t] T #[cV σ s, cV σ x]).run P w = .ok (cV σ' v) w' := by
  unfold aappend at ha
  split at ha
  · rename_i e hu
    split at ha
    · rename_i ie hi
      split at ha
      · rename_i z hz
        split at ha
        · rename_i hsz
          obtain ⟨hzs, hp⟩ := hsz
          split at ha
          · split at ha
            · rename_i a n c q d hnc
              injection ha with ha
              injection ha with e1 e2
              subst e1 e2
              refine ⟨σ, w, Ext.refl _ _, Keep.refl _, h, hs, ?_⟩
              have hsize : ie.size = ie.size := rfl
              have hs0 : (sizeOf e).run P w = .ok ie.size w := by simp [sizeOf, typeInfo, hi]
              cases a <;> cases q <;> simp [Builtin.append_, run_underlying hu, cV, cT, cS, hs0, Builtin.lenOf, Builtin.firstCells, loadCells, loadCellsFrom, storeCells, hnc, Nat.le_trans hnc (Nat.le_add_right _ _)]
            · cases ha
          · split at ha
            · split at ha
              · rename_i j off m c hm0 _ new hl hb
                injection ha with ha
                injection ha with e1 e2
                subst e1 e2
                obtain ⟨σ', w', h1, h2, h3⟩ := append_core h hu hi hz hzs hp (vs := .slice none 0 0) (n := 0) (xs := []) (World.ownsRow_nil _ _ _ _) rfl (fun k hk => by simp [Value.ownBlock] at hk)
                  (j := j) (off := off) (m := m) (c := c + (σ j).ext) (new := new) (by obtain ⟨_, _, _, h4, _⟩ := ld_some hl; exact h4) (ld_cells h hl) (ld_sc h hl) (by rw [Nat.zero_add]; exact hb.1) (by omega) (Nat.pos_of_ne_zero hm0) T
                rw [Nat.zero_add, List.nil_append] at *
                exact ⟨σ', w', h1, (Keep.refl _).push _ rfl, h2, by simp [scV, scT, scS], h3⟩
              · cases ha
            · cases ha
          · split at ha
            · split at ha
              · rename_i i n c j off m q hm0 _ _ new b hl hbi hcond
                obtain ⟨c1, c2, c3, c4, c5, c6, c7⟩ := hcond
                injection ha with ha
                injection ha with e1 e2
                subst e1 e2
                subst c4
                obtain ⟨g1, g2, g3, tl, g4, g5⟩ := h.wb i b hbi c1 c2
                rw [c3] at g4 g5
                rw [c3, esz_of hi] at g3
                rw [esz_of hi] at g4
                have hk := h.kill hbi
                have hlen : (List.set H i { b with live := false }).length = H.length := by simp
                have hown : w.ownsRow 0 e ie.size (.slice (some ⟨(σ i).blk, 0, none⟩) n (n + (σ i).ext)) n (b.cells.map (cS σ)) := by
                  refine ⟨by simpa using c5, .inr ⟨(σ i).blk, n + (σ i).ext, _, rfl, Nat.zero_le _, g5, by omega, g3 hp n c5, ?_, ?_⟩⟩
                  · show (b.cells.map (cS σ) ++ tl).length = _
                    rw [List.length_append, List.length_map, c5, g4, Nat.add_mul]
                  · show (b.cells.map (cS σ) ++ tl).take (n * ie.size) = _
                    rw [List.take_append_of_le_length (by simp [c5]), List.take_of_length_le (by simp [c5])]
                obtain ⟨σ', w', h1, h2, h3⟩ := append_core hk hu hi hz hzs hp hown (by rw [hlen]; exact h.sc i b hbi) (fun k hk2 => by
                    simp only [Value.ownBlock, Option.some.injEq] at hk2
                    subst hk2
                    refine ⟨g2, fun i' b' hi' hl' => ?_⟩
                    obtain ⟨hne, hi2⟩ := kill_get hi' hl'
                    exact (h.inj i i' b b' hbi hi2 c1 hl' c2 (Ne.symm hne)).symm)
                  (j := j) (off := off) (m := m) (c := q + (σ j).ext) (new := new) (by obtain ⟨_, _, _, h4, _⟩ := ld_some hl; exact h4) (ld_cells h hl) (by rw [hlen]; exact ld_sc h hl) c6 c7 (Nat.pos_of_ne_zero hm0) T
                rw [hlen] at h1 h3
                refine ⟨σ', w', h1, (Keep.set (x := { b with live := false }) hbi c2 c2).push _ rfl, h2, by simp [scV, scT, scS], ?_⟩
                rw [← h3]
                simp only [cV, cT, cS, cA, g1, Nat.add_zero]
              · cases ha
            · cases ha
          · cases ha
        · cases ha
      · cases ha
    · cases ha
  · cases ha

theorem aappends_run (h : Rel P W0 S σ H w) {t t' : TypeId} {s v : Value} {x : ByteArray} {H' : AH} (ha : aappends P H t t' s x = some (v, H')) (hs : scV H.length s = true) (T : TypeId) :
    ∃ σ' w', Ext H.length σ σ' ∧ Keep H H' ∧ Rel P W0 S σ' H' w' ∧ scV H'.length v = true ∧ (Builtin.append_ #[t, t'] T #[cV σ s, .string x]).run P w = .ok (cV σ' v) w' := by
  unfold aappends at ha
  split at ha
  · rename_i e hu hu'
    split at ha
    · rename_i ie hi
      split at ha
      · rename_i hz
        split at ha
        · rename_i hsz
          obtain ⟨h1s, h1b, hm⟩ := hsz
          split at ha
          · split at ha
            · rename_i hb
              injection ha with ha
              injection ha with e1 e2
              subst e1 e2
              obtain ⟨σ', w', h1, h2, h3⟩ := append_core_str h hu hu' hi hz h1s h1b (vs := .slice none 0 0) (n := 0) (xs := []) (World.ownsRow_nil _ _ _ _) rfl (fun k hk => by simp [Value.ownBlock] at hk) x (by omega) hm T
              rw [Nat.zero_add, List.nil_append] at *
              exact ⟨σ', w', h1, (Keep.refl _).push _ rfl, h2, by simp [scV, scT, scS], h3⟩
            · cases ha
          · split at ha
            · rename_i i n c _ b hbi
              split at ha
              · rename_i hcond
                obtain ⟨c1, c2, c3, c4, c5, c6⟩ := hcond
                injection ha with ha
                injection ha with e1 e2
                subst e1 e2
                subst c4
                obtain ⟨g1, g2, g3, tl, g4, g5⟩ := h.wb i b hbi c1 c2
                rw [c3] at g4 g5
                rw [c3, esz_of hi] at g3
                rw [esz_of hi] at g4
                have hk := h.kill hbi
                have hlen : (List.set H i { b with live := false }).length = H.length := by simp
                have hown : w.ownsRow 0 e 1 (.slice (some ⟨(σ i).blk, 0, none⟩) n (n + (σ i).ext)) n (b.cells.map (cS σ)) := by
                  rw [h1s] at c5 g4 g3
                  refine ⟨by simpa using c5, .inr ⟨(σ i).blk, n + (σ i).ext, _, rfl, Nat.zero_le _, g5, by omega, g3 (by omega) n c5, ?_, ?_⟩⟩
                  · show (b.cells.map (cS σ) ++ tl).length = _
                    rw [List.length_append, List.length_map, c5, g4, Nat.add_mul]
                  · show (b.cells.map (cS σ) ++ tl).take (n * 1) = _
                    rw [List.take_append_of_le_length (by simp [c5]), List.take_of_length_le (by simp [c5])]
                obtain ⟨σ', w', h1, h2, h3⟩ := append_core_str hk hu hu' hi hz h1s h1b hown (by rw [hlen]; exact h.sc i b hbi) (fun k hk2 => by
                    simp only [Value.ownBlock, Option.some.injEq] at hk2
                    subst hk2
                    refine ⟨g2, fun i' b' hi' hl' => ?_⟩
                    obtain ⟨hne, hi2⟩ := kill_get hi' hl'
                    exact (h.inj i i' b b' hbi hi2 c1 hl' c2 (Ne.symm hne)).symm) x c6 hm T
                rw [hlen] at h1 h3
                refine ⟨σ', w', h1, (Keep.set (x := { b with live := false }) hbi c2 c2).push _ rfl, h2, by simp [scV, scT, scS], ?_⟩
                rw [← h3]
                simp only [cV, cT, cS, cA, g1, Nat.add_zero]
              · cases ha
            · cases ha
          · cases ha
        · cases ha
      · cases ha
    · cases ha
  · cases ha
end
end Go.RX
