/- Conversions, indexes, slices, aggregates and rows that grow: the executor's are the machine's. -/
import Derived.Test.YtnidbincddpaaaaE4
namespace Go.RX
open Go Go.RowKit

section
variable {P : Program} {W0 w : World} {S : Nat → Prop} {σ : Nat → Loc} {H : AH}

theorem bytesOf_run : ∀ (l : List Value) (s s' : ByteArray), bytesOf l s = some s' → ∀ w : World,
    ((forIn (l.map (cS σ)) s fun c s => match c with
      | .int .u8 n => pure (ForInStep.yield (s.push (UInt8.ofNat n.toNat)))
      | _ => do
        stuck "bytesToString: byte expected"
        pure (ForInStep.yield s) : Sem ByteArray)).run P w = .ok s' w := by
  intro l
  induction l with
  | nil => intro s s' h w; simp [bytesOf] at h; subst h; simp
  | cons v r ih =>
    intro s s' h w
    unfold bytesOf at h
    split at h
    · rename_i heq; cases heq
    · rename_i n q heq
      injection heq with e1 e2
      subst e1 e2
      have := ih _ _ h w
      simp only [List.map_cons, cS, List.forIn_cons] at this ⊢
      simpa using this
    · cases h

theorem reach_spot (h : Spots σ H) {a : Addr} (hr : reachB H a = true) (n c : Nat) : ∃ m, cL σ a n c = .slice (some ⟨(σ a.block).blk, (σ a.block).off + a.off, none⟩) n m ∧ (n ≤ c → n ≤ m) := by
  unfold reachB at hr
  split at hr
  · rename_i hs
    exact ⟨c + (σ a.block).ext, by simp only [cL, hs], fun h => by omega⟩
  · rename_i hs
    split at hr
    · rename_i b hb
      exact ⟨c, by simp only [cL, hs, h _ b hb hr], fun h => h⟩
    · cases hr
  · cases hr

theorem aconv_run (hsp : Spots σ H) {src dst : TypeId} {x v : Value} (h : ∀ a n c, x = .slice (some a) n c → Known σ H w a.block) (ha : aconv P H src dst x = some v) :
    (convert src dst (cV σ x)).run P w = .ok (cV σ v) w ∧ scV H.size v = true := by
  unfold aconv at ha
  split at ha
  · rename_i hs hd
    injection ha with ha; subst ha
    refine ⟨?_, rfl⟩
    simp [convert, run_underlying hs, run_underlying hd, cV, cT, cS, Conv.intToInt]
  · rename_i e _ _ hs hd
    split at ha
    · rename_i he
      injection ha with ha; subst ha
      refine ⟨?_, rfl⟩
      simp [convert, run_underlying hs, run_underlying hd, run_underlying he, cV, cT, cS, Conv.bytesToString]
    · cases ha
  · rename_i e a n c hs hd
    split at ha
    · rename_i he
      split at ha
      · rename_i hn
        subst hn
        injection ha with ha; subst ha
        refine ⟨?_, rfl⟩
        obtain ⟨b, m, hb⟩ := cL_slice σ a 0 c
        simp [convert, run_underlying hs, run_underlying hd, run_underlying he, cV, cT, cS, hb, Conv.bytesToString, loadCells, loadCellsFrom]
      · cases hr : reachB H a with
        | false => rw [hr, cond_false] at ha; cases ha
        | true =>
          rw [hr, cond_true] at ha
          split at ha
          · rename_i l hl
            split at ha
            · rename_i s hb
              injection ha with ha; subst ha
              refine ⟨?_, rfl⟩
              have hrun := bytesOf_run (P := P) (σ := σ) l _ _ hb w
              have hld := ld_run (P := P) (h _ _ _ rfl) hl
              obtain ⟨m, hm, _⟩ := reach_spot hsp hr n c
              simp only [convert, Sem.run_bind, run_underlying hs, run_underlying hd, run_underlying he, cV, cT, cS, hm, Result.andThen_ok, Conv.bytesToString, hld]
              simp only [List.forIn_toArray]
              exact (congrArg (fun r : Result ByteArray => r.andThen fun a w' => Sem.run P (pure (Value.string a)) w') hrun).trans rfl
            · cases ha
          · cases ha
    · cases ha
  · rename_i hs hd
    injection ha with ha; subst ha
    refine ⟨?_, rfl⟩
    simp [convert, run_underlying hs, run_underlying hd, cV, cT, cS]
  · cases ha

theorem scV_ptr {n i o : Nat} : scV n (.pointer (some ⟨i, o, none⟩)) = true ↔ i < n := ble_lt'
theorem scV_sl {n m c : Nat} {a : Addr} : scV n (.slice (some a) m c) = true ↔ a.block < n := ble_lt'

theorem aindexAddr_run (h : Spots σ H) {t : TypeId} {x ix v : Value} (ha : aindexAddr P H t x ix = some v) (hx : scV H.size x = true) :
    (Instr.indexAt t (cV σ x) (cV σ ix)).run P w = .ok (cV σ v) w ∧ scV H.size v = true := by
  unfold aindexAddr at ha
  split at ha
  · rename_i e a l c k q hu
    split at ha
    · rename_i hk
      cases hr : reachB H a with
      | false => rw [hr, cond_false] at ha; cases ha
      | true =>
        rw [hr, cond_true] at ha
        split at ha
        · rename_i s hs
          injection ha with ha; subst ha
          have hx' := scV_sl.1 hx
          obtain ⟨m, hm, _⟩ := reach_spot h hr l c
          refine ⟨?_, scV_ptr.2 hx'⟩
          have hk2 : 0 ≤ q ∧ q < (l : Int) := hk
          simp only [Instr.indexAt, cV, cT, cS, hm, asIntOf, Sem.run_bind, Sem.run_pure, Result.andThen_ok, run_underlying hu]
          simp only [hk2, and_self, if_true, Sem.run_bind, sizeB_run hs w, Sem.run_pure, Result.andThen_ok, cA, add_at, Nat.add_assoc]
        · cases ha
    · cases ha
  · rename_i l e i off k q hu
    split at ha
    · rename_i hk
      split at ha
      · rename_i s hs
        injection ha with ha; subst ha
        have hx' := scV_ptr.1 hx
        refine ⟨?_, scV_ptr.2 hx'⟩
        have hk2 : 0 ≤ q ∧ q < (l : Int) := hk
        simp only [Instr.indexAt, cV, cT, cS, cA, asIntOf, Sem.run_bind, Sem.run_pure, Result.andThen_ok, run_underlying hu, Instr.sureAddr]
        simp only [hk2, and_self, if_true, Sem.run_bind, sizeB_run hs w, Sem.run_pure, Result.andThen_ok, add_at, Nat.add_assoc]
      · cases ha
    · cases ha
  · cases ha

theorem aindex_run {n : Nat} {t : TypeId} {x ix v : Value} (ha : aindex P t x ix = some v) (hx : scV n x = true) (w : World) :
    (Instr.index t (cV σ x) (cV σ ix)).run P w = .ok (cV σ v) w ∧ scV n v = true := by
  unfold aindex at ha
  split at ha
  · rename_i len e cs k q hu
    split at ha
    · rename_i hk
      split at ha
      · rename_i s hs
        have hxs : cs.toList.all (scS n) = true := hx
        obtain ⟨h1, h2⟩ := partB_conc (σ := σ) hxs ha
        refine ⟨?_, h2⟩
        simp only [Instr.index, cV, cT, cS, asIntOf, Sem.run_bind, Sem.run_pure, Result.andThen_ok, run_underlying hu]
        simp only [hk, and_self, if_true, Sem.run_bind, sizeB_run hs w, Result.andThen_ok]
        exact part_run h1 w
      · cases ha
    · cases ha
  · rename_i s k q hu
    split at ha
    · rename_i hk
      split at ha
      · rename_i b hb
        injection ha with ha; subst ha
        refine ⟨?_, rfl⟩
        simp [Instr.index, cV, cT, cS, asIntOf, run_underlying hu, hk, hb]
      · cases ha
    · cases ha
  · cases ha

theorem afield_run {n : Nat} {t : TypeId} {x v : Value} {f : Nat} (ha : afield P t x f = some v) (hx : scV n x = true) (w : World) :
    (Instr.field t (cV σ x) f).run P w = .ok (cV σ v) w ∧ scV n v = true := by
  unfold afield at ha
  split at ha
  · rename_i fields cs hu
    split at ha
    · rename_i fd hf
      have hxs : cs.toList.all (scS n) = true := hx
      obtain ⟨h1, h2⟩ := partB_conc (σ := σ) hxs ha
      refine ⟨?_, h2⟩
      simp only [Instr.field, cV, cT, cS, Sem.run_bind, Sem.run_pure, Result.andThen_ok, run_underlying hu, hf, asAgg]
      exact part_run h1 w
    · cases ha
  · cases ha

theorem alen_run {n : Nat} {t : TypeId} {x v : Value} (ha : alen P t x = some v) (w : World) (T : TypeId) :
    (Builtin.len_ #[t] T #[cV σ x]).run P w = .ok (cV σ v) w ∧ scV n v = true := by
  unfold alen at ha
  split at ha
  · rename_i s hu
    injection ha with ha; subst ha
    exact ⟨by simp [Builtin.len_, run_underlying hu, cV, cT, cS, goInt], rfl⟩
  · rename_i m e hu
    injection ha with ha; subst ha
    exact ⟨by simp [Builtin.len_, run_underlying hu, cV, cT, cS, goInt], rfl⟩
  · rename_i e a m c hu
    injection ha with ha; subst ha
    obtain ⟨o, m', hm⟩ := cV_slice σ a m c
    refine ⟨?_, rfl⟩
    rw [hm]
    show _ = Result.ok (Value.int .i64 m) w
    simp [Builtin.len_, run_underlying hu, goInt]
  · cases ha

theorem abound_run {x : Option Value} {top dflt r : Nat} (h : abound x top dflt = some r) : x = none ∧ r = dflt ∨ ∃ k i, x = some (.int k i) ∧ 0 ≤ i ∧ i ≤ top ∧ r = i.toNat := by
  unfold abound at h
  split at h
  · injection h with h; exact .inl ⟨rfl, h.symm⟩
  · split at h
    · rename_i hk
      injection h with h
      exact .inr ⟨_, _, rfl, hk.1, hk.2, h.symm⟩
    · cases h
  · cases h

theorem bound_run {k : IntKind} {i : Int} {y : Nat} (h0 : 0 ≤ i) (h1 : i ≤ y) (code : BoundsCode) (w : World) : (Instr.sliceBound (.int k i) y code).run P w = .ok i.toNat w := by
  simp [Instr.sliceBound, asIntOf, h0, h1]

theorem bounds_run {lo hi : Option Value} {len cap h l top : Nat} {isSlice : Bool} (hh : abound hi top len = some h) (hl : abound lo h 0 = some l) (htop : top ≤ cap) (w : World) :
    (Instr.sliceBounds isSlice len cap (lo.map (cV σ)) (hi.map (cV σ)) none).run P w = .ok (l, h, cap) w := by
  rcases abound_run hh with ⟨rfl, rfl⟩ | ⟨k, i, rfl, h0, h1, rfl⟩ <;> rcases abound_run hl with ⟨rfl, rfl⟩ | ⟨k', i', rfl, h0', h1', rfl⟩
  · simp [Instr.sliceBounds]
  · simp [Instr.sliceBounds, cV, cT, cS, bound_run h0' h1']
  · simp [Instr.sliceBounds, cV, cT, cS, bound_run h0 (show i ≤ (cap : Int) by omega)]
  · simp [Instr.sliceBounds, cV, cT, cS, bound_run h0 (show i ≤ (cap : Int) by omega), bound_run h0' h1']
theorem bounds_run3 {lo : Option Value} {hi mx : Value} {len cap h l m top : Nat} {isSlice : Bool} (hm : abound (some mx) top top = some m) (hh : abound (some hi) m m = some h) (hl : abound lo h 0 = some l) (htop : top ≤ cap) (w : World) :
    (Instr.sliceBounds isSlice len cap (lo.map (cV σ)) (some (cV σ hi)) (some (cV σ mx))).run P w = .ok (l, h, m) w := by
  rcases abound_run hm with ⟨e, _⟩ | ⟨k2, i2, e, h2, h3, rfl⟩
  · cases e
  injection e with e; subst e
  rcases abound_run hh with ⟨e, _⟩ | ⟨k, i, e, h0, h1, rfl⟩
  · cases e
  injection e with e; subst e
  rcases abound_run hl with ⟨rfl, rfl⟩ | ⟨k', i', rfl, h0', h1', rfl⟩
  · simp [Instr.sliceBounds, cV, cT, cS, bound_run h2 (show i2 ≤ (cap : Int) by omega), bound_run h0 h1]
  · simp [Instr.sliceBounds, cV, cT, cS, bound_run h2 (show i2 ≤ (cap : Int) by omega), bound_run h0 h1, bound_run h0' h1']

theorem abound_le {x : Option Value} {top dflt r : Nat} (h : abound x top dflt = some r) (hd : dflt ≤ top) : r ≤ top := by
  rcases abound_run h with ⟨_, rfl⟩ | ⟨k, i, _, h0, h1, rfl⟩ <;> omega

/-- What a slice expression makes of a slice's address. -/
theorem acut_run (h : Spots σ H) {a : Addr} (hlv : liveB H a.block = true) {s l hh n c m0 : Nat} {full : Option Nat} {v : Value} (hc : acut a s l hh c full = some v) (h1 : l ≤ hh) (h2 : hh ≤ full.getD c) (h3 : full.getD c ≤ c) (hx : a.block < H.size)
    (A : Addr) (C : Nat) (hA : cL σ a n c = .slice (some A) n C) (hm0 : m0 = full.getD C) :
    Value.slice (if m0 = l then some A else (some A).map (·.add (l * s))) (hh - l) (m0 - l) = cV σ v ∧ scV H.size v = true ∧ c ≤ C := by
  have hsp : (σ a.block).spot = none := by
    unfold liveB at hlv
    split at hlv
    · rename_i b hb; exact h _ b hb hlv
    · cases hlv
  obtain ⟨ab, ao, as⟩ := a
  simp only at hsp hx
  unfold acut at hc
  split at hc
  · rename_i hs
    simp only at hs; subst hs
    simp only [cL, Value.slice.injEq, Option.some.injEq] at hA
    obtain ⟨rfl, _, rfl⟩ := hA
    simp only [Option.getD_none] at hm0 h2
    subst hm0
    injection hc with hc
    split at hc
    · rename_i hlc
      subst hc
      refine ⟨?_, scV_sl.2 hx, by omega⟩
      rw [if_neg (by omega)]
      simp only [Option.map_some, add_at, cV, cT, cS, cL, Nat.add_assoc]
      congr 1
      omega
    · rename_i hlc
      subst hc
      refine ⟨?_, scV_sl.2 hx, by omega⟩
      have e1 : l = c := by omega
      subst e1
      have e2 : hh = l := by omega
      subst e2
      simp only [cV, cT, cS, cL, Nat.sub_self, Nat.zero_add]
      by_cases he : (σ ab).ext = 0
      · rw [if_pos (by omega), if_pos he, he, Nat.add_zero, Nat.sub_self]
        congr 3
        rw [Nat.add_sub_cancel]
      · rw [if_neg (by omega), if_neg he]
        simp only [Option.map_some, add_at, Nat.add_assoc]
        congr 1
        omega
  · rename_i hs
    simp only at hs; subst hs
    simp only [cL, Value.slice.injEq, Option.some.injEq, hsp] at hA
    obtain ⟨rfl, _, rfl⟩ := hA
    simp only [Option.getD_none] at hm0 h2
    subst hm0
    injection hc with hc
    split at hc
    · rename_i hlc
      subst hc
      refine ⟨?_, scV_sl.2 hx, by omega⟩
      rw [if_neg (by omega)]
      simp only [Option.map_some, add_at, cV, cT, cS, cL, Nat.add_assoc, hsp]
    · rename_i hlc
      subst hc
      refine ⟨?_, scV_sl.2 hx, by omega⟩
      have e1 : l = m0 := by omega
      subst e1
      have e2 : hh = l := by omega
      subst e2
      rw [if_pos rfl]
      simp only [cV, cT, cS, cL, Nat.sub_self, hsp]
  · rename_i m hs
    simp only at hs; subst hs
    simp only [cL, Value.slice.injEq, Option.some.injEq] at hA
    obtain ⟨rfl, _, rfl⟩ := hA
    simp only [Option.getD_some] at hm0 h2 h3
    subst hm0
    injection hc with hc
    split at hc
    · rename_i hlc
      subst hc
      refine ⟨?_, scV_sl.2 hx, by omega⟩
      rw [if_neg (by omega)]
      simp only [Option.map_some, add_at, cV, cT, cS, cL, Nat.add_assoc, hsp]
    · rename_i hlc
      subst hc
      refine ⟨?_, scV_sl.2 hx, by omega⟩
      have e1 : l = m0 := by omega
      subst e1
      have e2 : hh = l := by omega
      subst e2
      rw [if_pos rfl]
      simp only [cV, cT, cS, cL, Nat.sub_self, hsp]
  · rename_i m hs
    simp only at hs; subst hs
    simp only [cL, Value.slice.injEq, Option.some.injEq, hsp] at hA
    obtain ⟨rfl, _, rfl⟩ := hA
    simp only [Option.getD_some] at hm0 h2 h3
    subst hm0
    injection hc with hc
    split at hc
    · rename_i hlc
      subst hc
      refine ⟨?_, scV_sl.2 hx, by omega⟩
      rw [if_neg (by omega)]
      simp only [Option.map_some, add_at, cV, cT, cS, cL, Nat.add_assoc, hsp]
    · rename_i hlc
      subst hc
      refine ⟨?_, scV_sl.2 hx, by omega⟩
      have e1 : l = m0 := by omega
      subst e1
      have e2 : hh = l := by omega
      subst e2
      rw [if_pos rfl]
      simp only [cV, cT, cS, cL, Nat.sub_self, hsp]
  · cases hc

theorem aslice_run (h : Spots σ H) {t : TypeId} {x v : Value} {lo hi mx : Option Value} (ha : aslice P H t x lo hi mx = some v) (hx : scV H.size x = true) :
    (Instr.sliceAt t (cV σ x) (lo.map (cV σ)) (hi.map (cV σ)) (mx.map (cV σ))).run P w = .ok (cV σ v) w ∧ scV H.size v = true := by
  unfold aslice at ha
  split at ha
  · rename_i s hu
    split at ha
    · rename_i h hh
      split at ha
      · rename_i l hl
        injection ha with ha; subst ha
        refine ⟨?_, rfl⟩
        have hb := bounds_run (P := P) (σ := σ) (isSlice := false) hh hl (Nat.le_refl s.size) w
        simp only [Instr.sliceAt, Instr.slice, cV, cT, cS, Sem.run_bind, run_underlying hu, Result.andThen_ok, Option.map_none, Option.isSome_none, Bool.false_eq_true, if_false, Sem.run_pure]
        rw [hb]
        rfl
      · cases ha
    · cases ha
  · rename_i e a m c hu
    split at ha
    · rename_i s hh hs hhb
      split at ha
      · rename_i l hl
        split at ha
        · rename_i hmc
          cases hlv : liveB H a.block with
          | false => rw [hlv, cond_false] at ha; cases ha
          | true =>
            rw [hlv, cond_true] at ha
            obtain ⟨A, C, hA⟩ := cL_slice σ a m c
            have hle := abound_le hhb (Nat.le_refl m)
            have hll := abound_le hl (Nat.zero_le _)
            obtain ⟨g1, g2, g3⟩ := acut_run h hlv ha hll (by simp; omega) (Nat.le_refl _) (scV_sl.1 hx) A C hA (m0 := C) rfl
            refine ⟨?_, g2⟩
            have hb := bounds_run (P := P) (σ := σ) (isSlice := true) hhb hl (show m ≤ C by omega) w
            have e1 : cV σ (.slice (some a) m c) = .slice (some A) m C := hA
            rw [e1]
            simp only [Instr.sliceAt, Instr.slice, Sem.run_bind, run_underlying hu, Result.andThen_ok, Option.map_none]
            rw [hb]
            simp only [Result.andThen_ok, sizeB_run hs w, Sem.run_pure]
            rw [g1]
        · cases ha
      · cases ha
    · cases ha
  · rename_i e a m0 c m hu
    split at ha
    · rename_i s mm hs hmm
      split at ha
      · rename_i hi' hh hhb
        split at ha
        · rename_i l hl
          cases hlv : liveB H a.block with
          | false => rw [hlv, cond_false] at ha; cases ha
          | true =>
            rw [hlv, cond_true] at ha
            obtain ⟨A, C, hA⟩ := cL_slice σ a m0 c
            have hle := abound_le hhb (Nat.le_refl mm)
            have hll := abound_le hl (Nat.zero_le _)
            have hml := abound_le hmm (Nat.le_refl c)
            obtain ⟨g1, g2, g3⟩ := acut_run h hlv ha hll (by simpa using hle) (by simpa using hml) (scV_sl.1 hx) A C hA (m0 := mm) rfl
            refine ⟨?_, g2⟩
            have hb := bounds_run3 (P := P) (σ := σ) (isSlice := true) (len := m0) hmm hhb hl (show c ≤ C by omega) w
            have e1 : cV σ (.slice (some a) m0 c) = .slice (some A) m0 C := hA
            rw [e1]
            simp only [Instr.sliceAt, Instr.slice, Sem.run_bind, run_underlying hu, Result.andThen_ok, Option.map_some]
            rw [hb]
            simp only [Result.andThen_ok, sizeB_run hs w, Sem.run_pure]
            rw [← g1, Option.map_some]
        · cases ha
      · cases ha
    · cases ha
  · rename_i e hu
    split at ha
    · rename_i s h hs hh
      split at ha
      · rename_i l hl
        injection ha with ha; subst ha
        refine ⟨?_, rfl⟩
        have hb := bounds_run (P := P) (σ := σ) (isSlice := true) hh hl (Nat.le_refl 0) w
        have h0 := abound_le hh (Nat.le_refl 0)
        have l0 := abound_le hl (Nat.zero_le _)
        obtain rfl : h = 0 := by omega
        obtain rfl : l = 0 := by omega
        simp only [Instr.sliceAt, Instr.slice, cV, cT, cS, Sem.run_bind, run_underlying hu, Result.andThen_ok, Option.map_none]
        rw [hb]
        simp only [Result.andThen_ok, sizeB_run hs w, Sem.run_pure]
        rfl
      · cases ha
    · cases ha
  · rename_i e m hu
    split at ha
    · rename_i s mm hi' hs hmm
      split at ha
      · rename_i hh hhb
        split at ha
        · rename_i l hl
          injection ha with ha; subst ha
          refine ⟨?_, rfl⟩
          have m0 := abound_le hmm (Nat.le_refl 0)
          have h0 := abound_le hhb (Nat.le_refl 0)
          have l0 := abound_le hl (Nat.zero_le _)
          obtain rfl : mm = 0 := by omega
          obtain rfl : hh = 0 := by omega
          obtain rfl : l = 0 := by omega
          have hb := bounds_run3 (P := P) (σ := σ) (isSlice := true) (len := 0) hmm hhb hl (Nat.le_refl 0) w
          have e1 : cV σ (.slice none 0 0) = .slice none 0 0 := rfl
          rw [e1]
          simp only [Instr.sliceAt, Instr.slice, Sem.run_bind, run_underlying hu, Result.andThen_ok, Option.map_some]
          rw [hb]
          simp only [Result.andThen_ok, sizeB_run hs w, Sem.run_pure]
          rfl
        · cases ha
      · cases ha
    · cases ha
  · cases ha
end
end Go.RX
