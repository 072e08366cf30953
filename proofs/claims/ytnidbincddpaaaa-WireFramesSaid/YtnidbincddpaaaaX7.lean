/- Conversions, indexes, slices, aggregates and rows that grow: the executor's are the machine's. -/
import Derived.Test.YtnidbincddpaaaaX6
namespace Go.RX
open Go Go.Proofs.Ytnidbincddpaaaa Go.RowKit

section
variable {P : Program} {W0 w : World} {S : Nat → Prop} {σ : Nat → Loc} {H : AH}

theorem bytesOf_run : ∀ (l : List Value) (s s' : ByteArray), bytesOf l s = some s' → ∀ w : World,
    ((forIn (l.map (cS σ)) s fun c s => match c with
      | .int .u8 n => pure (ForInStep.yield (s.push (UInt8.ofNat n.toNat)))
      | _ => do
        stuck "bytesToString: byte expected"
        pure (ForInStep.yield s) : Sem ByteArray)).run P w = .ok s' w := by
  intro l
  induction l with
  | nil => intro s s' h w; simp [bytesOf] at h; subst h; simp
  | cons v r ih =>
    intro s s' h w
    unfold bytesOf at h
    split at h
    · rename_i heq; cases heq
    · rename_i n q heq
      injection heq with e1 e2
      subst e1 e2
      have := ih _ _ h w
      simp only [List.map_cons, cS, List.forIn_cons] at this ⊢
      simpa using this
    · cases h

theorem aconv_run (h : Rel P W0 S σ H w) {src dst : TypeId} {x v : Value} (ha : aconv P H src dst x = some v) :
    (convert src dst (cV σ x)).run P w = .ok (cV σ v) w ∧ scV H.length v = true := by
  unfold aconv at ha
  split at ha
  · rename_i hs hd
    injection ha with ha; subst ha
    refine ⟨?_, rfl⟩
    simp [convert, run_underlying hs, run_underlying hd, cV, cT, cS, Conv.intToInt]
  · rename_i e _ _ hs hd
    split at ha
    · rename_i he
      injection ha with ha; subst ha
      refine ⟨?_, rfl⟩
      simp [convert, run_underlying hs, run_underlying hd, run_underlying he, cV, cT, cS, Conv.bytesToString]
    · cases ha
  · rename_i e i off n c hs hd
    split at ha
    · rename_i he
      split at ha
      · rename_i l hl
        split at ha
        · rename_i s hb
          injection ha with ha; subst ha
          refine ⟨?_, rfl⟩
          have hr := bytesOf_run (P := P) (σ := σ) l _ _ hb w
          have hld := ld_run h hl
          simp only [convert, Sem.run_bind, run_underlying hs, run_underlying hd, run_underlying he, cV, cT, cS, cA, Result.andThen_ok, Conv.bytesToString, hld]
          simp only [List.forIn_toArray]
          exact (congrArg (fun r : Result ByteArray => r.andThen fun a w' => Sem.run P (pure (Value.string a)) w') hr).trans rfl
        · cases ha
      · cases ha
    · cases ha
  · rename_i hs hd
    injection ha with ha; subst ha
    refine ⟨?_, rfl⟩
    simp [convert, run_underlying hs, run_underlying hd, cV, cT, cS]
  · cases ha

theorem cA_add (a : Addr) (n : Nat) (h : a.spot = none) : (cA σ a).add n = cA σ (a.add n) := by
  obtain ⟨b, o, s⟩ := a
  simp only at h
  subst h
  simp [cA, add_at, Nat.add_assoc]

theorem aindexAddr_run {n : Nat} {t : TypeId} {x ix v : Value} (ha : aindexAddr P t x ix = some v) (hx : scV n x = true) (w : World) :
    (Instr.indexAt t (cV σ x) (cV σ ix)).run P w = .ok (cV σ v) w ∧ scV n v = true := by
  unfold aindexAddr at ha
  split at ha
  · rename_i e i off l c k q hu
    split at ha
    · rename_i hk
      split at ha
      · rename_i s hs
        injection ha with ha; subst ha
        have hx' : decide (i < n) = true := by simpa [scV, scT, scS] using hx
        refine ⟨?_, by simpa [scV, scT, scS, add_at] using hx'⟩
        have hk2 : 0 ≤ q ∧ q < (l : Int) := hk
        simp only [Instr.indexAt, cV, cT, cS, asIntOf, Sem.run_bind, Sem.run_pure, Result.andThen_ok, run_underlying hu]
        simp only [hk2, and_self, if_true, Sem.run_bind, sizeB_run hs w, Sem.run_pure, Result.andThen_ok, cA_add]
      · cases ha
    · cases ha
  · cases ha

theorem aindex_run {n : Nat} {t : TypeId} {x ix v : Value} (ha : aindex P t x ix = some v) (hx : scV n x = true) (w : World) :
    (Instr.index t (cV σ x) (cV σ ix)).run P w = .ok (cV σ v) w ∧ scV n v = true := by
  unfold aindex at ha
  split at ha
  · rename_i len e cs k q hu
    split at ha
    · rename_i hk
      split at ha
      · rename_i s hs
        have hxs : cs.toList.all (scS n) = true := hx
        obtain ⟨h1, h2⟩ := partB_conc (σ := σ) hxs ha
        refine ⟨?_, h2⟩
        simp only [Instr.index, cV, cT, cS, asIntOf, Sem.run_bind, Sem.run_pure, Result.andThen_ok, run_underlying hu]
        simp only [hk, and_self, if_true, Sem.run_bind, sizeB_run hs w, Result.andThen_ok]
        exact part_run h1 w
      · cases ha
    · cases ha
  · rename_i s k q hu
    split at ha
    · rename_i hk
      split at ha
      · rename_i b hb
        injection ha with ha; subst ha
        refine ⟨?_, rfl⟩
        simp [Instr.index, cV, cT, cS, asIntOf, run_underlying hu, hk, hb]
      · cases ha
    · cases ha
  · cases ha

theorem afield_run {n : Nat} {t : TypeId} {x v : Value} {f : Nat} (ha : afield P t x f = some v) (hx : scV n x = true) (w : World) :
    (Instr.field t (cV σ x) f).run P w = .ok (cV σ v) w ∧ scV n v = true := by
  unfold afield at ha
  split at ha
  · rename_i fields cs hu
    split at ha
    · rename_i fd hf
      have hxs : cs.toList.all (scS n) = true := hx
      obtain ⟨h1, h2⟩ := partB_conc (σ := σ) hxs ha
      refine ⟨?_, h2⟩
      simp only [Instr.field, cV, cT, cS, Sem.run_bind, Sem.run_pure, Result.andThen_ok, run_underlying hu, hf, asAgg]
      exact part_run h1 w
    · cases ha
  · cases ha

theorem alen_run {n : Nat} {t : TypeId} {x v : Value} (ha : alen P t x = some v) (w : World) (T : TypeId) :
    (Builtin.len_ #[t] T #[cV σ x]).run P w = .ok (cV σ v) w ∧ scV n v = true := by
  unfold alen at ha
  split at ha
  · rename_i s hu
    injection ha with ha; subst ha
    exact ⟨by simp [Builtin.len_, run_underlying hu, cV, cT, cS, goInt], rfl⟩
  · rename_i m e hu
    injection ha with ha; subst ha
    exact ⟨by simp [Builtin.len_, run_underlying hu, cV, cT, cS, goInt], rfl⟩
  · rename_i e a m c hu
    injection ha with ha; subst ha
    exact ⟨by cases a <;> simp [Builtin.len_, run_underlying hu, cV, cT, cS, goInt], rfl⟩
  · cases ha

theorem abound_run {x : Option Value} {top dflt r : Nat} (h : abound x top dflt = some r) : x = none ∧ r = dflt ∨ ∃ k i, x = some (.int k i) ∧ 0 ≤ i ∧ i ≤ top ∧ r = i.toNat := by
  unfold abound at h
  split at h
  · injection h with h; exact .inl ⟨rfl, h.symm⟩
  · split at h
    · rename_i hk
      injection h with h
      exact .inr ⟨_, _, rfl, hk.1, hk.2, h.symm⟩
    · cases h
  · cases h

theorem bound_run {k : IntKind} {i : Int} {y : Nat} (h0 : 0 ≤ i) (h1 : i ≤ y) (code : BoundsCode) (w : World) : (Instr.sliceBound (.int k i) y code).run P w = .ok i.toNat w := by
  simp [Instr.sliceBound, asIntOf, h0, h1]

theorem bounds_run {lo hi : Option Value} {len cap h l top : Nat} {isSlice : Bool} (hh : abound hi top len = some h) (hl : abound lo h 0 = some l) (htop : top ≤ cap) (w : World) :
    (Instr.sliceBounds isSlice len cap (lo.map (cV σ)) (hi.map (cV σ)) none).run P w = .ok (l, h, cap) w := by
  rcases abound_run hh with ⟨rfl, rfl⟩ | ⟨k, i, rfl, h0, h1, rfl⟩ <;> rcases abound_run hl with ⟨rfl, rfl⟩ | ⟨k', i', rfl, h0', h1', rfl⟩
  · simp [Instr.sliceBounds]
  · simp [Instr.sliceBounds, cV, cT, cS, bound_run h0' h1']
  · simp [Instr.sliceBounds, cV, cT, cS, bound_run h0 (show i ≤ (cap : Int) by omega)]
  · simp [Instr.sliceBounds, cV, cT, cS, bound_run h0 (show i ≤ (cap : Int) by omega), bound_run h0' h1']

theorem abound_le {x : Option Value} {top dflt r : Nat} (h : abound x top dflt = some r) (hd : dflt ≤ top) : r ≤ top := by
  rcases abound_run h with ⟨_, rfl⟩ | ⟨k, i, _, h0, h1, rfl⟩ <;> omega

theorem aslice_run {n : Nat} {t : TypeId} {x v : Value} {lo hi mx : Option Value} (ha : aslice P t x lo hi mx = some v) (hx : scV n x = true) (w : World) :
    (Instr.sliceAt t (cV σ x) (lo.map (cV σ)) (hi.map (cV σ)) (mx.map (cV σ))).run P w = .ok (cV σ v) w ∧ scV n v = true := by
  unfold aslice at ha
  split at ha
  · rename_i s hu
    split at ha
    · rename_i h hh
      split at ha
      · rename_i l hl
        injection ha with ha; subst ha
        refine ⟨?_, rfl⟩
        have hb := bounds_run (P := P) (σ := σ) (isSlice := false) hh hl (Nat.le_refl s.size) w
        simp only [Instr.sliceAt, Instr.slice, cV, cT, cS, Sem.run_bind, run_underlying hu, Result.andThen_ok, Option.map_none, Option.isSome_none, Bool.false_eq_true, if_false, Sem.run_pure]
        rw [hb]
        rfl
      · cases ha
    · cases ha
  · rename_i e i off m c hu
    split at ha
    · rename_i s h hs hh
      split at ha
      · rename_i l hl
        split at ha
        · rename_i hlc
          injection ha with ha; subst ha
          have hx' : decide (i < n) = true := by simpa [scV, scT, scS] using hx
          refine ⟨?_, by simpa [scV, scT, scS, add_at] using hx'⟩
          have hb := bounds_run (P := P) (σ := σ) (isSlice := true) hh hl (show m ≤ c + (σ i).ext by omega) w
          have hne : ¬ (c + (σ i).ext = l) := by omega
          simp only [Instr.sliceAt, Instr.slice, cV, cT, cS, Sem.run_bind, run_underlying hu, Result.andThen_ok, Option.map_none]
          rw [hb]
          simp only [Result.andThen_ok, sizeB_run hs w, Sem.run_pure, if_neg hne, Option.map_some, cA_add]
          congr 3
          rw [add_at]
          show c + (σ i).ext - l = c - l + (σ i).ext
          omega
        · cases ha
      · cases ha
    · cases ha
  · rename_i e hu
    split at ha
    · rename_i s h hs hh
      split at ha
      · rename_i l hl
        injection ha with ha; subst ha
        refine ⟨?_, rfl⟩
        have hb := bounds_run (P := P) (σ := σ) (isSlice := true) hh hl (Nat.le_refl 0) w
        have h0 := abound_le hh (Nat.le_refl 0)
        have l0 := abound_le hl (Nat.zero_le _)
        obtain rfl : h = 0 := by omega
        obtain rfl : l = 0 := by omega
        simp only [Instr.sliceAt, Instr.slice, cV, cT, cS, Sem.run_bind, run_underlying hu, Result.andThen_ok, Option.map_none]
        rw [hb]
        simp only [Result.andThen_ok, sizeB_run hs w, Sem.run_pure]
        rfl
      · cases ha
    · cases ha
  · cases ha
end
end Go.RX
