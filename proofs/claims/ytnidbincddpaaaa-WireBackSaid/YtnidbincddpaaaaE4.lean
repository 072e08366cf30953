/- Comparisons and sums of the executor are the machine's. -/
import Derived.Test.YtnidbincddpaaaaE3
import Derived.Laws.BitsAllLaws
import Derived.Laws.StructEq
namespace Go.RX
open Go Go.RowKit

section
variable {P : Program} {W0 w : World} {S : Nat → Prop} {σ : Nat → Loc} {H : AH}

theorem cell_sc {n : Nat} {cs : Array Value} (h : cs.toList.all (scS n) = true) {i : Nat} {v : Value} (hi : cs[i]? = some v) : scS n v = true :=
  List.all_eq_true.1 h v (by have := Array.mem_of_getElem? hi; simpa using this)

theorem partB_conc {n : Nat} {t : TypeId} {cs : Array Value} {off : Nat} {v : Value} (hs : cs.toList.all (scS n) = true) (h : partB P t cs off = some v) :
    partB P t (cs.map (cS σ)) off = some (cV σ v) ∧ scV n v = true := by
  unfold partB at h ⊢
  split at h
  · rename_i d m hd hm
    cases ha : isAggD d with
    | true =>
      simp only [ha, cond_true] at h ⊢
      injection h with h
      subst h
      refine ⟨?_, ?_⟩
      · simp only [cV, cT]
        congr 2
        apply Array.toList_inj.1
        simp [Array.toList_extract, List.extract_eq_take_drop]
      · refine List.all_eq_true.2 fun u hu => ?_
        rw [Array.toList_extract, List.extract_eq_take_drop] at hu
        exact List.all_eq_true.1 hs u (List.mem_of_mem_drop (List.mem_of_mem_take hu))
    | false =>
      simp only [ha, cond_false] at h ⊢
      have hv := cell_sc hs h
      refine ⟨?_, scV_of_scS hv⟩
      rw [Array.getElem?_map, h, cV_of_scS hv]; rfl
  · cases h

theorem aeq_run {n : Nat} : ∀ (d : Nat) (t : TypeId) (x y : Value) (b : Bool), aeq P d t x y = some b → scV n x = true → scV n y = true →
    ∀ D, d ≤ D → ∀ w : World, (Op.equalIn D t (cV σ x) (cV σ y)).run P w = .ok b w := by
  intro d
  induction d with
  | zero => intro t x y b h; simp [aeq] at h
  | succ d ih =>
    intro t x y b h hx hy D hD w
    obtain ⟨D, rfl⟩ : ∃ m, D = m + 1 := ⟨D - 1, by omega⟩
    unfold aeq at h
    split at h
    · rename_i hu; injection h with h; subst h; simp [Op.equalIn, run_underlying hu, cV, cT, cS]
    · rename_i hu
      split at h
      · rename_i hk; injection h with h; subst h; subst hk; simp [Op.equalIn, run_underlying hu, cV, cT, cS]
      · cases h
    · rename_i hu; injection h with h; subst h; simp [Op.equalIn, run_underlying hu, cV, cT, cS]
    · rename_i e q hu; injection h with h; subst h; cases q <;> simp [Op.equalIn, run_underlying hu, cV, cT, cS]
    · rename_i hu; injection h with h; subst h; simp [Op.equalIn, run_underlying hu, cV, cT, cS]
    · rename_i e l c q m k hu; injection h with h; subst h; cases q with
      | none => simp [Op.equalIn, run_underlying hu, cV, cT, cS]
      | some q => obtain ⟨b', m', hb⟩ := cL_slice σ q m k; simp [Op.equalIn, run_underlying hu, cV, cT, cS, hb]
    · rename_i e q l c m k hu; injection h with h; subst h; obtain ⟨b', m', hb⟩ := cL_slice σ q l c; simp [Op.equalIn, run_underlying hu, cV, cT, cS, hb]
    · rename_i q hu; injection h with h; subst h; cases q <;> simp [Op.equalIn, run_underlying hu, cV, cT, cS]
    · rename_i hu; injection h with h; subst h; simp [Op.equalIn, run_underlying hu, cV, cT, cS]
    · rename_i hu; injection h with h; subst h; simp [Op.equalIn, run_underlying hu, cV, cT, cS]
    · rename_i hu; injection h with h; subst h; simp [Op.equalIn, run_underlying hu, cV, cT, cS]
    · rename_i hu; injection h with h; subst h; simp [Op.equalIn, run_underlying hu, cV, cT, cS]
    · rename_i fields xs ys hu
      cases hp : P.stoodInHeld t with
      | true => simp [hp] at h
      | false =>
        simp only [hp, cond_false] at h
        have hf : P.fieldsOf t = fields := by simp [Program.fieldsOf, hu]
        have e1 : cV σ (.agg xs) = .agg (xs.map (cS σ)) := rfl
        have e2 : cV σ (.agg ys) = .agg (ys.map (cS σ)) := rfl
        rw [e1, e2, run_equalIn_struct (P := P) w D t _ _ (by rw [hf]; exact hu) hp, hf]
        have hxs : xs.toList.all (scS n) = true := hx
        have hys : ys.toList.all (scS n) = true := hy
        clear hu hf e1 e2 hx hy
        generalize fields.toList = fl at h ⊢
        induction fl generalizing b with
        | nil => simp at h; subst h; simp [Op.eqFields]
        | cons f fl ih2 =>
          rw [List.foldr_cons] at h
          by_cases hn : f.name = "_"
          · rw [if_pos hn] at h
            have hn' : ¬ (f.name ≠ "_") := by simpa using hn
            rw [Op.eqFields, if_neg hn']
            exact ih2 b h
          · rw [if_neg hn] at h
            split at h
            · rename_i u v hu hv
              split at h
              · rename_i r s hr hs
                injection h with h
                subst h
                obtain ⟨hu1, hu2⟩ := partB_conc (σ := σ) hxs hu
                obtain ⟨hv1, hv2⟩ := partB_conc (σ := σ) hys hv
                rw [Op.eqFields]
                have hn' : f.name ≠ "_" := hn
                simp only [if_pos hn', Sem.run_bind, part_run hu1 w, part_run hv1 w, Result.andThen_ok, ih f.type u v r hr hu2 hv2 D (by omega) w]
                cases r
                · simp
                · simpa using ih2 s hs
              · cases h
            · cases h
    · cases h

theorem guard_id (op : BinOp) (t : TypeId) (x y : Operand) (a b : Value) (h : ∀ c d, a = .agg c → b = .agg d → P.eqGuardType P.depth t = false) (h2 : a ≠ .nilIface) (w : World) :
    (eqGuard op t x y a b).run P w = .ok () w := by
  cases op
  case eql | neq =>
    unfold eqGuard
    simp only [Bool.not_true, Bool.false_eq_true, if_false]
    split
    · exact absurd rfl h2
    · have := h _ _ rfl rfl
      simp [this]
    · rfl
  all_goals rfl

theorem cV_slice (σ : Nat → Loc) (o : Option Addr) (n c : Nat) : ∃ o' m, cV σ (.slice o n c) = .slice o' n m := by
  cases o with
  | none => exact ⟨_, _, rfl⟩
  | some a => obtain ⟨b, m, h⟩ := cL_slice σ a n c; exact ⟨some b, m, by simp only [cV, cT, cS, h]⟩
theorem cV_map (σ : Nat → Loc) (o : Option Nat) : ∃ o', cV σ (.map o) = .map o' := by
  cases o <;> exact ⟨_, rfl⟩
theorem cV_ptr (σ : Nat → Loc) (o : Option Addr) : ∃ o', cV σ (.pointer o) = .pointer o' := by
  cases o <;> exact ⟨_, rfl⟩

theorem cV_agg_inv {σ : Nat → Loc} {a : Value} {c : Array Value} (h : cV σ a = .agg c) : ∃ d, a = .agg d := by
  cases a with
  | agg d => exact ⟨d, rfl⟩
  | pointer o => obtain ⟨_, e⟩ := cV_ptr σ o; rw [e] at h; cases h
  | slice o n c => obtain ⟨_, _, e⟩ := cV_slice σ o n c; rw [e] at h; cases h
  | map o => obtain ⟨_, e⟩ := cV_map σ o; rw [e] at h; cases h
  | _ => simp [cV, cT, cS] at h
theorem cV_nilI_inv {σ : Nat → Loc} {a : Value} (h : cV σ a = .nilIface) : a = .nilIface := by
  cases a with
  | pointer o => obtain ⟨_, e⟩ := cV_ptr σ o; rw [e] at h; cases h
  | slice o n c => obtain ⟨_, _, e⟩ := cV_slice σ o n c; rw [e] at h; cases h
  | map o => obtain ⟨_, e⟩ := cV_map σ o; rw [e] at h; cases h
  | nilIface => rfl
  | _ => simp [cV, cT, cS] at h

theorem ltB_eq (a b : Int) : ltB a b = decide (a < b) := by
  rw [Bool.eq_iff_iff, decide_eq_true_iff]
  match a, b with
  | .ofNat a, .ofNat b => simp only [ltB, Nat.ble_eq]; rw [Int.ofNat_eq_natCast, Int.ofNat_eq_natCast]; omega
  | .negSucc a, .ofNat b => simp only [ltB, true_iff]; rw [Int.ofNat_eq_natCast, Int.negSucc_eq]; omega
  | .ofNat a, .negSucc b => simp only [ltB]; rw [Int.ofNat_eq_natCast, Int.negSucc_eq]; simp only [Bool.false_eq_true, false_iff]; omega
  | .negSucc a, .negSucc b => simp only [ltB, Nat.ble_eq]; rw [Int.negSucc_eq, Int.negSucc_eq]; omega

theorem not_ltB (a b : Int) : (!ltB b a) = decide (a ≤ b) := by
  rw [ltB_eq, Bool.eq_iff_iff]
  simp

theorem abin_run {n : Nat} {op : BinOp} {t : TypeId} {a b v : Value} (h : abin P op t a b = some v) (ha : scV n a = true) (hb : scV n b = true) (x y : Operand) (w : World) :
    ((do eqGuard op t x y (cV σ a) (cV σ b); binOp op t (cV σ a) (cV σ b) : Sem Value)).run P w = .ok (cV σ v) w ∧ scV n v = true := by
  have hg : ∀ (hh : ∀ c d, a = .agg c → b = .agg d → P.eqGuardType P.depth t = false) (h2 : a ≠ .nilIface) (r : Result Value), (binOp op t (cV σ a) (cV σ b)).run P w = r →
      ((do eqGuard op t x y (cV σ a) (cV σ b); binOp op t (cV σ a) (cV σ b) : Sem Value)).run P w = r := by
    intro hh h2 r hr
    rw [Sem.run_bind, guard_id op t x y (cV σ a) (cV σ b) ?_ ?_ w]
    · simpa using hr
    · intro c d hc hd
      obtain ⟨c', rfl⟩ := cV_agg_inv hc
      obtain ⟨d', rfl⟩ := cV_agg_inv hd
      exact hh _ _ rfl rfl
    · intro hc
      exact h2 (cV_nilI_inv hc)
  unfold abin at h
  split at h
  all_goals first | (cases h; done) | skip
  all_goals (try (split at h <;> first | (cases h; done) | skip))
  all_goals (try (split at h <;> first | (cases h; done) | skip))
  all_goals (try simp only [not_ltB] at h)
  all_goals (try simp only [ltB_eq] at h)
  all_goals first | (injection h with h; subst h; refine ⟨hg (by simp) (by simp) _ ?_, rfl⟩; simp [binOp, cV, cT, cS, Op.shift, Op.intArith, Op.intDiv, Op.intBits, Op.intCmp, Op.stringOp, *]; done) | skip
  case h_20.isTrue a b hsz =>
    injection h with h
    subst h
    refine ⟨hg (by simp) (by simp) _ ?_, rfl⟩
    have hmax : ¬ (IntKind.i64.max < ((a.size + b.size : Nat) : Int)) := by
      have : IntKind.i64.max = 9223372036854775807 := by decide
      omega
    simp only [binOp, cV, cT, cS, Op.stringOp, gt_iff_lt, if_neg hmax, Sem.run_pure]
  all_goals
    first
    | (rename_i heq
       injection h with h
       subst h
       have E := aeq_run (σ := σ) 9999 t _ _ _ heq ha hb Op.maxDepth (by decide) w
       refine ⟨hg (by simp) (by simp) _ ?_, rfl⟩
       first
       | (simp only [cV, cT, cS] at E ⊢; simp [binOp, Op.equal, E]; done)
       | (rename_i o1 o2 _ _; obtain ⟨_, e1⟩ := cV_ptr σ o1; obtain ⟨_, e2⟩ := cV_ptr σ o2; simp only [e1, e2] at E ⊢; simp [binOp, Op.equal, E, cV, cT, cS]; done)
       | (rename_i o1 o2 _ _; obtain ⟨_, e1⟩ := cV_map σ o1; obtain ⟨_, e2⟩ := cV_map σ o2; simp only [e1, e2] at E ⊢; simp [binOp, Op.equal, E, cV, cT, cS]; done)
       | (rename_i o1 n1 m1 o2 n2 m2 _ _; obtain ⟨_, _, e1⟩ := cV_slice σ o1 n1 m1; obtain ⟨_, _, e2⟩ := cV_slice σ o2 n2 m2; simp only [e1, e2] at E ⊢; simp [binOp, Op.equal, E, cV, cT, cS]; done))
    | (cases hge : P.eqGuardType P.depth t with
       | true => simp [hge] at h
       | false =>
         rename_i heq
         simp only [hge, cond_false] at h
         injection h with h
         subst h
         have E := aeq_run (σ := σ) 9999 t _ _ _ heq ha hb Op.maxDepth (by decide) w
         refine ⟨hg (fun _ _ _ _ => hge) (by simp) _ ?_, rfl⟩
         simp only [cV, cT, cS] at E ⊢; simp [binOp, Op.equal, E])
    | (cases hge : P.eqGuardType P.depth t <;> simp [hge] at h)

theorem equal_iface {t : TypeId} {ms : Array (String × TypeId)} (hu : P.underlying t = some (.interface ms)) (w : World) :
    (Op.equal t .nilIface .nilIface).run P w = .ok true w ∧ ∀ T u, (Op.equal t (.iface T u) .nilIface).run P w = .ok false w := by
  unfold Op.equal
  obtain ⟨k, hk⟩ : ∃ k, Op.maxDepth = k + 1 := ⟨9999, rfl⟩
  rw [hk]
  constructor
  · unfold Op.equalIn
    rw [Sem.run_bind, run_underlying hu]
    rfl
  · intro T u
    unfold Op.equalIn
    rw [Sem.run_bind, run_underlying hu]
    rfl

theorem anil_run {t : TypeId} {v : Value} {b : Bool} (h : anil P t v = some b) (w : World) : (Op.equal t (cV σ v) .nilIface).run P w = .ok b w ∧ ((∃ T u, v = .iface T u) ∨ v = .nilIface) := by
  unfold anil at h
  split at h
  · rename_i m hu
    injection h with h; subst h
    exact ⟨(equal_iface hu w).1, .inr rfl⟩
  · rename_i m T u hu
    injection h with h; subst h
    exact ⟨(equal_iface hu w).2 T (c2 σ u), .inl ⟨T, u, rfl⟩⟩
  · cases h

theorem abinc_run {n : Nat} {op : BinOp} {t : TypeId} {y : Operand} {a b v : Value} (h : abinc P op t y a b = some v) (ha : scV n a = true) (hb : scV n b = true) (x : Operand) (w : World) :
    ((do eqGuard op t x y (cV σ a) (cV σ b); binOp op t (cV σ a) (cV σ b) : Sem Value)).run P w = .ok (cV σ v) w ∧ scV n v = true := by
  unfold abinc at h
  split at h
  · rename_i u hu
    injection h with h; subst h
    exact abin_run hu ha hb x y w
  · split at h
    · rename_i z _
      simp only [Option.map_eq_some_iff] at h
      obtain ⟨r, hr, rfl⟩ := h
      obtain ⟨he, hc⟩ := anil_run (σ := σ) hr w
      refine ⟨?_, rfl⟩
      rcases hc with ⟨T, u, rfl⟩ | rfl
      · have hg : (eqGuard .eql t x (.const z) (.iface T (c2 σ u)) .nilIface).run P w = .ok () w := by simp [eqGuard]
        simp only [cV, cT, cS, Sem.run_bind, hg, Result.andThen_ok] at he ⊢
        simp only [binOp, Sem.run_bind, he, Result.andThen_ok]
        rfl
      · have hg : (eqGuard .eql t x (.const z) .nilIface .nilIface).run P w = .ok () w := by simp [eqGuard]
        simp only [cV, cT, cS, Sem.run_bind, hg, Result.andThen_ok] at he ⊢
        simp only [binOp, Sem.run_bind, he, Result.andThen_ok]
        rfl
    · rename_i z _
      simp only [Option.map_eq_some_iff] at h
      obtain ⟨r, hr, rfl⟩ := h
      obtain ⟨he, hc⟩ := anil_run (σ := σ) hr w
      refine ⟨?_, rfl⟩
      rcases hc with ⟨T, u, rfl⟩ | rfl
      · have hg : (eqGuard .neq t x (.const z) (.iface T (c2 σ u)) .nilIface).run P w = .ok () w := by simp [eqGuard]
        simp only [cV, cT, cS, Sem.run_bind, hg, Result.andThen_ok] at he ⊢
        simp only [binOp, Sem.run_bind, he, Result.andThen_ok]
        rfl
      · have hg : (eqGuard .neq t x (.const z) .nilIface .nilIface).run P w = .ok () w := by simp [eqGuard]
        simp only [cV, cT, cS, Sem.run_bind, hg, Result.andThen_ok] at he ⊢
        simp only [binOp, Sem.run_bind, he, Result.andThen_ok]
        rfl
    · cases h

theorem scT_up {n : Nat} {u : Value} (h : scT 0 u = true) : scT n u = true := scT_mono (Nat.zero_le _) u h
theorem cV_tuple2 (u v : Value) (hu : scT 0 u = true) (hv : scT 0 v = true) : cV σ (.tuple #[u, v]) = .tuple #[u, v] := by
  simp [cV, cT_const u hu, cT_const v hv]

theorem inI_c2 {n : Nat} {u : Value} (h : inI n u = true) : c2 σ u = cV σ u ∧ scT n u = true := by
  simp only [inI, Bool.and_eq_true] at h
  exact ⟨c2_cV h.2 h.1, h.1⟩

theorem aassert_run {n : Nat} {T X : TypeId} {ok : Bool} {a v : Value} (h : aassert P n T ok a = some v) (w : World) :
    (Instr.typeAssert (cV σ a) X T ok).run P w = .ok (cV σ v) w ∧ scV n v = true := by
  have h2 : ∀ u b, scT 0 u = true → cV σ (.tuple #[u, .bool b]) = .tuple #[u, .bool b] ∧ scV n (.tuple #[u, .bool b]) = true := fun u b hu =>
    ⟨cV_tuple2 u _ hu rfl, by simp [scV, scT_up hu, show scT n (.bool b) = true from rfl]⟩
  unfold aassert at h
  split at h
  · cases h
  · rename_i d hni hu
    have hz : ∀ {z : Value}, (P.info? T).bind (·.zero) = some z → (zeroValue T).run P w = .ok z w := by
      intro z hz
      cases hi : P.info? T with
      | none => rw [hi] at hz; cases hz
      | some i =>
        rw [hi] at hz
        have : i.zero = some z := hz
        simp [zeroValue, typeInfo, hi, this]
    split at h
    · rename_i t u
      split at h
      · rename_i ht
        subst ht
        cases hc : inI n u with
        | false => rw [hc, cond_false] at h; cases h
        | true =>
          rw [hc, cond_true] at h
          injection h with h; subst h
          obtain ⟨h3, h4⟩ := inI_c2 (σ := σ) hc
          cases ok with
          | true =>
            simp only [cond_true]
            refine ⟨?_, by simp [scV, h4, show scT n (.bool true) = true from rfl]⟩
            have h5 : cV σ (.tuple #[u, .bool true]) = .tuple #[cV σ u, .bool true] := by
              show Value.tuple (#[u, .bool true].map (cT σ)) = _
              rw [cV_of_scT h4]; simp [cT, cS]
            have e : cV σ (.iface t u) = .iface t (c2 σ u) := rfl
            rw [e, h3, h5]
            simp only [Instr.typeAssert, Sem.run_bind, run_underlying hu, Result.andThen_ok]
            cases d <;> first | (simp; done) | exact absurd rfl (hni _)
          | false =>
            simp only [cond_false]
            refine ⟨?_, scV_of_scT h4⟩
            have e : cV σ (.iface t u) = .iface t (c2 σ u) := rfl
            rw [e, h3]
            simp only [Instr.typeAssert, Sem.run_bind, run_underlying hu, Result.andThen_ok]
            cases d <;> first | (simp; done) | exact absurd rfl (hni _)
      · rename_i ht
        cases ok with
        | false => simp at h
        | true =>
          simp only [cond_true] at h
          split at h
          · rename_i z hz'
            cases hc : scT 0 z with
            | false => rw [hc, cond_false] at h; cases h
            | true =>
              rw [hc, cond_true] at h
              injection h with h; subst h
              refine ⟨?_, (h2 z false hc).2⟩
              rw [(h2 z false hc).1]
              have hz'' := hz hz'
              simp only [Instr.typeAssert, Sem.run_bind, run_underlying hu, Result.andThen_ok, cV, cT, cS]
              cases d <;> first | (simp [ht, hz'']; done) | exact absurd rfl (hni _)
          · cases h
    · cases ok with
      | false => simp at h
      | true =>
        simp only [cond_true] at h
        split at h
        · rename_i z hz'
          cases hc : scT 0 z with
          | false => rw [hc, cond_false] at h; cases h
          | true =>
            rw [hc, cond_true] at h
            injection h with h; subst h
            refine ⟨?_, (h2 z false hc).2⟩
            rw [(h2 z false hc).1]
            have hz'' := hz hz'
            simp only [Instr.typeAssert, Sem.run_bind, run_underlying hu, Result.andThen_ok, cV, cT, cS]
            cases d <;> first | (simp [hz'']; done) | exact absurd rfl (hni _)
        · cases h
    · cases h
  · cases h
end
end Go.RX
