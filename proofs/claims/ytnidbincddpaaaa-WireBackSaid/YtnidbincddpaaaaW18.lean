/- ReadCall: an entry of the table. -/
import Derived.Test.YtnidbincddpaaaaW17
namespace Go.RX
open Go Go.Proofs Go.RowKit
set_option maxRecDepth 100000

section
variable {P : Program} {f : FuncId} {H : AH}
/-- A function that asks no memory and leaves none. -/
theorem new_none {args : List Value} {o : Out} (h : Fun P 0 f args (AH.of []) fun o' H' => o' = o ∧ H' = AH.of []) (ha : ∀ v ∈ args, scV 0 v = true ∧ ∀ r, rV r v = v) (ho : ∀ r, rO r o = o) : Fun P H.size f args H fun o' H' => o' = o ∧ H' = H := by
  have h2 := fun_keep (H := H) (idx := []) (B := []) h rfl (by simp) (by simp) (by simp) (fun v hv => (ha v hv).1)
  rw [List.map_congr_left (g := id) fun v hv => (ha v hv).2 _, List.map_id] at h2
  simpa only [ho] using h2
/-- .. and leaves one block. -/
theorem new_one {args : List Value} {o o2 : Out} {b : Blk} (h : Fun P 0 f args (AH.of []) fun o' H' => o' = o ∧ H' = AH.of [b]) (ha : ∀ v ∈ args, scV 0 v = true ∧ ∀ r, rV r v = v) (hb : ∀ r, rB r b = b) (ho : ∀ r : Nat → Nat, r 0 = H.size → rO r o = o2) :
    Fun P H.size f args H fun o' H' => o' = o2 ∧ H' = H.push b := by
  have h2 := fun_placed (H := H) (idx := []) (B := []) (B2 := [b]) h (by simp) rfl (by simp) (by simp) (by simp) (fun v hv => (ha v hv).1)
  rw [List.map_congr_left (g := id) fun v hv => (ha v hv).2 _, List.map_id] at h2
  have e : placed H (rI []) ([] : List Blk).length [b] = H.push b := by
    show H.push (rB _ b) = _
    rw [hb]
  rw [e, ho (rr (rI []) ([] : List Blk).length H.size) (by simp [rr])] at h2
  exact h2
end

theorem lPts_len (l : List Int) : ∀ n i, (lPts l n i).length = n
  | 0, _ => rfl
  | n + 1, i => by rw [lPts, List.length_cons, lPts_len l n]
theorem mkL_pts (l : List Int) {kd n : Nat} (h : kd ≠ 1 → n = 0) : (mkL l kd n).shape.pts.length = n := by
  by_cases hk : kd = 1
  · subst hk
    exact lPts_len l n 6
  · rw [h hk]
    unfold mkL
    split <;> first | rfl | exact absurd rfl hk
theorem rdCall_pts {s : ByteArray} {c : Cl} (h : rdCall s = .ok c) : c.shape.pts.length = ptOf s := by
  unfold rdCall at h
  split at h
  · split at h
    · split at h
      · split at h
        · injection h with h
          rw [← h]
          refine mkL_pts _ fun hk => ?_
          unfold ptOf
          rw [if_neg (fun h => hk h.1)]
        · cases h
      · cases h
    · cases h
  · cases h
theorem decF_err (s : ByteArray) : ∀ (fs : List Fk) (a : Nat) (e : Int), decF s fs a = .error e → e = 4 ∨ e = 7
  | [], _, e, h => by cases h
  | f :: fs, a, e, h => by
    unfold decF at h
    split at h
    · split at h
      · split at h
        · cases h
        · rename_i e' he
          injection h with h
          subst h
          exact decF_err s fs _ _ he
      · injection h with h; exact .inl h.symm
    · injection h with h; exact .inr h.symm
theorem rdCall_err {s : ByteArray} {e : Int} (h : rdCall s = .error e) : e ≠ 0 := by
  unfold rdCall at h
  split at h
  · split at h
    · split at h
      · split at h
        · cases h
        · injection h with h; omega
      · rename_i e' he
        injection h with h
        have := decF_err s _ _ _ he
        omega
    · injection h with h; omega
  · injection h with h; omega
theorem rd_run (s : ByteArray) (hs : s.size ≤ 4611686018427387903) : ∃ (j n : Nat) (src : List Nat) (p : Value), (n = 0 ∧ src = [] ∧ p = slN 0 0 ∨ n ≠ 0 ∧ n = ptOf s ∧ src = [4 + 3 * n] ∧ p = slI (4 + 3 * n) n n) ∧ (∀ c, rdCall s = .ok c → n = ptOf s) ∧
    ∀ g, rdRun s g j n src = match rdCall s with | .ok c => g (.ret (.tuple #[.agg ⟨c.cells p⟩, .int .i64 0])) (if n = 0 then [] else [some (ptB c.shape.pts true true)]) | .error e => erC g e := by
  have no : ∀ kd, noParts (fmtK kd 0) = true → PartsOK s (fmtK kd 0) 1 := fun kd h => parts_no h
  by_cases h1 : beN s 0 1 = 1
  · have hpt : ptOf s = if beN s 30 1 ≤ 8 then beN s 30 1 else 0 := by
      unfold ptOf
      by_cases h : beN s 30 1 ≤ 8
      · rw [if_pos ⟨h1, h⟩, if_pos h]
      · rw [if_neg (fun h2 => h h2.2), if_neg h]
    have hp : PartsOK s (fmtK 1 (ptOf s)) 1 := parts_fmt s _ fun h => by rw [hpt, if_pos h]
    have h8 : ptOf s ≤ 8 := by rw [hpt]; split <;> omega
    have key : ∀ n, n = ptOf s → ∃ (src : List Nat) (p : Value), (n = 0 ∧ src = [] ∧ p = slN 0 0 ∨ n ≠ 0 ∧ n = ptOf s ∧ src = [4 + 3 * n] ∧ p = slI (4 + 3 * n) n n) ∧
        ∀ g, rdRun s g 1 n src = rdNest s g p (fun c => if n = 0 then [] else [some (ptB c.shape.pts true true)]) 1 n := by
      intro n hn
      have h8 : n ≤ 8 := by omega
      match n, h8, hn with
      | 0, _, _ => exact ⟨[], _, .inl ⟨rfl, rfl, rfl⟩, fun g => rd1_0 s g⟩
      | 1, _, hn => exact ⟨_, _, .inr ⟨by decide, hn, rfl, rfl⟩, fun g => rd1_1 s g⟩
      | 2, _, hn => exact ⟨_, _, .inr ⟨by decide, hn, rfl, rfl⟩, fun g => rd1_2 s g⟩
      | 3, _, hn => exact ⟨_, _, .inr ⟨by decide, hn, rfl, rfl⟩, fun g => rd1_3 s g⟩
      | 4, _, hn => exact ⟨_, _, .inr ⟨by decide, hn, rfl, rfl⟩, fun g => rd1_4 s g⟩
      | 5, _, hn => exact ⟨_, _, .inr ⟨by decide, hn, rfl, rfl⟩, fun g => rd1_5 s g⟩
      | 6, _, hn => exact ⟨_, _, .inr ⟨by decide, hn, rfl, rfl⟩, fun g => rd1_6 s g⟩
      | 7, _, hn => exact ⟨_, _, .inr ⟨by decide, hn, rfl, rfl⟩, fun g => rd1_7 s g⟩
      | 8, _, hn => exact ⟨_, _, .inr ⟨by decide, hn, rfl, rfl⟩, fun g => rd1_8 s g⟩
      | n + 9, h8, _ => omega
    obtain ⟨src, p, hsp, hr⟩ := key _ rfl
    refine ⟨1, ptOf s, src, p, hsp, fun _ _ => rfl, fun g => ?_⟩
    rw [hr, rdNest_eq s g p _ hs fun _ _ => ⟨h1.symm, rfl, hp⟩]
    rfl
  · have hpt : ptOf s = 0 := by
      unfold ptOf
      rw [if_neg (fun h => h1 h.1)]
    have key : ∃ j, ((1 ≤ beN s 0 1 ∧ beN s 0 1 ≤ 10) → j = beN s 0 1) ∧ PartsOK s (fmtK j 0) 1 ∧ ∀ g, rdRun s g j 0 [] = rdNest s g (slN 0 0) (fun _ => []) j 0 := by
      generalize beN s 0 1 = k at h1
      have : k = 2 ∨ k = 3 ∨ k = 4 ∨ k = 5 ∨ k = 6 ∨ k = 7 ∨ k = 8 ∨ k = 9 ∨ (k = 10 ∨ ¬ (1 ≤ k ∧ k ≤ 10)) := by omega
      rcases this with rfl | rfl | rfl | rfl | rfl | rfl | rfl | rfl | h
      · exact ⟨2, fun _ => rfl, no 2 rfl, fun g => rd2 s g⟩
      · exact ⟨3, fun _ => rfl, no 3 rfl, fun g => rd3 s g⟩
      · exact ⟨4, fun _ => rfl, no 4 rfl, fun g => rd4 s g⟩
      · exact ⟨5, fun _ => rfl, no 5 rfl, fun g => rd5 s g⟩
      · exact ⟨6, fun _ => rfl, no 6 rfl, fun g => rd6 s g⟩
      · exact ⟨7, fun _ => rfl, no 7 rfl, fun g => rd7 s g⟩
      · exact ⟨8, fun _ => rfl, no 8 rfl, fun g => rd8 s g⟩
      · exact ⟨9, fun _ => rfl, no 9 rfl, fun g => rd9 s g⟩
      · exact ⟨10, fun h2 => by omega, no 10 rfl, fun g => rd10 s g⟩
    obtain ⟨j, hj, hp, hr⟩ := key
    refine ⟨j, 0, [], slN 0 0, .inl ⟨rfl, rfl, rfl⟩, fun _ _ => hpt.symm, fun g => ?_⟩
    rw [hr, rdNest_eq s g _ _ hs fun _ h2 => ⟨hj h2, hpt.symm, hp⟩]
    rfl

/-- A value that the kernel does not open. -/
noncomputable def hid {α : Type} (a : α) : α := Classical.choose (⟨a, rfl⟩ : ∃ b, b = a)
theorem hid_eq {α : Type} (a : α) : hid a = a := Classical.choose_spec (⟨a, rfl⟩ : ∃ b, b = a)
noncomputable def readS : List Value → AH → (Out → AH → Res) → Res := fun args H k =>
  match args with
  | [.string s] => bif Nat.ble s.size 4611686018427387903 then (match hid (rdCall s) with
    | .error e => k (.ret (.tuple #[zC.val none 0, .int .i64 e])) H
    | .ok c => bif asks (c.shape.pts = []) then k (.ret (.tuple #[c.val none 0, .int .i64 0])) H
      else k (.ret (.tuple #[c.val (some ⟨H.size, 0, none⟩) c.shape.pts.length, .int .i64 0])) (H.push (ptB c.shape.pts true true))) else none
  | _ => none
theorem tup_ren (r : Nat → Nat) (c : Cl) (p : Value) (e : Int) : rO r (.ret (.tuple #[.agg ⟨c.cells p⟩, .int .i64 e])) = .ret (.tuple #[.agg ⟨c.cells (rS r p)⟩, .int .i64 e]) := by
  have h1 := rV_cells r c p
  show Out.ret (.tuple (#[Value.agg ⟨c.cells p⟩, .int .i64 e].map (rT r))) = _
  rw [List.map_toArray]
  have h2 : rT r (.agg ⟨c.cells p⟩) = .agg ⟨c.cells (rS r p)⟩ := h1
  rw [List.map_cons, List.map_cons, List.map_nil, h2]
  rfl
theorem tup_view (src : List Nat) (c : Cl) (p : Value) (e : Int) : vO src (.ret (.tuple #[.agg ⟨c.cells p⟩, .int .i64 e])) = .ret (.tuple #[.agg ⟨c.cells (vS (pV src) p)⟩, .int .i64 e]) := by
  have h1 := vV_cells (pV src) c p
  show Out.ret (.tuple (#[Value.agg ⟨c.cells p⟩, .int .i64 e].map (vT (pV src)))) = _
  rw [List.map_toArray]
  have h2 : vT (pV src) (.agg ⟨c.cells p⟩) = .agg ⟨c.cells (vS (pV src) p)⟩ := h1
  rw [List.map_cons, List.map_cons, List.map_nil, h2]
  rfl
theorem tup_ok (src : List Nat) (n : Nat) (c : Cl) (p : Value) (e : Int) (h : okS (pV src) n p = true) : okO src n (.ret (.tuple #[.agg ⟨c.cells p⟩, .int .i64 e])) = true := by
  have h1 := okV_cells (pV src) n c p h
  show List.all [Value.agg ⟨c.cells p⟩, .int .i64 e] (okT (pV src) n) = true
  rw [List.all_cons]
  show (okT (pV src) n (.agg ⟨c.cells p⟩) && true) = true
  rw [Bool.and_true]
  exact h1
theorem readS_ok : CallOK Try.prog (fun g args H k => if g = 38 then readS args H k else none) := by
  refine callOK_of_fun fun args H k r hr => ?_
  unfold readS at hr
  split at hr
  · rename_i s
    obtain ⟨hs, hr2⟩ := cond_some hr
    clear hr
    rw [hid_eq] at hr2
    rw [Nat.ble_eq] at hs
    have ha : ∀ v ∈ [Value.string s], scV 0 v = true ∧ ∀ r, rV r v = v := by
      intro v hv
      rw [List.mem_singleton] at hv
      subst hv
      exact ⟨rfl, fun _ => rfl⟩
    obtain ⟨j, n, src, p, hsp, hc, hrun⟩ := rd_run s hs
    cases hd : rdCall s with
    | error e =>
      rw [hd] at hr2 hrun
      have he := rdCall_err hd
      have ho : ∀ (n' : Nat), vO [] (.ret (.tuple #[zC.val none 0, .int .i64 e])) = .ret (.tuple #[zC.val none 0, .int .i64 e]) ∧ okO [] n' (.ret (.tuple #[zC.val none 0, .int .i64 e])) = true := fun n' => ⟨tup_view [] zC _ e, tup_ok [] n' zC _ e rfl⟩
      have h0 : Fun Try.prog 0 38 [.string s] (AH.of []) fun o H' => o = .ret (.tuple #[zC.val none 0, .int .i64 e]) ∧ H' = AH.of [] := by
        refine fun_of_pickE try_num try_mix (tR_ok j n) (loops := 100) (n := 30) (pkE src) [] [] _ (low_of _ rfl) (fun H' => ?_) (fun g => ?_) rfl (by simp) (by simp) (by simp) (ho 0).2 (by simp) (by simp)
        · rw [(ho 0).1]
          show (bif e == 0 then pick H' src else []) = []
          rw [show (e == 0) = false from by simpa using he]; rfl
        · exact (hrun g).trans (by rw [(ho 0).1]; rfl)
      exact ⟨_, new_none h0 ha (fun r => tup_ren r zC _ e), fun o H' ⟨h1, h2⟩ => by rw [h1, h2]; exact hr2⟩
    | ok c =>
      rw [hd] at hr2 hrun
      have hn := hc c hd
      have hl := rdCall_pts hd
      rcases hsp with ⟨rfl, rfl, rfl⟩ | ⟨hn0, _, rfl, rfl⟩
      · have hp : c.shape.pts = [] := List.eq_nil_of_length_eq_zero (by omega)
        simp only [asks_true hp, cond_true] at hr2
        have h0 : Fun Try.prog 0 38 [.string s] (AH.of []) fun o H' => o = .ret (.tuple #[c.val none 0, .int .i64 0]) ∧ H' = AH.of [] := by
          refine fun_of_pickE try_num try_mix (tR_ok j 0) (loops := 100) (n := 30) (pkE []) [] [] _ (low_of _ rfl) (fun H' => by rw [tup_view]; rfl) (fun g => ?_) rfl (by simp) (by simp) (by simp) (tup_ok _ _ _ _ _ rfl) (by simp) (by simp)
          exact (hrun g).trans (by rw [tup_view]; rfl)
        exact ⟨_, new_none h0 ha (fun r => tup_ren r c _ 0), fun o H' ⟨h1, h2⟩ => by rw [h1, h2]; exact hr2⟩
      · have hp : ¬ c.shape.pts = [] := fun h => by rw [h] at hl; simp at hl; omega
        simp only [asks_false hp, cond_false] at hr2
        have hlen : c.shape.pts.length = n := by omega
        rw [hlen] at hr2
        have hb : ∀ r, rB r (ptB c.shape.pts true true) = ptB c.shape.pts true true := fun r => rB_ptB r _ _ _
        have h0 : Fun Try.prog 0 38 [.string s] (AH.of []) fun o H' => o = .ret (.tuple #[c.val (some ⟨0, 0, none⟩) n, .int .i64 0]) ∧ H' = AH.of [ptB c.shape.pts true true] := by
          have ev : vO [4 + 3 * n] (.ret (.tuple #[c.val (some ⟨0, 0, none⟩) n, .int .i64 0])) = .ret (.tuple #[.agg ⟨c.cells (slI (4 + 3 * n) n n)⟩, .int .i64 0]) := tup_view _ _ _ _
          refine fun_of_pickE try_num try_mix (tR_ok j n) (loops := 100) (n := 30) (pkE [4 + 3 * n]) [4 + 3 * n] [ptB c.shape.pts true true] _ (low_of _ rfl) (fun H' => by rw [ev]; rfl) (fun g => ?_) rfl ?_ (by simp) (by simp) ?_ ?_ ?_
          · refine (hrun g).trans ?_
            simp only [if_neg hn0]
            rw [ev, List.map_cons, List.map_nil, vB_const (src := [4 + 3 * n]) (b := ptB c.shape.pts true true) (flat_sc0 _) rfl]
          · intro a b ha hb _
            simp only [List.length_singleton] at ha hb
            omega
          · exact tup_ok _ _ _ _ _ rfl
          · intro b hb
            rw [List.mem_singleton] at hb
            subst hb
            exact ⟨all_sc0_ok (flat_sc0 _), fun _ => flat_sc0 _, rfl, rfl, fun _ => flat_sc0 _⟩
          · intro i b hi hw
            match i, hi with
            | 0, hi =>
              have : ptB c.shape.pts true true = b := by simpa using hi
              subst this
              cases hw
            | i + 1, hi => simp at hi
        refine ⟨fun o H' => o = .ret (.tuple #[c.val (some ⟨H.size, 0, none⟩) n, .int .i64 0]) ∧ H' = H.push (ptB c.shape.pts true true), new_one h0 ha hb (fun r hr => ?_), fun o H' ⟨h1, h2⟩ => by rw [h1, h2]; exact hr2⟩
        rw [tup_ren]
        show Out.ret (.tuple #[.agg ⟨c.cells (.slice (some ⟨r 0, 0, none⟩) n n)⟩, .int .i64 0]) = _
        rw [hr]
  · cases hr
end Go.RX
