/- wire.Call: the bytes of calls. -/
import Derived.Test.YtnidbincddpaaaaW5
namespace Go.RX
open Go Go.Proofs Go.RowKit
set_option maxRecDepth 100000

/-- need, where what is needed holds. -/
noncomputable def needA : List Value → AH → (Out → AH → Res) → Res := fun args H k =>
  match args with
  | [_, .bool ok] => bif ok then k (.ret (.tuple #[])) H else none
  | _ => none
theorem need_run (p : Value) (H : AH) (k : Out → AH → Res) : run Try.prog (fun _ => none) 100 30 134 [p, .bool true] H k = k (.ret (.tuple #[])) H := by kernel_rfl
theorem needA_ok : CallOK Try.prog (fun g args H k => if g = 134 then needA args H k else none) := by
  refine callOK_of_fun fun args H k r hr => ?_
  unfold needA at hr
  split at hr
  · rename_i p ok
    obtain ⟨hc, hr2⟩ := cond_some hr
    have hc : ok = true := hc
    subst hc
    refine ⟨fun o H' => o = .ret (.tuple #[]) ∧ H' = H, fun_of_run try_num try_mix tbl_none (loops := 100) (n := 30) (Low.all H) (fun k r h => ?_), fun o' H' ⟨h1, h2⟩ => by rw [h1, h2]; exact hr2⟩
    rw [need_run]
    exact h _ _ ⟨rfl, rfl⟩
  · cases hr
/-- A writer, and its bytes. -/
@[reducible] def wrB (i n : Nat) (bad : Bool) (t : TypeId) : Blk := row [.slice (some ⟨i, 0, none⟩) n n, .bool bad] t false
@[reducible] def byB (l : List Value) (live : Bool) : Blk := ⟨l, 5, true, live, true, none⟩
def fl (is : Bool) : Value := .int .u8 (bif is then 1 else 0)
def u8V (x : Int) (k : Nat) : Value := .int .u8 (IntKind.u8.wrap (x.fdiv (2 ^ k)))
noncomputable def app1 (old : List Value) (n : Nat) (v : Value) : List Value := lapp (ltake (ldrop old 0) (Nat.mul n 1)) [v]
noncomputable def appC (old : List Value) (n : Nat) : Bool := Nat.ble (Nat.mul (Nat.add n 1) 1) 1000000000 && Nat.ble (Nat.add n 1) 1000000000 && Nat.ble n n && Nat.ble (Nat.add 0 (Nat.mul n 1)) (llen old) && true
noncomputable def putN (bad : Bool) (t : TypeId) (g : Out → List (Option Blk) → Res) : List Value → List Value → Nat → List Blk → Nat → Res
  | [], cur, n, stk, top => g (.ret (.tuple #[])) (some (byB cur true) :: (stk.map some ++ [some (wrB top n bad t)]))
  | x :: xs, cur, n, stk, top => bif appC cur n then putN bad t g xs (app1 cur n x) (Nat.add n 1) (byB [x] true :: byB cur false :: stk) (top + 2) else none
section
variable (old : List Value) (n : Nat) (is : Bool) (bad : Bool) (t : TypeId) (v : Int) (g : Out → List (Option Blk) → Res)
theorem put4_nest : run Try.prog (fun _ => none) 100 30 94 [.pointer (some ⟨0,0,none⟩), .int .u64 v, .int .i64 4] (AH.of [wrB 1 n bad t, byB old true]) (fun o H' => g o (seen H' 10)) =
  putN bad t g [u8V v 24, u8V v 16, u8V v 8, u8V v 0] old n [] 1 := by kernel_rfl
theorem put8_nest : run Try.prog (fun _ => none) 100 30 94 [.pointer (some ⟨0,0,none⟩), .int .u64 v, .int .i64 8] (AH.of [wrB 1 n bad t, byB old true]) (fun o H' => g o (seen H' 18)) =
  putN bad t g [u8V v 56, u8V v 48, u8V v 40, u8V v 32, u8V v 24, u8V v 16, u8V v 8, u8V v 0] old n [] 1 := by kernel_rfl
theorem octet_nest : run Try.prog (fun _ => none) 100 30 95 [.pointer (some ⟨0,0,none⟩), .int .i64 v] (AH.of [wrB 1 n bad t, byB old true]) (fun o H' => g o (seen H' 4)) =
  putN bad t g [.int .u8 (IntKind.u8.wrap v)] old n [] 1 := by kernel_rfl
theorem flag_nest : run Try.prog (fun _ => none) 100 30 102 [.pointer (some ⟨0,0,none⟩), .bool is] (AH.of [wrB 1 n bad t, byB old true]) (fun o H' => g o (seen H' 4)) =
  bif is then putN bad t g [.int .u8 1] old n [] 1 else putN bad t g [.int .u8 0] old n [] 1 := by kernel_rfl
end

theorem appC_true {old : List Value} {n : Nat} (hn : n = old.length) (h : n ≤ 2000000) : appC old n = true := by
  unfold appC
  rw [llen_eq]
  simp only [Bool.and_true, Bool.and_eq_true, Nat.ble_eq, Nat.add_eq, Nat.mul_eq]
  omega
theorem app1_eq {old : List Value} {n : Nat} (hn : n = old.length) (v : Value) : app1 old n v = old ++ [v] := by
  unfold app1
  rw [lapp_eq, ltake_eq, ldrop_eq, List.drop_zero, show Nat.mul n 1 = old.length by simp [hn], List.take_length]
theorem putN_eq (bad : Bool) (t : TypeId) : ∀ (xs cur : List Value) (n : Nat) (stk : List Blk) (top : Nat), n = cur.length → n + xs.length ≤ 1000000 → cur.all (scS 0) = true → xs.all (scS 0) = true →
    (∀ b ∈ stk, b.cells.all (scS 0) = true ∧ b.mp = none ∧ b.wr = true) → ∃ stk' : List Blk, stk'.length = stk.length + 2 * xs.length ∧ (∀ b ∈ stk', b.cells.all (scS 0) = true ∧ b.mp = none ∧ b.wr = true) ∧
      ∀ g, putN bad t g xs cur n stk top = g (.ret (.tuple #[])) (some (byB (cur ++ xs) true) :: (stk'.map some ++ [some (wrB (top + 2 * xs.length) (n + xs.length) bad t)]))
  | [], cur, n, stk, top, hn, h, hc, hx, hs => ⟨stk, rfl, hs, fun g => by rw [List.append_nil]; rfl⟩
  | x :: xs, cur, n, stk, top, hn, h, hc, hx, hs => by
    rw [List.all_cons, Bool.and_eq_true] at hx
    have hl : (x :: xs).length = xs.length + 1 := rfl
    obtain ⟨stk', h1, h2, h3⟩ := putN_eq bad t xs (cur ++ [x]) (n + 1) (byB [x] true :: byB cur false :: stk) (top + 2) (by simp [hn]) (by omega) (by rw [List.all_append, hc]; simp [hx.1]) hx.2 (by
      intro b hb
      rcases List.mem_cons.1 hb with rfl | hb
      · exact ⟨by simp [hx.1], rfl, rfl⟩
      · rcases List.mem_cons.1 hb with rfl | hb
        · exact ⟨hc, rfl, rfl⟩
        · exact hs b hb)
    refine ⟨stk', by rw [h1]; simp only [List.length_cons]; omega, h2, fun g => ?_⟩
    rw [putN, appC_true hn (by omega), cond_true, app1_eq hn]
    refine (h3 g).trans ?_
    rw [List.append_assoc, List.singleton_append, hl, show top + 2 + 2 * xs.length = top + 2 * (xs.length + 1) by omega, show n + 1 + xs.length = n + (xs.length + 1) by omega]

theorem sc0_ok {V : Nat → View} {n : Nat} {v : Value} (h : scS 0 v = true) : okS V n v = true := by
  cases v with
  | pointer a => cases a with
    | none => rfl
    | some a => simp [scS] at h
  | slice a l c => cases a with
    | none => rfl
    | some a => simp [scS] at h
  | map r => cases r with
    | none => rfl
    | some r => simp [scS] at h
  | agg cs => simp [scS] at h
  | tuple cs => simp [scS] at h
  | iface t u => simpa [scS, okS] using h
  | func f a b => simpa [scS, okS] using h
  | _ => rfl
theorem sc0_vS {V : Nat → View} {v : Value} (h : scS 0 v = true) : vS V v = v := by
  cases v with
  | pointer a => cases a with
    | none => rfl
    | some a => simp [scS] at h
  | slice a l c => cases a with
    | none => rfl
    | some a => simp [scS] at h
  | map r => cases r with
    | none => rfl
    | some r => simp [scS] at h
  | _ => rfl
theorem all_sc0_ok {V : Nat → View} {n : Nat} {l : List Value} (h : l.all (scS 0) = true) : l.all (okS V n) = true := List.all_eq_true.2 fun v hv => sc0_ok (List.all_eq_true.1 h v hv)
theorem all_sc0_vS {V : Nat → View} {l : List Value} (h : l.all (scS 0) = true) : l.map (vS V) = l := (List.map_congr_left (g := id) fun v hv => sc0_vS (List.all_eq_true.1 h v hv)).trans (List.map_id _)
theorem byB_fine {n : Nat} {l : List Value} (h : l.all (scS 0) = true) (live : Bool) : Fine n (byB l live) := ⟨List.all_eq_true.2 fun v hv => scS_mono (Nat.zero_le _) v (List.all_eq_true.1 h v hv), fun _ => h, rfl⟩
theorem wrB_fine {m i : Nat} (h : i < m) (n : Nat) (bad : Bool) (t : TypeId) : Fine m (wrB i n bad t) := by
  refine ⟨?_, by simp, rfl⟩
  simp [scS]
  omega

def growV (k : Nat) : Nat → View := fun i => if i < 2 then ⟨i, 0, none⟩ else ⟨k, 0, none⟩
theorem grow_fun {f : FuncId} {args : List Value} {xs old : List Value} {n : Nat} {bad : Bool} {t : TypeId} (hn : n = old.length) (hn2 : n + xs.length ≤ 1000000) (ho : old.all (scS 0) = true) (hx : xs.all (scS 0) = true)
    (hnest : ∀ g, run Try.prog (fun _ => none) 100 30 f args (AH.of [wrB 1 n bad t, byB old true]) (fun o H' => g o (seen H' (2 * xs.length + 2))) = putN bad t g xs old n [] 1) :
    Fun Try.prog 2 f args (AH.of [wrB 1 n bad t, byB old true]) fun o H' => o = .ret (.tuple #[]) ∧ H' = AH.of [wrB 2 (n + xs.length) bad t, dead, byB (old ++ xs) true] := by
  obtain ⟨stk, h1, h2, h3⟩ := putN_eq bad t xs old n [] 1 hn hn2 ho hx (by simp)
  simp only [List.length_nil, Nat.zero_add] at h1
  have hox : (old ++ xs).all (scS 0) = true := by rw [List.all_append, ho, hx]; rfl
  have hlen : (wrB (1 + 2 * xs.length) (n + xs.length) bad t :: (stk.reverse ++ [byB (old ++ xs) true])).length = 2 * xs.length + 2 := by simp [h1]
  have hfun : Fun Try.prog 2 f args (AH.of [wrB 1 n bad t, byB old true]) fun o H' => o = .ret (.tuple #[]) ∧ H' = AH.of (wrB (1 + 2 * xs.length) (n + xs.length) bad t :: (stk.reverse ++ [byB (old ++ xs) true])) := by
    refine fun_of_see try_num try_mix tbl_none (loops := 100) (n := 30) _ (low_of _ rfl) (fun g => ?_) (by rw [hlen]; omega) rfl ?_
    · rw [hlen]
      refine (hnest g).trans ((h3 g).trans ?_)
      simp
    · rw [hlen]
      refine List.all_eq_true.2 fun b hb => ?_
      have key : ∀ {b : Blk}, Fine (2 * xs.length + 2) b → (b.cells.all (scS (2 * xs.length + 2)) && b.mp.isNone) = true := fun h => by rw [h.1, h.2.2]; rfl
      rcases List.mem_cons.1 hb with rfl | hb
      · exact key (wrB_fine (by omega) _ _ _)
      · rcases List.mem_append.1 hb with hb | hb
        · have := h2 b (List.mem_reverse.1 hb)
          exact key ⟨List.all_eq_true.2 fun v hv => scS_mono (Nat.zero_le _) v (List.all_eq_true.1 this.1 v hv), fun _ => this.1, this.2.1⟩
        · rw [List.mem_singleton] at hb
          subst hb
          exact key (byB_fine hox _)
  have hg0 : (AH.of (wrB (1 + 2 * xs.length) (n + xs.length) bad t :: (stk.reverse ++ [byB (old ++ xs) true]))).get 0 = some (wrB (1 + 2 * xs.length) (n + xs.length) bad t) := by rw [AH.get_of]; rfl
  have hgk : (AH.of (wrB (1 + 2 * xs.length) (n + xs.length) bad t :: (stk.reverse ++ [byB (old ++ xs) true]))).get (1 + 2 * xs.length) = some (byB (old ++ xs) true) := by
    rw [AH.get_of, Nat.add_comm 1, List.getElem?_cons_succ, List.getElem?_append_right (by simp [h1])]
    simp [h1]
  have hget : ∀ (i : Nat) (b : Blk), (AH.of [wrB 2 (n + xs.length) bad t, dead, byB (old ++ xs) true]).get i = some b → (i = 0 ∧ b = wrB 2 (n + xs.length) bad t) ∨ (i = 1 ∧ b = dead) ∨ (i = 2 ∧ b = byB (old ++ xs) true) := by
    intro i b hi
    rw [AH.get_of] at hi
    match i, hi with
    | 0, hi => exact .inl ⟨rfl, by simpa using hi.symm⟩
    | 1, hi => exact .inr (.inl ⟨rfl, by simpa using hi.symm⟩)
    | 2, hi => exact .inr (.inr ⟨rfl, by simpa using hi.symm⟩)
    | i + 3, hi => simp at hi
  refine hfun.fits rfl (Fits.view _ (growV (1 + 2 * xs.length)) (fun i hi => by simp [growV, hi]) ?_ ?_ (fun t v hv => by rw [Tr.get_e] at hv; cases hv)) (fun _ => ⟨by rw [AH.size_of]; simp, fun i b hi hb hw => ?_, fun i b hi hw => ?_⟩)
  · intro i b hi
    rw [AH.size_of]
    rcases hget i b hi with ⟨rfl, rfl⟩ | ⟨rfl, rfl⟩ | ⟨rfl, rfl⟩
    · exact Seen.row rfl hg0 rfl rfl rfl (by simp [growV, vS]) (Nat.zero_le _) (by simp [okS, growV]) (by simp)
    · exact Seen.dead
    · exact Seen.row (b := byB (old ++ xs) true) rfl hgk rfl rfl rfl (by rw [all_sc0_vS hox]; rfl) (Nat.zero_le _) (all_sc0_ok hox) (fun _ => hox)
  · intro i j bi bj hi hj hai haj hw hne
    rcases hget i bi hi with ⟨rfl, rfl⟩ | ⟨rfl, rfl⟩ | ⟨rfl, rfl⟩
    · rcases hget j bj hj with ⟨rfl, rfl⟩ | ⟨rfl, rfl⟩ | ⟨rfl, rfl⟩
      · exact absurd rfl hne
      · cases haj
      · simp [growV]; omega
    · cases hai
    · rcases hget j bj hj with ⟨rfl, rfl⟩ | ⟨rfl, rfl⟩ | ⟨rfl, rfl⟩
      · simp [growV]
      · cases haj
      · exact absurd rfl hne
  · have : i = 0 ∨ i = 1 := by omega
    rcases this with rfl | rfl
    · rw [hg0] at hb
      injection hb with hb
      subst hb
      cases hw
    · rw [AH.get_of] at hb
      have hb := List.mem_of_getElem? hb
      rcases List.mem_cons.1 hb with rfl | hb
      · cases hw
      · rcases List.mem_append.1 hb with hb | hb
        · rw [(h2 b (List.mem_reverse.1 hb)).2.2] at hw; cases hw
        · rw [List.mem_singleton] at hb
          subst hb
          cases hw
  · rcases hget i b hi with ⟨rfl, rfl⟩ | ⟨rfl, rfl⟩ | ⟨rfl, rfl⟩ <;> cases hw

/-- A writer's bytes grow. -/
noncomputable def growS (xs : List Value) (p : Value) (H : AH) (k : Out → AH → Res) : Res :=
  match p with
  | .pointer (some ⟨i, o, none⟩) => (match H.get i with
    | some ⟨[.slice (some ⟨j, o2, none⟩) n c, .bool bad], t, true, true, false, none⟩ => (match H.get j with
      | some ⟨old, t2, true, true, true, none⟩ =>
        bif Nat.beq o 0 && (Nat.beq o2 0 && (Nat.beq t2 5 && (Nat.beq n (llen old) && (Nat.beq c n && (Nat.ble (Nat.add n (llen xs)) 1000000 && !Nat.beq i j))))) then
          k (.ret (.tuple #[])) (((H.set i (wrB H.size (Nat.add n (llen xs)) bad t)).set j dead).push (byB (lapp old xs) true)) else none
      | _ => none)
    | _ => none)
  | _ => none
noncomputable def putS : List Value → AH → (Out → AH → Res) → Res := fun args H k =>
  match args with
  | [p, .int .u64 v, .int .i64 (.ofNat 4)] => growS [u8V v 24, u8V v 16, u8V v 8, u8V v 0] p H k
  | [p, .int .u64 v, .int .i64 (.ofNat 8)] => growS [u8V v 56, u8V v 48, u8V v 40, u8V v 32, u8V v 24, u8V v 16, u8V v 8, u8V v 0] p H k
  | _ => none
@[reducible] def wrN (bad : Bool) (t : TypeId) : Blk := row [.slice none 0 0, .bool bad] t false
/-- The first byte. -/
noncomputable def firstS (x : Value) (p : Value) (H : AH) (k : Out → AH → Res) : Res :=
  match p with
  | .pointer (some ⟨i, o, none⟩) => (match H.get i with
    | some ⟨[.slice none 0 0, .bool bad], t, true, true, false, none⟩ => bif Nat.beq o 0 then k (.ret (.tuple #[])) ((H.set i (wrB H.size 1 bad t)).push (byB [x] true)) else none
    | _ => growS [x] p H k)
  | _ => none
noncomputable def octetS : List Value → AH → (Out → AH → Res) → Res := fun args H k =>
  match args with
  | [p, .int .i64 v] => firstS (.int .u8 (IntKind.u8.wrap v)) p H k
  | _ => none
noncomputable def flagS : List Value → AH → (Out → AH → Res) → Res := fun args H k =>
  match args with
  | [p, .bool is] => growS [fl is] p H k
  | _ => none
theorem rB_byB {r : Nat → Nat} {l : List Value} (h : l.all (scS 0) = true) (live : Bool) : rB r (byB l live) = byB l live := by
  have key : l.map (rS r) = l := (List.map_congr_left (g := id) fun v hv => rS_sc0 (List.all_eq_true.1 h v hv)).trans (List.map_id _)
  unfold rB byB
  rw [key]; rfl
theorem growS_fun {f : FuncId} {xs : List Value} {rest : List Value} (hrest : ∀ v ∈ rest, ∀ r : Nat → Nat, scV 0 v = true ∧ rV r v = v) (hx : xs.all (scS 0) = true)
    (hnest : ∀ (old : List Value) (n : Nat) (bad : Bool) (t : TypeId) g, run Try.prog (fun _ => none) 100 30 f (.pointer (some ⟨0, 0, none⟩) :: rest) (AH.of [wrB 1 n bad t, byB old true]) (fun o H' => g o (seen H' (2 * xs.length + 2))) = putN bad t g xs old n [] 1)
    {p : Value} {H : AH} {k : Out → AH → Res} {r : Out × AH} (hr : growS xs p H k = some r) : ∃ Q, Fun Try.prog H.size f (p :: rest) H Q ∧ ∀ o H', Q o H' → k o H' = some r := by
  unfold growS at hr
  split at hr
  · rename_i i o
    split at hr
    · rename_i j o2 n c bad t hi
      split at hr
      · rename_i old t2 hj
        obtain ⟨hc, hr2⟩ := cond_some hr
        clear hr
        simp only [Bool.and_eq_true, Nat.beq_eq, Nat.ble_eq, llen_eq, Bool.not_eq_true'] at hc
        obtain ⟨rfl, rfl, rfl, rfl, rfl, hn2, hij0⟩ := hc
        have hij : i ≠ j := by
          rintro rfl
          rw [show Nat.beq i i = true by rw [Nat.beq_eq]] at hij0
          cases hij0
        refine ⟨fun o H' => o = .ret (.tuple #[]) ∧ H' = ((H.set i (wrB H.size (Nat.add old.length (llen xs)) bad t)).set j dead).push (byB (lapp old xs) true), Fun.of_rel ?_, fun o' H' ⟨h1, h2⟩ => by rw [h1, h2]; exact hr2⟩
        rintro ⟨_, _, _, _, hR⟩
        have ho : old.all (scS 0) = true := hR.pl j _ hj rfl
        have hox : (old ++ xs).all (scS 0) = true := by rw [List.all_append, ho, hx]; rfl
        have h1 := grow_fun (n := old.length) (bad := bad) (t := t) rfl hn2 ho hx (hnest old old.length bad t)
        have h2 := fun_placed (H := H) (idx := [i, j]) (B := [wrB 1 old.length bad t, byB old true]) h1 (by simp) rfl ?_ ?_ ?_ ?_
        · have e0 : (Value.pointer (some ⟨0, 0, none⟩) :: rest).map (rV (rI [i, j])) = Value.pointer (some ⟨i, 0, none⟩) :: rest := by
            rw [List.map_cons, List.map_congr_left (g := id) fun v hv => (hrest v hv (rI [i, j])).2, List.map_id]
            rfl
          rw [e0] at h2
          refine h2.mono fun o' H' ⟨h1, h2⟩ => ⟨h1.trans (by simp [rO, rV]), h2.trans ?_⟩
          show (((H.set i (rB _ _)).set j (rB _ dead)).push (rB _ (byB (old ++ xs) true))) = _
          rw [rB_byB hox, lapp_eq, llen_eq]
          rfl
        · intro x y hx hy h
          match x, y, hx, hy, h with
          | 0, 0, _, _, _ => rfl
          | 1, 1, _, _, _ => rfl
          | 0, 1, _, _, h => exact absurd h hij
          | 1, 0, _, _, h => exact absurd h.symm hij
        · intro z x hz
          match z, hz with
          | 0, hz =>
            have : wrB 1 old.length bad t = x := by simpa using hz
            rw [← this]
            exact hi
          | 1, hz =>
            have : byB old true = x := by simpa using hz
            rw [← this, rB_byB ho]
            exact hj
        · intro b hb
          simp only [List.mem_cons, List.not_mem_nil, or_false] at hb
          rcases hb with rfl | rfl
          · exact wrB_fine (by simp) _ _ _
          · exact byB_fine ho _
        · intro v hv
          rcases List.mem_cons.1 hv with rfl | hv
          · rfl
          · exact scV_mono (Nat.zero_le _) v (hrest v hv id).1
      · cases hr
    · cases hr
  · cases hr
theorem putS_ok : CallOK Try.prog (fun g args H k => if g = 94 then putS args H k else none) := by
  refine callOK_of_fun fun args H k r hr => ?_
  unfold putS at hr
  have hrest : ∀ (v : Int) (n : Int), ∀ x ∈ [Value.int .u64 v, .int .i64 n], ∀ r : Nat → Nat, scV 0 x = true ∧ rV r x = x := by
    intro v n x hx r
    simp only [List.mem_cons, List.not_mem_nil, or_false] at hx
    rcases hx with rfl | rfl <;> exact ⟨rfl, rfl⟩
  split at hr
  · exact growS_fun (hrest _ _) rfl (fun old n bad t g => put4_nest old n bad t _ g) hr
  · exact growS_fun (hrest _ _) rfl (fun old n bad t g => put8_nest old n bad t _ g) hr
  · cases hr
theorem octetN_nest (bad : Bool) (t : TypeId) (v : Int) (g : Out → List (Option Blk) → Res) : run Try.prog (fun _ => none) 100 30 95 [.pointer (some ⟨0,0,none⟩), .int .i64 v] (AH.of [wrN bad t]) (fun o H' => g o (seen H' 3)) =
  g (.ret (.tuple #[])) [some (byB [.int .u8 (IntKind.u8.wrap v)] true), some (byB [.int .u8 (IntKind.u8.wrap v)] true), some (wrB 2 1 bad t)] := by kernel_rfl
def firstV : Nat → View := fun i => if i < 1 then ⟨i, 0, none⟩ else ⟨2, 0, none⟩
theorem octetN_fun (bad : Bool) (t : TypeId) (v : Int) : Fun Try.prog 1 95 [.pointer (some ⟨0,0,none⟩), .int .i64 v] (AH.of [wrN bad t]) fun o H' => o = .ret (.tuple #[]) ∧ H' = AH.of [wrB 1 1 bad t, byB [.int .u8 (IntKind.u8.wrap v)] true] := by
  have h : Fun Try.prog 1 95 [.pointer (some ⟨0,0,none⟩), .int .i64 v] (AH.of [wrN bad t]) fun o H' => o = .ret (.tuple #[]) ∧ H' = AH.of [wrB 2 1 bad t, byB [.int .u8 (IntKind.u8.wrap v)] true, byB [.int .u8 (IntKind.u8.wrap v)] true] :=
    fun_of_see try_num try_mix tbl_none (loops := 100) (n := 30) _ (low_of _ rfl) (fun g => octetN_nest bad t v g) (by simp) rfl (by simp [scS])
  refine h.fits rfl (Fits.view _ firstV (fun i hi => by simp [firstV, hi]) ?_ ?_ (fun t v hv => by rw [Tr.get_e] at hv; cases hv)) (fun _ => ⟨by rw [AH.size_of]; simp, fun i b hi hb hw => ?_, fun i b hi hw => ?_⟩)
  · intro i b hi
    rw [AH.size_of]
    rw [AH.get_of] at hi
    match i, hi with
    | 0, hi =>
      have : b = wrB 1 1 bad t := by simpa using hi.symm
      subst this
      exact Seen.row (b := wrB 2 1 bad t) rfl (by rw [AH.get_of]; rfl) rfl rfl rfl (by simp [firstV, vS]) (Nat.zero_le _) (by simp [okS, firstV]) (by simp)
    | 1, hi =>
      have : b = byB [.int .u8 (IntKind.u8.wrap v)] true := by simpa using hi.symm
      subst this
      exact Seen.row (b := byB [.int .u8 (IntKind.u8.wrap v)] true) rfl (by rw [AH.get_of]; rfl) rfl rfl rfl rfl (Nat.zero_le _) (by simp [okS]) (fun _ => rfl)
    | i + 2, hi => simp at hi
  · intro i j bi bj hi hj _ _ _ hne
    rw [AH.get_of] at hi hj
    match i, j, hi, hj, hne with
    | 0, 0, _, _, hne => exact absurd rfl hne
    | 0, 1, _, _, _ => simp [firstV]
    | 1, 0, _, _, _ => simp [firstV]
    | 1, 1, _, _, hne => exact absurd rfl hne
    | i + 2, _, hi, _, _ => simp at hi
    | _, j + 2, _, hj, _ => simp at hj
  · have : i = 0 := by omega
    subst this
    rw [AH.get_of] at hb
    have : b = wrB 2 1 bad t := by simpa using hb.symm
    subst this
    cases hw
  · rw [AH.get_of] at hi
    match i, hi with
    | 0, hi =>
      have : b = wrB 1 1 bad t := by simpa using hi.symm
      subst this
      cases hw
    | 1, hi =>
      have : b = byB [.int .u8 (IntKind.u8.wrap v)] true := by simpa using hi.symm
      subst this
      cases hw
    | i + 2, hi => simp at hi
theorem octetS_ok : CallOK Try.prog (fun g args H k => if g = 95 then octetS args H k else none) := by
  refine callOK_of_fun fun args H k r hr => ?_
  unfold octetS at hr
  split at hr
  · rename_i p v
    unfold firstS at hr
    split at hr
    · rename_i i o
      split at hr
      · rename_i bad t hi
        obtain ⟨hc, hr2⟩ := cond_some hr
        clear hr
        rw [Nat.beq_eq] at hc
        subst hc
        have h2 := fun_placed (H := H) (idx := [i]) (B := [wrN bad t]) (octetN_fun bad t v) (by simp) rfl ?_ ?_ ?_ ?_
        · refine ⟨_, h2, fun o' H' ⟨h1, h2⟩ => ?_⟩
          rw [h1, h2, show rO (rr (rI [i]) [wrN bad t].length H.size) (.ret (.tuple #[])) = .ret (.tuple #[]) by simp [rO, rV]]
          exact hr2
        · intro x y hx hy _
          simp only [List.length_singleton] at hx hy
          omega
        · intro z x hz
          match z, hz with
          | 0, hz =>
            have : wrN bad t = x := by simpa using hz
            rw [← this]
            exact hi
        · intro b hb
          rw [List.mem_singleton] at hb
          subst hb
          exact ⟨by simp [scS], by simp, rfl⟩
        · intro v hv
          simp only [List.mem_cons, List.not_mem_nil, or_false] at hv
          rcases hv with rfl | rfl <;> rfl
      · exact growS_fun (fun x hx r => by rw [List.mem_singleton] at hx; subst hx; exact ⟨rfl, rfl⟩) rfl (fun old n bad t g => octet_nest old n bad t _ g) hr
    · cases hr
  · cases hr
theorem flagS_ok : CallOK Try.prog (fun g args H k => if g = 102 then flagS args H k else none) := by
  refine callOK_of_fun fun args H k r hr => ?_
  unfold flagS at hr
  split at hr
  · rename_i p is
    exact growS_fun (xs := [fl is]) (fun x hx r => by rw [List.mem_singleton] at hx; subst hx; exact ⟨rfl, rfl⟩) rfl (fun old n bad t g => (flag_nest old n is bad t g).trans (by cases is <;> rfl)) hr
  · cases hr
end Go.RX
