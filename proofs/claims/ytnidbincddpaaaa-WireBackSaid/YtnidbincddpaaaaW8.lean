/- wire.Call: what it is asked, and what it tells. -/
import Derived.Test.YtnidbincddpaaaaW7
namespace Go.RX
open Go Go.Proofs Go.RowKit
set_option maxRecDepth 100000

def mkK (kd : Nat) (c : Cl) : Cl :=
  match kd with
  | 1 => mk1 c.id c.shape.kind c.shape.r c.shape.w c.shape.h c.pose c.v c.w c.den c.moves c.shape.pts
  | 2 => mk2 c.id c.body c.ver
  | 3 => mk3 c.id c.body c.ver c.pt c.to
  | 4 => mk4 c.id c.body c.ver c.pt
  | 5 => mk5 c.id c.to c.grab
  | 6 => mk6 c.id c.grab
  | 7 => mk7 c.id c.body
  | 8 => mk8 c.id c.box
  | 9 => mk9 c.id c.fro c.unt
  | _ => mk10 c.id
/-- A call that is written. -/
structure IsCall (kd : Nat) (c : Cl) : Prop where
  rng : 1 ≤ kd ∧ kd ≤ 10
  form : c = mkK kd c
  cnd : (cndC kd c).all id = true
  pts : c.shape.pts.length ≤ 8
theorem IsCall.kind {kd : Nat} {c : Cl} (h : IsCall kd c) : c.kind = kd := by
  have h1 := h.rng
  have h2 := h.form
  have : kd = 1 ∨ kd = 2 ∨ kd = 3 ∨ kd = 4 ∨ kd = 5 ∨ kd = 6 ∨ kd = 7 ∨ kd = 8 ∨ kd = 9 ∨ kd = 10 := by omega
  rcases this with rfl | rfl | rfl | rfl | rfl | rfl | rfl | rfl | rfl | rfl <;> (rw [h2]; rfl)
theorem sameAsk_self {c : Cl} {p : Value} (hn : c.shape.pts.length < 9223372036854775807) : SameAsk (c.cells p) (c.cells p) p p c.shape.pts.length c.shape.pts.length (flat c.shape.pts) (flat c.shape.pts) := by
  unfold SameAsk
  rw [pairsOf_flat, Cl.of_cells]
  exact ⟨rfl, rfl, ⟨rfl, rfl, hn⟩, rfl, rfl⟩
theorem callNest_eq {kd : Nat} {c : Cl} (h : IsCall kd c) (p : Value) (B : List (Option Blk)) (g : Out → List (Option Blk) → Res) :
    callNest kd c p c.shape.pts.length (flat c.shape.pts) B g = g (.ret (.tuple #[.string ⟨⟨encC kd c⟩⟩, .int .i64 0])) B := by
  unfold callNest
  have h8 := h.pts
  rw [asks_true (sameAsk_self (by omega)), cond_true, show sameB c c = true from sameB_iff.2 rfl, Bool.not_true, cond_false, andN_eq, h.cnd, cond_true]
/-- The kinds, one by one. -/
theorem kinds {kd : Nat} {c : Cl} (h1 : 1 ≤ kd ∧ kd ≤ 10) (h2 : c = mkK kd c) :
    (kd = 1 ∧ ∃ id sk sr sw sh pose v w den moves pts, c = mk1 id sk sr sw sh pose v w den moves pts) ∨
    (kd = 2 ∧ ∃ id body vr, c = mk2 id body vr) ∨
    (kd = 3 ∧ ∃ id body vr pt to, c = mk3 id body vr pt to) ∨
    (kd = 4 ∧ ∃ id body vr pt, c = mk4 id body vr pt) ∨
    (kd = 5 ∧ ∃ id to grab, c = mk5 id to grab) ∨
    (kd = 6 ∧ ∃ id grab, c = mk6 id grab) ∨
    (kd = 7 ∧ ∃ id body, c = mk7 id body) ∨
    (kd = 8 ∧ ∃ id box, c = mk8 id box) ∨
    (kd = 9 ∧ ∃ id fro unt, c = mk9 id fro unt) ∨
    (kd = 10 ∧ ∃ id, c = mk10 id) := by
  have : kd = 1 ∨ kd = 2 ∨ kd = 3 ∨ kd = 4 ∨ kd = 5 ∨ kd = 6 ∨ kd = 7 ∨ kd = 8 ∨ kd = 9 ∨ kd = 10 := by omega
  rcases this with rfl | rfl | rfl | rfl | rfl | rfl | rfl | rfl | rfl | rfl
  · exact .inl ⟨rfl, _, _, _, _, _, _, _, _, _, _, _, h2⟩
  · exact .inr (.inl ⟨rfl, _, _, _, h2⟩)
  · exact .inr (.inr (.inl ⟨rfl, _, _, _, _, _, h2⟩))
  · exact .inr (.inr (.inr (.inl ⟨rfl, _, _, _, _, h2⟩)))
  · exact .inr (.inr (.inr (.inr (.inl ⟨rfl, _, _, _, h2⟩))))
  · exact .inr (.inr (.inr (.inr (.inr (.inl ⟨rfl, _, _, h2⟩)))))
  · exact .inr (.inr (.inr (.inr (.inr (.inr (.inl ⟨rfl, _, _, h2⟩))))))
  · exact .inr (.inr (.inr (.inr (.inr (.inr (.inr (.inl ⟨rfl, _, _, h2⟩)))))))
  · exact .inr (.inr (.inr (.inr (.inr (.inr (.inr (.inr (.inl ⟨rfl, _, _, _, h2⟩))))))))
  · exact .inr (.inr (.inr (.inr (.inr (.inr (.inr (.inr (.inr (⟨rfl, _, h2⟩)))))))))
theorem call_nil {kd : Nat} {c : Cl} (h : IsCall kd c) (hp : c.shape.pts = []) (g : Out → List (Option Blk) → Res) : callRun c (slN 0 0) [] g = g (.ret (.tuple #[.string ⟨⟨encC kd c⟩⟩, .int .i64 0])) [] := by
  have e := callNest_eq h (slN 0 0) [] g
  rw [hp] at e
  refine Eq.trans ?_ e
  clear e
  have hk := kinds h.rng h.form
  clear h
  rcases hk with ⟨rfl, id, sk, sr, sw, sh, pose, v, w, den, moves, pts, rfl⟩ | ⟨rfl, id, body, vr, rfl⟩ | ⟨rfl, id, body, vr, pt, to, rfl⟩ | ⟨rfl, id, body, vr, pt, rfl⟩ | ⟨rfl, id, to, grab, rfl⟩ | ⟨rfl, id, grab, rfl⟩ | ⟨rfl, id, body, rfl⟩ | ⟨rfl, id, box, rfl⟩ | ⟨rfl, id, fro, unt, rfl⟩ | ⟨rfl, id, rfl⟩
  · have hp : pts = [] := hp
    subst hp
    exact call1n id sk sr sw sh pose v w den moves g
  · exact call2 id body vr g
  · exact call3 id body vr pt to g
  · exact call4 id body vr pt g
  · exact call5 id to grab g
  · exact call6 id grab g
  · exact call7 id body g
  · exact call8 id box g
  · exact call9 id fro unt g
  · exact call10 id g
theorem call_row {c : Cl} (h : IsCall 1 c) (cap : Nat) (wr pl : Bool) (g : Out → List (Option Blk) → Res) : callRun c (slI 0 c.shape.pts.length cap) [ptB c.shape.pts wr pl] g = g (.ret (.tuple #[.string ⟨⟨encC 1 c⟩⟩, .int .i64 0])) [some (ptB c.shape.pts wr pl)] := by
  refine Eq.trans ?_ (callNest_eq h (slI 0 c.shape.pts.length cap) [some (ptB c.shape.pts wr pl)] g)
  have h8 := h.pts
  have hk : ∃ id sk sr sw sh pose v w den moves pts, c = mk1 id sk sr sw sh pose v w den moves pts := ⟨_, _, _, _, _, _, _, _, _, _, _, h.form⟩
  clear h
  obtain ⟨id, sk, sr, sw, sh, pose, v, w, den, moves, pts, rfl⟩ := hk
  have h8 : pts.length ≤ 8 := h8
  match pts, h8 with
  | [], _ => exact call1_0 id sk sr sw sh pose v w den moves cap wr pl g 
  | [(x1, y1)], _ => exact call1_1 id sk sr sw sh pose v w den moves cap wr pl g x1 y1
  | [(x1, y1), (x2, y2)], _ => exact call1_2 id sk sr sw sh pose v w den moves cap wr pl g x1 y1 x2 y2
  | [(x1, y1), (x2, y2), (x3, y3)], _ => exact call1_3 id sk sr sw sh pose v w den moves cap wr pl g x1 y1 x2 y2 x3 y3
  | [(x1, y1), (x2, y2), (x3, y3), (x4, y4)], _ => exact call1_4 id sk sr sw sh pose v w den moves cap wr pl g x1 y1 x2 y2 x3 y3 x4 y4
  | [(x1, y1), (x2, y2), (x3, y3), (x4, y4), (x5, y5)], _ => exact call1_5 id sk sr sw sh pose v w den moves cap wr pl g x1 y1 x2 y2 x3 y3 x4 y4 x5 y5
  | [(x1, y1), (x2, y2), (x3, y3), (x4, y4), (x5, y5), (x6, y6)], _ => exact call1_6 id sk sr sw sh pose v w den moves cap wr pl g x1 y1 x2 y2 x3 y3 x4 y4 x5 y5 x6 y6
  | [(x1, y1), (x2, y2), (x3, y3), (x4, y4), (x5, y5), (x6, y6), (x7, y7)], _ => exact call1_7 id sk sr sw sh pose v w den moves cap wr pl g x1 y1 x2 y2 x3 y3 x4 y4 x5 y5 x6 y6 x7 y7
  | [(x1, y1), (x2, y2), (x3, y3), (x4, y4), (x5, y5), (x6, y6), (x7, y7), (x8, y8)], _ => exact call1_8 id sk sr sw sh pose v w den moves cap wr pl g x1 y1 x2 y2 x3 y3 x4 y4 x5 y5 x6 y6 x7 y7 x8 y8
  | _ :: _ :: _ :: _ :: _ :: _ :: _ :: _ :: _ :: _, h8 => simp at h8

/-- What wire.Call is asked. -/
structure CallAsk (x : List Value) (p : Option Addr) (n cap : Nat) (l : List Value) : Prop where
  cells : x = (Cl.of x (pairsOf l)).cells (.slice p n cap)
  row : l = flat (Cl.of x (pairsOf l)).shape.pts
  len : n = (Cl.of x (pairsOf l)).shape.pts.length
  is : IsCall (Cl.of x (pairsOf l)).kind.toNat (Cl.of x (pairsOf l))
  nil : p = none → cap = 0
  some : p ≠ none → (Cl.of x (pairsOf l)).kind = 1
noncomputable def callS : List Value → AH → (Out → AH → Res) → Res := fun args H k =>
  match args with
  | [.agg x] => (match lget x.toList 9 with
    | some (.slice p n cap) => (match rowC H 47 p with
      | some l => bif asks (CallAsk x.toList p n cap l) then k (.ret (.tuple #[.string ⟨⟨encC (Cl.of x.toList (pairsOf l)).kind.toNat (Cl.of x.toList (pairsOf l))⟩⟩, .int .i64 0])) H else none
      | none => none)
    | _ => none)
  | _ => none
theorem call_fun {H : AH} {c : Cl} {p : Value} {o1 : Value} (ho : scV 0 o1 = true) (hor : ∀ r, rV r o1 = o1) {B : List Blk} (hB : ∀ x ∈ B, Fine B.length x) {idx : List Nat} (hlen : idx.length = B.length)
    (hnd : ∀ i j, i < idx.length → j < idx.length → rI idx i = rI idx j → i = j) (hget : ∀ (j : Nat) (x : Blk), B[j]? = some x → H.get (rI idx j) = some (rB (rI idx) x)) (hp : scS B.length p = true)
    (hrun : ∀ g, callRun c p B g = g (.ret o1) (B.reverse.map some)) :
    Fun Try.prog H.size 24 [.agg ⟨c.cells (rS (rI idx) p)⟩] H fun o H' => o = .ret o1 ∧ H' = H := by
  have h0 : Fun Try.prog B.length 24 [.agg ⟨c.cells p⟩] (AH.of B) fun o H' => o = .ret o1 ∧ H' = AH.of B := by
    refine fun_of_see try_num try_mix tE_ok (loops := 100) (n := 30) B (low_of B rfl) (fun g => hrun g) (Nat.le_refl _) (scV_mono (Nat.zero_le _) _ ho) ?_
    exact List.all_eq_true.2 fun x hx => by
      have := hB x hx
      rw [this.1, this.2.2]; rfl
  have h1 := fun_keep (H := H) h0 hlen hnd hget hB (by
    intro v hv
    simp only [List.mem_cons, List.not_mem_nil, or_false] at hv
    subst hv
    exact sc_cells _ c p hp)
  simp only [List.map_cons, List.map_nil, rV_cells, rO, hor] at h1
  exact h1
theorem callS_ok : CallOK Try.prog (fun g args H k => if g = 24 then callS args H k else none) := by
  refine callOK_of_fun fun args H k r hr => ?_
  unfold callS at hr
  split at hr
  · rename_i x
    split at hr
    · rename_i p n cap _
      split at hr
      · rename_i l h1
        obtain ⟨hc, hr2⟩ := cond_some hr
        clear hr
        obtain ⟨hx, hl, hn, his, hnil, hsm⟩ := asks_iff.1 hc
        clear hc
        refine ⟨fun o H' => o = .ret (.tuple #[.string ⟨⟨encC (Cl.of x.toList (pairsOf l)).kind.toNat (Cl.of x.toList (pairsOf l))⟩⟩, .int .i64 0]) ∧ H' = H, ?_, fun o' H' ⟨h1, h2⟩ => by rw [h1, h2]; exact hr2⟩
        clear hr2
        have e1 : (Value.agg x) = .agg ⟨(Cl.of x.toList (pairsOf l)).cells (.slice p n cap)⟩ := by rw [← hx]
        rw [e1]
        clear e1 hx
        generalize Cl.of x.toList (pairsOf l) = c at *
        have hor : ∀ r, rV r (.tuple #[.string ⟨⟨encC c.kind.toNat c⟩⟩, .int .i64 0]) = .tuple #[.string ⟨⟨encC c.kind.toNat c⟩⟩, .int .i64 0] := fun r => by simp [rV, rT, rS]
        rcases rowC_cases h1 with ⟨rfl, e1⟩ | ⟨i, w1, p1, rfl, g1⟩
        · have hc0 := hnil rfl
          subst hc0
          have hp : c.shape.pts = [] := flat_nil (by rw [← hl, e1])
          rw [hp] at hn
          subst hn
          exact call_fun (p := slN 0 0) (B := []) (idx := []) (by simp [scV, scT, scS]) hor (by simp) rfl (by simp) (by simp) rfl (fun g => call_nil his hp g)
        · have hk := hsm (by simp)
          have hk2 : c.kind.toNat = 1 := by rw [hk]; rfl
          rw [hk2] at his hor ⊢
          subst hn
          refine call_fun (p := slI 0 c.shape.pts.length cap) (B := [ptB c.shape.pts w1 p1]) (idx := [i]) (by simp [scV, scT, scS]) hor ?_ rfl ?_ ?_ rfl (fun g => call_row his cap w1 p1 g)
          · intro z hz
            rw [List.mem_singleton] at hz
            subst hz
            exact ptB_fine _ _ _ _
          · intro x y hx hy _
            simp only [List.length_singleton] at hx hy
            omega
          · intro z x hz
            match z, hz with
            | 0, hz =>
              have : ptB c.shape.pts w1 p1 = x := by simpa using hz
              rw [← this, rB_ptB]
              show H.get i = some ⟨flat c.shape.pts, 47, w1, true, p1, none⟩
              rw [← hl]
              exact g1
      · cases hr
    · cases hr
  · cases hr
end Go.RX
