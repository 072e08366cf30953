/- Each operation of the executor is the machine's: loads, stores, numbers, comparisons, conversions, slices. -/
import Derived.Test.YtnidbincddpaaaaX4
import Derived.Laws.BitsAllLaws
namespace Go.RX
open Go Go.Proofs.Ytnidbincddpaaaa Go.RowKit

section
variable {P : Program} {W0 w : World} {S : Nat → Prop} {σ : Nat → Loc} {H : AH}

theorem all_toArray {n : Nat} {l : List Value} (h : l.all (scS n) = true) : scV n (.agg l.toArray) = true := by
  simpa [scV, scT] using h
theorem scV_of_scS {n : Nat} {v : Value} (h : scS n v = true) : scV n v = true := by
  cases v <;> first | exact h | (simp [scS] at h)
theorem cV_of_scS {n : Nat} {v : Value} (h : scS n v = true) : cV σ v = cS σ v := by
  cases v <;> first | rfl | (simp [scS] at h)

theorem aload_run (h : Rel P W0 S σ H w) {t : TypeId} {p v : Value} (ha : aload P H t p = some v) :
    (Instr.loadAt t (cV σ p)).run P w = .ok (cV σ v) w ∧ scV H.length v = true := by
  unfold aload at ha
  split at ha
  · rename_i i off
    split at ha
    · rename_i d n hd hn
      have e : cV σ (.pointer (some ⟨i, off, none⟩)) = .pointer (some ⟨(σ i).blk, (σ i).off + off, none⟩) := rfl
      rw [e]
      cases hagg : isAggD d with
      | true =>
        simp only [hagg, cond_true] at ha
        split at ha
        · rename_i l hl
          injection ha with ha
          subst ha
          refine ⟨?_, all_toArray (ld_sc h hl)⟩
          simp only [Instr.loadAt, Instr.sureAddr, Sem.run_bind, Sem.run_pure, Result.andThen_ok, loadVar, isAgg_run hd w, hagg, if_true, sizeB_run hn w, ld_run h hl]
          simp [cV, cT]
        · cases ha
      | false =>
        simp only [hagg, cond_false] at ha
        split at ha
        · rename_i u hl
          injection ha with ha
          subst ha
          have hs := ld_sc h hl
          simp at hs
          refine ⟨?_, scV_of_scS hs⟩
          obtain ⟨b, hb, hlv, hlen, hj⟩ := ld_some hl
          have hc := h.cell hb hlv ((hj 0 (by omega)).trans (by rfl))
          simp only [Instr.loadAt, Instr.sureAddr, Sem.run_bind, Sem.run_pure, Result.andThen_ok, loadVar, isAgg_run hd w, hagg, Bool.false_eq_true, if_false, run_load]
          rw [show (⟨(σ i).blk, (σ i).off + off, none⟩ : Addr) = ⟨(σ i).blk, (σ i).off + (off + 0), none⟩ from rfl, hc, cV_of_scS hs]
        · cases ha
    · cases ha
  · cases ha

theorem fr_setRow (w : World) (g : Nat) (cs : Array Value) : Fr (fun k => k = g) w (w.setRow g cs) :=
  ⟨rfl, rfl, rfl, by simp [World.setRow], fun k _ hn => by simp only [World.setRow, Array.getElem?_modify]; rw [if_neg (by omega)]⟩

theorem astore_run (h : Rel P W0 S σ H w) {t : TypeId} {p v : Value} {H' : AH} (ha : astore P H t p v = some H') :
    ∃ w', (Instr.storeAt t (cV σ p) (cV σ v)).run P w = .ok () w' ∧ Rel P W0 S σ H' w' ∧ H'.length = H.length ∧ Keep H H' := by
  unfold astore at ha
  split at ha
  · rename_i i off
    split at ha
    · rename_i n b hn hb
      split at ha
      · rename_i hc
        obtain ⟨h1, h2, h3, h4, h5⟩ := hc
        injection ha with ha
        subst ha
        obtain ⟨g1, g2, g3, tl, g4, g5⟩ := h.wb i b hb h4 h3
        have hcells := cV_cells σ v H.length h5
        have hvl : v.cells.toList.length = n := by rw [← h1]; simp
        have hst := run_storeCells_at (P := P) (σ i).blk off b.ty (v.cells.toList.map (cS σ)) 0 ⟨b.cells.map (cS σ) ++ tl⟩ w g5 (by
          simp only [Nat.add_zero, List.length_map]
          show off + v.cells.toList.length ≤ (b.cells.map (cS σ) ++ tl).length
          simp; omega) (by
          intro u hu
          obtain ⟨x, hx, rfl⟩ := List.mem_map.1 hu
          exact cS_one σ x H.length (List.all_eq_true.1 h5 x hx))
        have e : cV σ (.pointer (some ⟨i, off, none⟩)) = .pointer (some ⟨(σ i).blk, (σ i).off + off, none⟩) := rfl
        have hsz : (cV σ v).cells.size = n := by
          have := congrArg List.length hcells
          simp at this
          rw [this]; simpa using hvl
        rw [e, g1, Nat.zero_add]
        have hrun : (Instr.storeAt t (.pointer (some ⟨(σ i).blk, off, none⟩)) (cV σ v)).run P w = (storeCells ⟨(σ i).blk, off, none⟩ (v.cells.toList.map (cS σ))).run P w := by
          simp only [Instr.storeAt, Instr.sureAddr, Sem.run_bind, Sem.run_pure, Result.andThen_ok, storeVar, sizeB_run hn w, hsz, ne_eq, not_true, if_false, hcells]
        refine ⟨_, hrun.trans hst, h.write hb h4 h3 (b.cells.take off ++ v.cells.toList ++ b.cells.drop (off + v.cells.toList.length)) ?_ ?_ (fr_setRow w (σ i).blk _) ?_, by simp, Keep.set hb h3 h3⟩
        · have h0 := h.sc i b hb
          simp only [List.all_append, Bool.and_eq_true]
          refine ⟨⟨?_, h5⟩, ?_⟩
          · exact List.all_eq_true.2 fun u hu => List.all_eq_true.1 h0 u (List.mem_of_mem_take hu)
          · exact List.all_eq_true.2 fun u hu => List.all_eq_true.1 h0 u (List.mem_of_mem_drop hu)
        · simp; omega
        · intro tail htl
          rw [htl] at g5
          injection g5 with g5
          injection g5 with g5
          have g6 : b.cells.map (cS σ) ++ tail = b.cells.map (cS σ) ++ tl := by injection g5
          have g7 := List.append_cancel_left g6
          subst g7
          simp only [World.setRow, Array.getElem?_modify]
          rw [if_pos trivial, htl]
          simp only [Option.map_some, Nat.add_zero, List.length_map]
          congr 2
          have ho : off ≤ b.cells.length := by omega
          have ho2 : off + v.cells.toList.length ≤ b.cells.length := by omega
          show (List.take off (b.cells.map (cS σ) ++ tail) ++ v.cells.toList.map (cS σ) ++ List.drop (off + v.cells.toList.length) (b.cells.map (cS σ) ++ tail)).toArray = _
          rw [List.take_append_of_le_length (by simpa using ho), List.drop_append_of_le_length (by simpa using ho2)]
          simp
      · cases ha
    · cases ha
  · cases ha
end
end Go.RX
