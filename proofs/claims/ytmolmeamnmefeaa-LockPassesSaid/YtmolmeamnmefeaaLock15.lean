/- Leaving a spot's queue. -/
import Derived.Test.YtmolmeamnmefeaaLock14
import Derived.Deep.RegionLaw
import Derived.Deep.AppendLies
import Derived.Deep.CutRange
namespace Go.Proofs.Ytmolmeamnmefeaa
open Go.RowKit Go.Shelf Go.Proofs Go.Sort

theorem typeNe : (68 : TypeId) ≠ 33 := by decide

theorem Row.blk {P : Program} {e : TypeId} {α : Type} {E : ET P e α} {w : World} {base b : Nat} {v : Value} {L : List α} (h : Row E w base v L) (hb : v.ownBlock = some b) : ∃ cur, w.heap[b]? = some (.cells cur e (0, 0)) := by
  rcases h.2 with ⟨rfl, _⟩ | ⟨g, cap, cur, rfl, _, hh, _⟩
  · simp [Value.ownBlock] at hb
  · simp [Value.ownBlock] at hb
    subst hb
    exact ⟨cur, hh⟩

theorem SpotOk.ne {w : World} {c : CSpot} (h : SpotOk w c) : c.p ≠ c.hb ∧ (∀ b, c.vu.ownBlock = some b ∨ c.vr.ownBlock = some b → b ≠ c.p ∧ b ≠ c.hb) := by
  obtain ⟨es, clock, hm, _⟩ := h.holds
  have hp := h.blk
  refine ⟨fun e => ?_, fun b hb => ?_⟩
  · rw [e, hm] at hp
    cases hp
  · obtain ⟨cur, hc⟩ : ∃ cur, w.heap[b]? = some (.cells cur 33 (0, 0)) := by
      rcases hb with hb | hb
      · exact h.up.blk hb
      · exact h.rest.blk hb
    refine ⟨fun e => ?_, fun e => ?_⟩
    · rw [e, hp] at hc
      injection hc with hc
      injection hc with _ hc _
      exact typeNe hc
    · rw [e, hm] at hc
      cases hc

theorem heap_setCell_at {w : World} {p j : Nat} {cs : Array Value} {t : TypeId} {fr : Nat × Nat} (u : Value) (h : w.heap[p]? = some (.cells cs t fr)) : (w.setCell ⟨p, j, none⟩ u).heap[p]? = some (.cells (cs.setIfInBounds j u) t fr) := by
  simp [World.setCell, Array.getElem?_modify, h]

/-- both rows cut, and laid anew -/
theorem SpotOk.recut {w w2 : World} {c : CSpot} {vu' vr' : Value} {U R : List Hold} (h : SpotOk w c) (ht : Turn (fun b => c.vu.ownBlock = some b ∨ c.vr.ownBlock = some b) w w2)
    (hu : Row etHold w2 0 vu' U) (hr : Row etHold w2 0 vr' R) (eu : vu'.ownBlock = c.vu.ownBlock) (er : vr'.ownBlock = c.vr.ownBlock) (hU : ∀ x ∈ U, x ∈ c.up) (hR : ∀ x ∈ R, x ∈ c.rest) {w3 : World}
    (h3 : w3 = (w2.setCell ⟨c.p, 1, none⟩ vu').setCell ⟨c.p, 2, none⟩ vr' ∨ w3 = (w2.setCell ⟨c.p, 2, none⟩ vr').setCell ⟨c.p, 1, none⟩ vu') :
    SpotOk w3 { c with vu := vu', vr := vr', up := U, rest := R } ∧ Turn c.fp w w3 := by
  obtain ⟨hne, hrn⟩ := h.ne
  have hp2 : w2.heap[c.p]? = some (.cells #[.map (some c.hb), c.vu, c.vr] 68 (0, 0)) := (ht.block _ (h.lt _ (Or.inl rfl)) (fun e => (hrn _ e).1 rfl)).trans h.blk
  have hother : ∀ b, b ≠ c.p → w3.heap[b]? = w2.heap[b]? := by
    intro b hb
    rcases h3 with rfl | rfl <;> rw [Below.heap_setCell _ _ _ _ hb, Below.heap_setCell _ _ _ _ hb]
  have hblk : w3.heap[c.p]? = some (.cells #[.map (some c.hb), vu', vr'] 68 (0, 0)) := by
    rcases h3 with rfl | rfl
    · rw [heap_setCell_at _ (heap_setCell_at _ hp2)]
      rfl
    · rw [heap_setCell_at _ (heap_setCell_at _ hp2)]
      rfl
  have hsz : w3.heap.size = w2.heap.size := by rcases h3 with rfl | rfl <;> simp [World.setCell]
  refine ⟨⟨hblk, ?_, ?_, ?_, ?_, h.modes, fun x hx => h.upOk x (hU x hx), fun x hx => h.restOk x (hR x hx)⟩, ⟨?_, ?_, ?_, ?_, ?_⟩⟩
  · exact h.holds.of_block ((hother _ (fun e => hne e.symm)).trans (ht.block _ h.holds.lt (fun e => (hrn _ e).2 rfl)))
  · exact hu.of_block (fun b hb => hother b (hrn b (Or.inl (eu ▸ hb))).1)
  · exact hr.of_block (fun b hb => hother b (hrn b (Or.inr (er ▸ hb))).1)
  · intro b hb hb'
    exact h.apart b (eu ▸ hb) (er ▸ hb')
  · rcases h3 with rfl | rfl <;> exact ht.os
  · rcases h3 with rfl | rfl <;> exact ht.tape
  · rcases h3 with rfl | rfl <;> exact ht.output
  · rw [hsz]; exact ht.size
  · intro b hb hn
    rw [hother b (fun e => hn (Or.inl e)), ht.block b hb (fun e => hn (by rcases e with e | e; exact Or.inr (Or.inr (Or.inl e)); exact Or.inr (Or.inr (Or.inr e))))]

def leavesS (S : St) (who : Int) : St × Option Spot := match Al.get S.waits who with
  | none => (S, none)
  | some s => match Al.get S.spots s with
    | none => (S, none)
    | some x => ({ S with spots := Al.put S.spots s ⟨x.holds, wo x.up who, wo x.rest who⟩, waits := Al.del S.waits who }, some s)
def leavesV : Option Spot → Value
  | none => .tuple #[spotV (0, false, 0), .bool false]
  | some s => .tuple #[spotV s, .bool true]

theorem results_l {w : World} {b : Nat} {tmps : Array Value} (s : Spot) (k : Value) (ht : tmps[4]?.getD undef = .pointer (some ⟨b, 0, none⟩)) (h5 : tmps[5]?.getD undef = k)
    (h0 : w.cell? ⟨b, 0, none⟩ = some (.int .i64 s.1)) (h1 : w.cell? ⟨b, 1, none⟩ = some (.bool s.2.1)) (h2 : w.cell? ⟨b, 2, none⟩ = some (.int .i64 s.2.2)) :
    (results Try.f31 tmps).run Try.prog w = .ok (.tuple #[spotV s, k]) w := by
  simp [results, Try.results31, go_sem, ht, h5, h0, h1, h2, spotV]

theorem wo_sub {L : List Hold} {who : Int} : ∀ x ∈ wo L who, x ∈ L := fun _ hx => (List.mem_filter.1 hx).1

set_option maxRecDepth 100000 in
set_option maxHeartbeats 3200000 in
theorem leaves_any (C : CLocks) (who : Int) (hw : i64 who) (w : World) (h : LocksOk w C) (hq : Queued C.abs) :
    Calls Try.prog 31 #[.pointer (some ⟨C.lb, 0, none⟩), .int .i64 who] w fun e w' => ∃ C' : CLocks, e = .returned (leavesV (leavesS C.abs who).2) ∧ LocksOk w' C' ∧ C'.lb = C.lb ∧ C'.abs = (leavesS C.abs who).1 ∧ (∀ b, C'.fp b → C.fp b) ∧ Turn C.fp w w' := by
  have hbR := below_box (w := w) (.cells #[.int .i64 0, .bool false, .int .i64 0] 26)
  have nR := heap_alloc_new w (.cells #[.int .i64 0, .bool false, .int .i64 0] 26)
  have hz : (w.alloc (.cells #[.int .i64 0, .bool false, .int .i64 0] 26)).heap.size = w.heap.size + 1 := by simp
  have h1 := h.below hbR
  have Hh := Lib.hid h
  clear h
  go_enter Try.func31, Try.ntmps31
  go_upto_region 1 with fail
  generalize w.alloc (.cells #[.int .i64 0, .bool false, .int .i64 0] 26) = w1 at hbR nR hz h1 ⊢
  have c2 : w1.cell? ⟨C.lb, 2, none⟩ = some (.map (some C.wb)) := cell_of_blk h1.blk 2
  have r0 : w1.cell? ⟨w.heap.size, 0, none⟩ = some (.int .i64 0) := cell_of_blk nR 0
  have r1 : w1.cell? ⟨w.heap.size, 1, none⟩ = some (.bool false) := cell_of_blk nR 1
  have r2 : w1.cell? ⟨w.heap.size, 2, none⟩ = some (.int .i64 0) := cell_of_blk nR 2
  have f0 : w1.frozen? ⟨w.heap.size, 0, none⟩ = false := frozen_of_blk nR 0
  have f1 : w1.frozen? ⟨w.heap.size, 1, none⟩ = false := frozen_of_blk nR 1
  have f2 : w1.frozen? ⟨w.heap.size, 2, none⟩ = false := frozen_of_blk nR 2
  cases hg : Al.get C.waits who with
  | none =>
    have hl := h1.waits.lookOk hw
    rw [hg] at hl
    simp only [mtWaits, spotV] at hl
    have E : Hid (leavesS C.abs who = (C.abs, none)) := by show _ = _; simp [leavesS, CLocks.abs, hg]
    have H1 := Lib.hid h1
    clear h1 hg
    go_wp2
    obtain ⟨e0, e1, e2⟩ := set3 (.int .i64 0) (.bool false) (.int .i64 0) r0 r1 r2
    have hbf := (((hbR.setCell (p := ⟨w.heap.size, 0, none⟩) (Nat.le_refl _) (.int .i64 0)).setCell (p := ⟨w.heap.size, 1, none⟩) (Nat.le_refl _) (.bool false)).setCell (p := ⟨w.heap.size, 2, none⟩) (Nat.le_refl _) (.int .i64 0)).alloc (by simp; omega) (.cells #[.int .i64 0, .bool false, .int .i64 0] 26)
    refine bodyPost_ret (results_l (0, false, 0) _ rfl rfl (Lib.cell?_alloc_some _ e0) (Lib.cell?_alloc_some _ e1) (Lib.cell?_alloc_some _ e2)) rfl ⟨C, by rw [E.out]; rfl, Hh.out.below hbf, rfl, by rw [E.out], fun b hb => hb, Turn.of_below hbf⟩
  | some s =>
    obtain ⟨hd, hmem, hwho⟩ := hq _ (Al.mem_of_get hg)
    have hso := h1.waitsOk _ (Al.mem_of_get hg)
    simp only at hmem hwho hso
    rw [← queue_abs] at hmem
    cases hgs : Al.get C.spots s with
    | none => simp [queueC, hgs] at hmem
    | some c =>
    have hl := h1.waits.lookOk hw
    rw [hg] at hl
    simp only [mtWaits, spotV] at hl
    have E : Hid (leavesS C.abs who = ({ C.abs with spots := Al.put C.abs.spots s ⟨c.holds, wo c.up who, wo c.rest who⟩, waits := Al.del C.abs.waits who }, some s)) := by
      show _ = _
      have hgs' : Al.get C.abs.spots s = some c.abs := by rw [get_abs, hgs]; rfl
      unfold leavesS
      rw [show C.abs.waits = C.waits from rfl, hg]
      simp only [hgs']
      rfl
    have H1 := Lib.hid h1
    have Hgs := Lib.hid hgs
    have bz := below_box (w := w1) (.cells #[.int .i64 s.1, .bool s.2.1, .int .i64 s.2.2] 26)
    have nS := heap_alloc_new w1 (.cells #[.int .i64 s.1, .bool s.2.1, .int .i64 s.2.2] 26)
    rw [hz] at nS
    have hz2 : (w1.alloc (.cells #[.int .i64 s.1, .bool s.2.1, .int .i64 s.2.2] 26)).heap.size = w.heap.size + 2 := by simp [hz]
    have r0' := (bz.cell (p := ⟨w.heap.size, 0, none⟩) (by simp [hz])).trans r0
    have r1' := (bz.cell (p := ⟨w.heap.size, 1, none⟩) (by simp [hz])).trans r1
    have r2' := (bz.cell (p := ⟨w.heap.size, 2, none⟩) (by simp [hz])).trans r2
    have f0' := (bz.frozen (p := ⟨w.heap.size, 0, none⟩) (by simp [hz])).trans f0
    have f1' := (bz.frozen (p := ⟨w.heap.size, 1, none⟩) (by simp [hz])).trans f1
    have f2' := (bz.frozen (p := ⟨w.heap.size, 2, none⟩) (by simp [hz])).trans f2
    clear h1 hg hgs hq hmem hwho hd nR
    go_upto_region 3 with fail
    have hB2 := hbR.trans (bz.mono (B' := w.heap.size) (by omega))
    clear bz r0 r1 r2 f0 f1 f2 c2 hbR H1 hl
    generalize w1.alloc (.cells #[.int .i64 s.1, .bool s.2.1, .int .i64 s.2.2] 26) = w2 at nS hz2 r0' r1' r2' f0' f1' f2' hB2 ⊢
    have H2 := Lib.hid (Hh.out.below hB2)
    have c1 : w2.cell? ⟨C.lb, 1, none⟩ = some (.map (some C.sb)) := cell_of_blk H2.out.blk 1
    have s0 : w2.cell? ⟨w.heap.size + 1, 0, none⟩ = some (.int .i64 s.1) := cell_of_blk nS 0
    have s1 : w2.cell? ⟨w.heap.size + 1, 1, none⟩ = some (.bool s.2.1) := cell_of_blk nS 1
    have s2 : w2.cell? ⟨w.heap.size + 1, 2, none⟩ = some (.int .i64 s.2.2) := cell_of_blk nS 2
    have hls := fun n => (show MapAt mtSpots (w2.drewN n) C.sb C.spots from H2.out.spots).look hso
    rw [Hgs.out] at hls
    simp only [mtSpots, spotV] at hls
    clear nS
    go_quiet (fail)
    go_wp2_with fail
    rename Nat => nq
    have hsp := Lib.hid (H2.out.each _ (Al.mem_of_get Hgs.out))
    simp only at hsp
    have p1 : w2.cell? ⟨c.p, 1, none⟩ = some c.vu := cell_of_blk hsp.out.blk 1
    have p2 : w2.cell? ⟨c.p, 2, none⟩ = some c.vr := cell_of_blk hsp.out.blk 2
    have f1 : w2.frozen? ⟨c.p, 1, none⟩ = false := frozen_of_blk hsp.out.blk 1
    have f2 : w2.frozen? ⟨c.p, 2, none⟩ = false := frozen_of_blk hsp.out.blk 2
    have hlp : c.p < w2.heap.size := hsp.out.lt _ (Or.inl rfl)
    have hne1 : ∀ j : Nat, some (⟨c.p, j, none⟩ : Addr).block ≠ c.vu.ownBlock := fun j e => (hsp.out.ne.2 _ (Or.inl e.symm)).1 rfl
    have hne2 : ∀ j : Nat, some (⟨c.p, j, none⟩ : Addr).block ≠ c.vr.ownBlock := fun j e => (hsp.out.ne.2 _ (Or.inr e.symm)).1 rfl
    have hrecut : ∀ (wq : World) (vu' vr' : Value), Row etHold wq 0 vu' (wo c.up who) → Row etHold wq 0 vr' (wo c.rest who) → vu'.ownBlock = c.vu.ownBlock → vr'.ownBlock = c.vr.ownBlock → Turn (fun b => c.vu.ownBlock = some b ∨ c.vr.ownBlock = some b) (w2.drewN (nq + 1)) wq → ∀ w3, (w3 = (wq.setCell ⟨c.p, 1, none⟩ vu').setCell ⟨c.p, 2, none⟩ vr' ∨ w3 = (wq.setCell ⟨c.p, 2, none⟩ vr').setCell ⟨c.p, 1, none⟩ vu') →
        ∃ c' : CSpot, c'.abs = ⟨c.holds, wo c.up who, wo c.rest who⟩ ∧ c'.p = c.p ∧ (∀ b, c'.fp b → c.fp b) ∧ SpotOk w3 c' ∧ Turn c.fp w2 w3 := by
      intro wq vu' vr' hu hr eu er ht w3 h3
      have ht' : Turn (fun b => c.vu.ownBlock = some b ∨ c.vr.ownBlock = some b) w2 wq := ⟨ht.os, ht.tape, ht.output, ht.size, ht.block⟩
      obtain ⟨k1, k2⟩ := hsp.out.recut ht' hu hr eu er (fun x hx => wo_sub x hx) (fun x hx => wo_sub x hx) h3
      refine ⟨{ c with vu := vu', vr := vr', up := wo c.up who, rest := wo c.rest who }, rfl, rfl, ?_, k1, k2⟩
      rintro b (rfl | rfl | hb | hb)
      · exact Or.inl rfl
      · exact Or.inr (Or.inl rfl)
      · exact Or.inr (Or.inr (Or.inl (eu ▸ hb)))
      · exact Or.inr (Or.inr (Or.inr (er ▸ hb)))
    go_cut [] from 25 to 42 (fun wx => ∃ c' : CSpot, c'.abs = ⟨c.holds, wo c.up who, wo c.rest who⟩ ∧ c'.p = c.p ∧ (∀ b, c'.fp b → c.fp b) ∧ SpotOk wx c' ∧ Turn c.fp w2 wx)
    case first =>
      go_region_law (first | (go_simp; go_at_call 51; refine Calls.mono (without_any 0 c.vu c.up who _ (hsp.out.up.of_block (fun _ _ => rfl))) ?_; rintro e wA ⟨vA, rfl, hvA, hgA, hoA⟩; have mA := hvA.cells1; unfold Value.cells at mA; have oA := fun (a : Addr) (w : World) m => run_store Try.prog w a vA m hvA.one1; have p1A := hgA.cell p1 (hne1 1); have p2A := hgA.cell p2 (hne1 2); have f1A := (hgA.frozen_far ⟨c.p, 1, none⟩ hlp (hne1 1)).trans f1; have f2A := (hgA.frozen_far ⟨c.p, 2, none⟩ hlp (hne1 2)).trans f2; have hrA : Row etHold wA 0 c.vr c.rest := hsp.out.rest.of_block (fun b hb => hgA.block b (hsp.out.rest.lt b hb).2 (fun e => hsp.out.apart b e.symm hb))) | (go_simp; go_at_call 51; refine Calls.mono (without_any 0 c.vr c.rest who _ hrA) ?_; rintro e wB ⟨vB, rfl, hvB, hgB, hoB⟩; have mB := hvB.cells1; unfold Value.cells at mB; have oB := fun (a : Addr) (w : World) m => run_store Try.prog w a vB m hvB.one1; have p1B := hgB.cell p1A (hne2 1); have p2B := hgB.cell p2A (hne2 2); have f1B := (hgB.frozen_far ⟨c.p, 1, none⟩ (Nat.lt_of_lt_of_le hlp hgA.size) (hne2 1)).trans f1A; have f2B := (hgB.frozen_far ⟨c.p, 2, none⟩ (Nat.lt_of_lt_of_le hlp hgA.size) (hne2 2)).trans f2A; have hcut := Lib.hid (hrecut _ _ _ (hvA.of_block (fun b hb => hgB.block b (hvA.lt b hb).2 (fun e => hsp.out.apart b (hoA ▸ hb) e.symm))) hvB hoA hoB (((Turn.of_grown hgA (fun b e => Or.inl e))).trans (Turn.of_grown hgB (fun b e => Or.inr e))))) | (go_simp; go_at_call 51; refine Calls.mono (without_any 0 c.vr c.rest who _ (hsp.out.rest.of_block (fun _ _ => rfl))) ?_; rintro e wC ⟨vC, rfl, hvC, hgC, hoC⟩; have mC := hvC.cells1; unfold Value.cells at mC; have oC := fun (a : Addr) (w : World) m => run_store Try.prog w a vC m hvC.one1; have p1C := hgC.cell p1 (hne2 1); have p2C := hgC.cell p2 (hne2 2); have f1C := (hgC.frozen_far ⟨c.p, 1, none⟩ hlp (hne2 1)).trans f1; have f2C := (hgC.frozen_far ⟨c.p, 2, none⟩ hlp (hne2 2)).trans f2; have huC : Row etHold wC 0 c.vu c.up := hsp.out.up.of_block (fun b hb => hgC.block b (hsp.out.up.lt b hb).2 (fun e => hsp.out.apart b hb e.symm))) | (go_simp; go_at_call 51; refine Calls.mono (without_any 0 c.vu c.up who _ huC) ?_; rintro e wD ⟨vD, rfl, hvD, hgD, hoD⟩; have mD := hvD.cells1; unfold Value.cells at mD; have oD := fun (a : Addr) (w : World) m => run_store Try.prog w a vD m hvD.one1; have p1D := hgD.cell p1C (hne1 1); have p2D := hgD.cell p2C (hne1 2); have f1D := (hgD.frozen_far ⟨c.p, 1, none⟩ (Nat.lt_of_lt_of_le hlp hgC.size) (hne1 1)).trans f1C; have f2D := (hgD.frozen_far ⟨c.p, 2, none⟩ (Nat.lt_of_lt_of_le hlp hgC.size) (hne1 2)).trans f2C; have hcut := Lib.hid (hrecut _ _ _ hvD (hvC.of_block (fun b hb => hgD.block b (hvC.lt b hb).2 (fun e => hsp.out.apart b e.symm (hoC ▸ hb)))) hoD hoC (((Turn.of_grown hgC (fun b e => Or.inr e))).trans (Turn.of_grown hgD (fun b e => Or.inl e))))))
      all_goals (go_wp2_with fail; go_meet; first | exact hcut.out _ (Or.inl rfl) | exact hcut.out _ (Or.inr rfl))
    case rest =>
      obtain ⟨c', hca, hcp, hcf, hcok, hct⟩ := hcut
      have hfw : ∀ b, c.fp b → b < w.heap.size := fun b hb => Hh.out.lt b (fp_spot Hgs.out b hb)
      have hnf : ∀ b, w.heap.size ≤ b → ¬ c.fp b := fun b h1 h2 => by have := hfw b h2; omega
      have H3 := Lib.hid (H2.out.turned Hgs.out hct hcok hcp hcf)
      have c2c : wc.cell? ⟨C.lb, 2, none⟩ = some (.map (some C.wb)) := cell_of_blk H3.out.blk 2
      have s0c := (hct.cell (p := ⟨w.heap.size + 1, 0, none⟩) (by simp; omega) (hnf _ (by simp))).trans s0
      have s1c := (hct.cell (p := ⟨w.heap.size + 1, 1, none⟩) (by simp; omega) (hnf _ (by simp))).trans s1
      have s2c := (hct.cell (p := ⟨w.heap.size + 1, 2, none⟩) (by simp; omega) (hnf _ (by simp))).trans s2
      have r0c := (hct.cell (p := ⟨w.heap.size, 0, none⟩) (by simp; omega) (hnf _ (by simp))).trans r0'
      have r1c := (hct.cell (p := ⟨w.heap.size, 1, none⟩) (by simp; omega) (hnf _ (by simp))).trans r1'
      have r2c := (hct.cell (p := ⟨w.heap.size, 2, none⟩) (by simp; omega) (hnf _ (by simp))).trans r2'
      have f0c := (hct.frozen (p := ⟨w.heap.size, 0, none⟩) (by simp; omega) (hnf _ (by simp))).trans f0'
      have f1c := (hct.frozen (p := ⟨w.heap.size, 1, none⟩) (by simp; omega) (hnf _ (by simp))).trans f1'
      have f2c := (hct.frozen (p := ⟨w.heap.size, 2, none⟩) (by simp; omega) (hnf _ (by simp))).trans f2'
      have hwb : C.wb < w.heap.size := Hh.out.waits.lt
      have hsz : w.heap.size + 2 ≤ wc.heap.size := by have := hct.size; omega
      have hT3 : Turn C.fp w wc := ⟨hct.os.trans hB2.os, hct.tape.trans hB2.tape, hct.output.trans hB2.output, by omega, fun b hb hn => (hct.block b (by omega) (fun e => hn (fp_spot Hgs.out b e))).trans (hB2.block b hb)⟩
      clear s0 s1 s2 r0' r1' r2' f0' f1' f2' p1 p2 f1 f2 hrecut hne1 hne2 hct hB2 c1 hls hsp
      go_wp2_with (at_delete; refine wpList_delete_at mtWaits _ rfl _ _ 2 rfl rfl C.wb C.waits rfl H3.out.waits who hw rfl ?_; intro w4 hm4 ht4; have hu4 := mapTurned_turn ht4; have s0d := (hu4.cell (p := ⟨w.heap.size + 1, 0, none⟩) (by simp; omega) (by simp; omega)).trans s0c; have s1d := (hu4.cell (p := ⟨w.heap.size + 1, 1, none⟩) (by simp; omega) (by simp; omega)).trans s1c; have s2d := (hu4.cell (p := ⟨w.heap.size + 1, 2, none⟩) (by simp; omega) (by simp; omega)).trans s2c; have r0d := (hu4.cell (p := ⟨w.heap.size, 0, none⟩) (by simp; omega) (by simp; omega)).trans r0c; have r1d := (hu4.cell (p := ⟨w.heap.size, 1, none⟩) (by simp; omega) (by simp; omega)).trans r1c; have r2d := (hu4.cell (p := ⟨w.heap.size, 2, none⟩) (by simp; omega) (by simp; omega)).trans r2c; have f0d := (hu4.frozen (p := ⟨w.heap.size, 0, none⟩) (by simp; omega) (by simp; omega)).trans f0c; have f1d := (hu4.frozen (p := ⟨w.heap.size, 1, none⟩) (by simp; omega) (by simp; omega)).trans f1c; have f2d := (hu4.frozen (p := ⟨w.heap.size, 2, none⟩) (by simp; omega) (by simp; omega)).trans f2c)
      obtain ⟨e0, e1, e2⟩ := set3 (.int .i64 s.1) (.bool s.2.1) (.int .i64 s.2.2) r0d r1d r2d
      have H4 := H3.out.waited (hu4.mono (fun b _ e => e)) (Al.del C.waits who) hm4 (fun x hx => Hh.out.waitsOk x (Al.mem_del hx).1)
      have hT4 : Turn C.fp w w4 := hT3.trans (hu4.mono (fun b _ e => Or.inr (Or.inr (Or.inl e))))
      refine bodyPost_ret (results_l s _ rfl rfl e0 e1 e2) rfl ⟨_, by rw [E.out]; rfl, H4.of_blocks (fun b hb => ?_), rfl, ?_, ?_, ((hT4.setCell (Or.inr (by simp)) _).setCell (Or.inr (by simp)) _).setCell (Or.inr (by simp)) _⟩
      · have : b < w.heap.size := Hh.out.lt b (fp_put Hgs.out hcf b hb)
        rw [Below.heap_setCell _ _ _ _ (by simp; omega), Below.heap_setCell _ _ _ _ (by simp; omega), Below.heap_setCell _ _ _ _ (by simp; omega)]
      · rw [E.out]
        show St.mk _ _ _ = St.mk _ _ _
        congr 1
        show (Al.put C.spots s c').map _ = _
        rw [← Al.put_map CSpot.abs, hca]
        rfl
      · exact fun b hb => fp_put Hgs.out hcf b hb
end Go.Proofs.Ytmolmeamnmefeaa
