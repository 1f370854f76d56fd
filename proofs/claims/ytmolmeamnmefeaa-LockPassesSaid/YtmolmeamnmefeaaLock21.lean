/- Giving a spot up. -/
import Derived.Test.YtmolmeamnmefeaaLock20
import Derived.Test.YtmolmeamnmefeaaPure7
namespace Go.Proofs.Ytmolmeamnmefeaa
open Go.RowKit Go.Shelf Go.Proofs Go.Sort

theorem good_wt {C : CLocks} {k : Nat} (h : Good C.abs k) (hk : k ≤ 1099511627776) : wt C ≤ 1099511627776 := by
  rw [wt_abs]
  exact Nat.le_trans h.wt hk

/-- what a contract that turns a table of locks says -/
structure Turned (C : CLocks) (w : World) (S : St) (w' : World) (C' : CLocks) : Prop where
  ok : LocksOk w' C'
  lb : C'.lb = C.lb
  abs : C'.abs = S
  fp : ∀ b, C'.fp b → C.fp b ∨ w.heap.size ≤ b
  turn : Turn C.fp w w'
theorem Turned.same {C : CLocks} {w w' : World} (h : LocksOk w C) (hb : Below w.heap.size w w') : Turned C w C.abs w' C := ⟨h.below hb, rfl, rfl, fun _ h => Or.inl h, Turn.of_below hb⟩

/-- a spot's holder struck -/
theorem LocksOk.dropped {w w' : World} {C : CLocks} {s : Spot} {c : CSpot} (h : LocksOk w C) (hg : Al.get C.spots s = some c) (ht : Turn (fun b => b = c.hb) w w') (who : Int) (hm : MapAt mtHolds w' c.hb (Al.del c.holds who)) :
    LocksOk w' { C with spots := Al.put C.spots s { c with holds := Al.del c.holds who } } :=
  have hc := h.each _ (Al.mem_of_get hg)
  h.turned hg (ht.mono (fun _ _ e => Or.inr (Or.inl e))) (hc.held ht _ hm (fun x hx => hc.modes x (Al.mem_del hx).1)) rfl (fun _ hb => hb)
theorem abs_dropped {C : CLocks} {s : Spot} {c : CSpot} (hg : Al.get C.spots s = some c) (who : Int) : ({ C with spots := Al.put C.spots s { c with holds := Al.del c.holds who } } : CLocks).abs = dropS C.abs who s := by
  unfold dropS
  rw [get_abs, hg]
  simp only [Option.map_some, CLocks.abs]
  rw [← Al.put_map]
  rfl

/-- a row of one spot, fresh -/
theorem row_one {w : World} (s : Spot) (b : Nat) (hb : b = w.heap.size) : Row etSpot (w.alloc (.cells #[.int .i64 s.1, .bool s.2.1, .int .i64 s.2.2] 26)) b (.slice (some ⟨b, 0, none⟩) 1 1) [s] := by
  subst hb
  exact ⟨rfl, Or.inr ⟨w.heap.size, 1, #[.int .i64 s.1, .bool s.2.1, .int .i64 s.2.2], rfl, Nat.le_refl _, heap_alloc_new w _, by simp, by unfold maxLen; simp, rfl, rfl⟩⟩

set_option maxRecDepth 100000 in
set_option maxHeartbeats 3200000 in
theorem free_any (C : CLocks) (who : Int) (s : Spot) (hw : i64 who) (hs : spotOk s) (w : World) (h : LocksOk w C) (n : Nat) (hg : Good C.abs n) (hn : n ≤ 1099511627776) :
    Calls Try.prog 15 #[.pointer (some ⟨C.lb, 0, none⟩), .int .i64 who, .agg #[.int .i64 s.1, .bool s.2.1, .int .i64 s.2.2]] w fun e w' => ∃ (C' : CLocks) (v' : Value), e = .returned (.tuple #[v', .int .i64 (freeS C.abs who s).2.2]) ∧ Turned C w (freeS C.abs who s).1 w' C' ∧ Row etInt w' w.heap.size v' (freeS C.abs who s).2.1 := by
  have hbx := below_box (w := w) (.cells #[.int .i64 s.1, .bool s.2.1, .int .i64 s.2.2] 26)
  have nS := heap_alloc_new w (.cells #[.int .i64 s.1, .bool s.2.1, .int .i64 s.2.2] 26)
  have hz1 : (w.alloc (.cells #[.int .i64 s.1, .bool s.2.1, .int .i64 s.2.2] 26)).heap.size = w.heap.size + 1 := by simp
  have h1 := h.below hbx
  have Hh := Lib.hid h
  clear h
  go_enter Try.func15, Try.ntmps15
  go_upto_region 1 with fail
  generalize w.alloc (.cells #[.int .i64 s.1, .bool s.2.1, .int .i64 s.2.2] 26) = w1 at hbx h1 nS hz1 ⊢
  have c2 : w1.cell? ⟨C.lb, 2, none⟩ = some (.map (some C.wb)) := cell_of_blk h1.blk 2
  cases hgw : Al.get C.waits who with
  | some t =>
    have hl := h1.waits.lookOk hw
    rw [hgw] at hl
    simp only [mtWaits, spotV] at hl
    have E : Hid (freeS C.abs who s = (C.abs, [], 4)) := by
      show _ = _
      unfold freeS
      rw [show C.abs.waits = C.waits from rfl, hgw]
      rfl
    have H1 := Lib.hid h1
    have Hbx := Lib.hid hbx
    have bz := Lib.hid (below_box (w := w1) (.cells #[.int .i64 t.1, .bool t.2.1, .int .i64 t.2.2] 26))
    clear h1 hbx hgw
    go_wp2
    go_ret2
    refine ⟨C, .slice none 0 0, by rw [E.out]; rfl, ?_, ?_⟩
    · rw [E.out]
      exact Turned.same Hh.out (Hbx.out.trans (bz.out.mono (B' := w.heap.size) (by omega)))
    · rw [E.out]
      exact Row.nil _ _ _
  | none =>
    have hl := h1.waits.lookOk hw
    rw [hgw] at hl
    simp only [mtWaits, spotV] at hl
    have bz := below_box (w := w1) (.cells #[.int .i64 0, .bool false, .int .i64 0] 26)
    have h2 := h1.below bz
    have n2 := (heap_alloc_old w1 (.cells #[.int .i64 0, .bool false, .int .i64 0] 26) (r := w.heap.size) (by omega)).trans nS
    have hz2 : (w1.alloc (.cells #[.int .i64 0, .bool false, .int .i64 0] 26)).heap.size = w.heap.size + 2 := by simp [hz1]
    have hbx2 := hbx.trans (bz.mono (B' := w.heap.size) (by omega))
    have Hbx := Lib.hid hbx
    have H1 := Lib.hid h1
    have Hgw := Lib.hid hgw
    clear hbx h1 hgw bz nS
    go_upto_region 6 with fail
    generalize w1.alloc (.cells #[.int .i64 0, .bool false, .int .i64 0] 26) = w2 at h2 n2 hz2 hbx2 ⊢
    have e0 : w2.cell? ⟨w.heap.size, 0, none⟩ = some (.int .i64 s.1) := cell_of_blk n2 0
    have e1 : w2.cell? ⟨w.heap.size, 1, none⟩ = some (.bool s.2.1) := cell_of_blk n2 1
    have e2 : w2.cell? ⟨w.heap.size, 2, none⟩ = some (.int .i64 s.2.2) := cell_of_blk n2 2
    have hha := held_any C who s hw hs w2 h2
    have H2 := Lib.hid h2
    have N2 := Lib.hid n2
    have Hbx2 := Lib.hid hbx2
    have hwn : Al.get C.abs.waits who = none := Hgw.out
    by_cases hh : heldS C.abs who s = 0
    · have E : Hid (freeS C.abs who s = (C.abs, [], 5)) := by
        show _ = _
        unfold freeS
        rw [hwn, hh]
        rfl
      rw [held_abs, hh] at hha
      clear h2 n2 hbx2 hh hwn hl
      go_wp2_with (go_at_call 13; refine hha.mono ?_; rintro e w3 ⟨rfl, hb3⟩)
      have Hb3 := Lib.hid hb3
      clear hb3
      go_ret2
      refine ⟨C, .slice none 0 0, by rw [E.out]; rfl, ?_, ?_⟩
      · rw [E.out]
        exact Turned.same Hh.out (Hbx2.out.trans (Hb3.out.mono (B' := w.heap.size) (by omega)))
      · rw [E.out]
        exact Row.nil _ _ _
    · have E : Hid (freeS C.abs who s = ((wokenS (dropS C.abs who s) [s]).1, (wokenS (dropS C.abs who s) [s]).2, 0)) := by
        show _ = _
        unfold freeS
        rw [hwn]
        simp [hh]
      obtain ⟨c, hgs⟩ : ∃ c, Al.get C.spots s = some c := by
        cases hgs : Al.get C.spots s with
        | none =>
          exfalso
          apply hh
          unfold heldS
          rw [get_abs, hgs]
          rfl
        | some c => exact ⟨c, rfl⟩
      have hne : (heldS C.abs who s == 0) = false := by simpa using hh
      rw [held_abs] at hha
      have Hgs := Lib.hid hgs
      have Hh0 := Lib.hid hh
      clear h2 n2 hbx2 hh hwn hl hgs
      generalize heldS C.abs who s = hv at hha hne Hh0
      go_wp2_with (go_at_call 13; refine hha.mono ?_; rintro e w3 ⟨rfl, hb3⟩)
      have h3 := H2.out.below hb3
      have n3 := (hb3.block _ (by omega)).trans N2.out
      have hbx3 := Hbx2.out.trans (hb3.mono (B' := w.heap.size) (by omega))
      have hz3 := hb3.size
      have d0 : w3.cell? ⟨w.heap.size, 0, none⟩ = some (.int .i64 s.1) := cell_of_blk n3 0
      have d1 : w3.cell? ⟨w.heap.size, 1, none⟩ = some (.bool s.2.1) := cell_of_blk n3 1
      have d2 : w3.cell? ⟨w.heap.size, 2, none⟩ = some (.int .i64 s.2.2) := cell_of_blk n3 2
      have k1 : w3.cell? ⟨C.lb, 1, none⟩ = some (.map (some C.sb)) := cell_of_blk h3.blk 1
      have hl3 := (show MapAt mtSpots w3.drew C.sb C.spots from h3.spots).look hs
      rw [Hgs.out] at hl3
      simp only [mtSpots, spotV] at hl3
      have hc3 := h3.each _ (Al.mem_of_get Hgs.out)
      simp only at hc3
      have p0 : w3.cell? ⟨c.p, 0, none⟩ = some (.map (some c.hb)) := cell_of_blk hc3.blk 0
      obtain ⟨w4, hrun, hm4, ht4⟩ := (show MapAt mtHolds w3.drew c.hb c.holds from hc3.holds).drop hw 0
      simp only [mtHolds] at hrun
      have h4 := h3.dropped Hgs.out ((Turn.of_below (Below.refl w3.heap.size w3).drew).trans (mapTurned_turn ht4)) who hm4
      have hclt : ∀ b, C.fp b → b < w.heap.size := fun b hb => Hh.out.lt b hb
      have hT4 : Turn C.fp w3 w4 := (Turn.of_below (Below.refl w3.heap.size w3).drew).trans ((mapTurned_turn ht4).mono (fun b _ e => fp_spot Hgs.out b (Or.inr (Or.inl e))))
      have n4 := (hT4.block w.heap.size (by omega) (fun e => by have := hclt _ e; omega)).trans n3
      have hz4 := hT4.size
      have bz4 := below_box (w := w4) (.cells #[.int .i64 s.1, .bool s.2.1, .int .i64 s.2.2] 26)
      have hwk := woken_any _ _ (h4.below bz4) _ [s] w4.heap.size (row_one s _ rfl) (fun b hb e => by
        cases hb
        exact absurd (h4.lt _ e) (Nat.lt_irrefl _)) (by simpa using hs) (by
        have := good_wt (C := C) hg hn
        rw [wt_abs, abs_dropped Hgs.out]
        rw [wt_abs] at this
        exact Nat.le_trans (hg.inv.lessDrop who s).wt this)
      rw [abs_dropped Hgs.out] at hwk
      have g0 : w4.cell? ⟨w.heap.size, 0, none⟩ = some (.int .i64 s.1) := cell_of_blk n4 0
      have g1 : w4.cell? ⟨w.heap.size, 1, none⟩ = some (.bool s.2.1) := cell_of_blk n4 1
      have g2 : w4.cell? ⟨w.heap.size, 2, none⟩ = some (.int .i64 s.2.2) := cell_of_blk n4 2
      have H4 := Lib.hid h4
      have HT4 := Lib.hid hT4
      have Hbx3 := Lib.hid hbx3
      have H3 := Lib.hid h3
      have Hwk := Lib.hid hwk
      have Bz4 := Lib.hid bz4
      have Hfp4 := Lib.hid (fp_put (C := C) (c' := { c with holds := Al.del c.holds who }) Hgs.out (fun b hb => hb))
      clear h3 n3 hbx3 hc3 hm4 ht4 h4 hb3 e0 e1 e2 hha hne n4 hT4 hwk bz4
      refine wp_tail 10 (by kernel_rfl) (by kernel_rfl) ?_
      simp only [List.take_succ_cons, List.take_zero, List.drop_succ_cons, List.drop_zero]
      repeat still_step
      refine wpStill_nil ?_
      go_wp2_with (go_at_call 34; refine Hwk.out.mono ?_; rintro e w5 ⟨C', v', rfl, ho5, hl5, ha5, hf5, ht5, hr5⟩)
      go_ret2
      have ht : Turn C.fp w w5 := ((Turn.of_below Hbx3.out).trans (HT4.out.then (fp2 := C.fp) (Turn.of_below Bz4.out) (fun _ _ e => e))).trans (ht5.mono (fun b _ e => Hfp4.out b e))
      refine ⟨C', v', by rw [E.out]; rfl, ?_, ?_⟩
      · rw [E.out]
        exact ⟨ho5, hl5, ha5, fun b hb => Or.inl (Hfp4.out b (hf5 b hb)), ht⟩
      · rw [E.out]
        exact hr5.mono (by simp; omega)
end Go.Proofs.Ytmolmeamnmefeaa
