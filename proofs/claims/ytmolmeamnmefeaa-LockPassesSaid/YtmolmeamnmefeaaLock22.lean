/- Waiting no more. -/
import Derived.Test.YtmolmeamnmefeaaLock21
namespace Go.Proofs.Ytmolmeamnmefeaa
open Go.RowKit Go.Shelf Go.Proofs Go.Sort

/-- a row of one spot goes to be woken -/
theorem woken_one (C : CLocks) (s : Spot) (hs : spotOk s) (w : World) (h : LocksOk w C) (hwt : wt C ≤ 1099511627776) (b : Nat) (hb : b = w.heap.size) :
    Calls Try.prog 34 #[.pointer (some ⟨C.lb, 0, none⟩), .slice (some ⟨b, 0, none⟩) 1 1] (w.alloc (.cells #[.int .i64 s.1, .bool s.2.1, .int .i64 s.2.2] 26)) fun e w' => ∃ (C' : CLocks) (v' : Value), e = .returned v' ∧ Turned C w (wokenS C.abs [s]).1 w' C' ∧ Row etInt w' w.heap.size v' (wokenS C.abs [s]).2 := by
  have bz := below_box (w := w) (.cells #[.int .i64 s.1, .bool s.2.1, .int .i64 s.2.2] 26)
  refine (woken_any _ _ (h.below bz) _ [s] b (row_one s b hb) (fun c hc e => by
    cases hc
    subst hb
    exact absurd (h.lt _ e) (Nat.lt_irrefl _)) (by simpa using hs) hwt).mono ?_
  rintro e w5 ⟨C', v', rfl, ho5, hl5, ha5, hf5, ht5, hr5⟩
  exact ⟨C', v', rfl, ⟨ho5, hl5, ha5, fun b hb => Or.inl (hf5 b hb), (Turn.of_below bz).trans ht5⟩, hr5.mono (by simp)⟩

theorem Turned.trans {C C1 C2 : CLocks} {w w1 w2 : World} {S S2 : St} (h : Turned C w S w1 C1) (k : Turned C1 w1 S2 w2 C2) : Turned C w S2 w2 C2 where
  ok := k.ok
  lb := k.lb.trans h.lb
  abs := k.abs
  fp := fun b hb => by
    rcases k.fp b hb with e | e
    · exact h.fp b e
    · exact Or.inr (Nat.le_trans h.turn.size e)
  turn := h.turn.then k.turn (fun b hb e => by
    rcases h.fp b e with e | e
    · exact e
    · omega)
theorem Turned.below {C C1 : CLocks} {w w1 w2 : World} {S : St} (h : Turned C w S w1 C1) (hb : Below w1.heap.size w1 w2) : Turned C w S w2 C1 where
  ok := h.ok.below hb
  lb := h.lb
  abs := h.abs
  fp := h.fp
  turn := h.turn.trans (Turn.of_below hb)

set_option maxRecDepth 100000 in
set_option maxHeartbeats 3200000 in
theorem cancel_any (C : CLocks) (who : Int) (hw : i64 who) (w : World) (h : LocksOk w C) (n : Nat) (hg : Good C.abs n) (hn : n ≤ 1099511627776) :
    Calls Try.prog 16 #[.pointer (some ⟨C.lb, 0, none⟩), .int .i64 who] w fun e w' => ∃ (C' : CLocks) (v' : Value), e = .returned (.tuple #[v', .int .i64 (cancelS C.abs who).2.2]) ∧ Turned C w (cancelS C.abs who).1 w' C' ∧ Row etInt w' w.heap.size v' (cancelS C.abs who).2.1 := by
  have hla := leaves_any C who hw w h hg.inv.queued
  have Hh := Lib.hid h
  have hsk : ∀ s, (leavesS C.abs who).2 = some s → spotOk s := by
    intro s hs
    cases hgw : Al.get C.abs.waits who with
    | none => rw [leaves_none hgw] at hs; cases hs
    | some t =>
      obtain ⟨x, hx, _⟩ := (hg.inv.wq who t).1 hgw
      rw [leaves_some hgw hx] at hs
      cases hs
      exact h.waitsOk _ (Al.mem_of_get hgw)
  have hwt1 : wtS (leavesS C.abs who).1 ≤ 1099511627776 := Nat.le_trans (hg.inv.lessLeaves who).wt (Nat.le_trans hg.wt hn)
  clear h
  cases hls : (leavesS C.abs who).2 with
  | none =>
    have E : Hid (cancelS C.abs who = (C.abs, [], 5)) := by
      show _ = _
      unfold cancelS
      rw [hls]
    have hsame : (leavesS C.abs who).1 = C.abs := by
      cases hgw : Al.get C.abs.waits who with
      | none => rw [leaves_none hgw]
      | some t =>
        obtain ⟨x, hx, _⟩ := (hg.inv.wq who t).1 hgw
        rw [leaves_some hgw hx] at hls
        cases hls
    rw [hls, hsame] at hla
    simp only [leavesV, spotV] at hla
    clear hls hsame hwt1 hsk
    go_enter Try.func16, Try.ntmps16
    go_wp2_with (go_at_call 31; refine hla.mono ?_; rintro e w1 ⟨C1, rfl, ho1, hl1, ha1, hf1, ht1⟩; have Ho1 := Lib.hid ho1; have Ht1 := Lib.hid ht1; clear ho1 ht1)
    go_ret2
    have bz := below_box (w := w1) (.cells #[.int .i64 0, .bool false, .int .i64 0] 26)
    refine ⟨C1, .slice none 0 0, by rw [E.out]; rfl, ?_, ?_⟩
    · rw [E.out]
      exact (show Turned C w C.abs w1 C1 from ⟨Ho1.out, hl1, ha1, fun b hb => Or.inl (hf1 b hb), Ht1.out⟩).below bz
    · rw [E.out]
      exact Row.nil _ _ _
  | some s =>
    have E : Hid (cancelS C.abs who = ((wokenS (leavesS C.abs who).1 [s]).1, (wokenS (leavesS C.abs who).1 [s]).2, 0)) := by
      show _ = _
      unfold cancelS
      rw [hls]
    have hs := hsk s hls
    rw [hls] at hla
    simp only [leavesV, spotV] at hla
    clear hls hsk
    go_enter Try.func16, Try.ntmps16
    go_upto_region 6 with (go_at_call 31; refine hla.mono ?_; rintro e w1 ⟨C1, rfl, ho1, hl1, ha1, hf1, ht1⟩; have Ho1 := Lib.hid ho1; have Ht1 := Lib.hid ht1; have Ha1 := Lib.hid ha1; have Hl1 := Lib.hid hl1; clear ho1 ht1 ha1 hl1)
    have bz := below_box (w := w1) (.cells #[.int .i64 s.1, .bool s.2.1, .int .i64 s.2.2] 26)
    have nz := heap_alloc_new w1 (.cells #[.int .i64 s.1, .bool s.2.1, .int .i64 s.2.2] 26)
    have hT2 := (show Turned C w (leavesS C.abs who).1 w1 C1 from ⟨Ho1.out, Hl1.out, Ha1.out, fun b hb => Or.inl (hf1 b hb), Ht1.out⟩).below bz
    generalize w1.alloc (.cells #[.int .i64 s.1, .bool s.2.1, .int .i64 s.2.2] 26) = w2 at nz hT2 ⊢
    have g0 : w2.cell? ⟨w1.heap.size, 0, none⟩ = some (.int .i64 s.1) := cell_of_blk nz 0
    have g1 : w2.cell? ⟨w1.heap.size, 1, none⟩ = some (.bool s.2.1) := cell_of_blk nz 1
    have g2 : w2.cell? ⟨w1.heap.size, 2, none⟩ = some (.int .i64 s.2.2) := cell_of_blk nz 2
    have hwo := woken_one C1 s hs w2 hT2.ok (by rw [wt_abs, hT2.abs]; exact hwt1) w2.heap.size rfl
    rw [hT2.abs, hT2.lb] at hwo
    have HT2 := Lib.hid hT2
    clear hT2 nz bz
    go_wp2_with (go_at_call 34; refine hwo.mono ?_; rintro e w5 ⟨C', v', rfl, ht5, hr5⟩)
    go_ret2
    refine ⟨C', v', by rw [E.out]; rfl, ?_, ?_⟩
    · rw [E.out]
      exact HT2.out.trans ht5
    · rw [E.out]
      exact hr5.mono HT2.out.turn.size
end Go.Proofs.Ytmolmeamnmefeaa
