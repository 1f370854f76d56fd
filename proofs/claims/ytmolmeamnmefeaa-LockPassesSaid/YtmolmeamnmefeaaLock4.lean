/- A table of locks: its memory; what it tells without turning anything. -/
import Derived.Test.YtmolmeamnmefeaaLock3
namespace Go.Proofs.Ytmolmeamnmefeaa
open Go.RowKit

/-- A table of locks: its blocks, and what they hold. -/
structure CLocks where
  lb : Nat
  sb : Nat
  wb : Nat
  most : Int
  spots : List (Spot × CSpot)
  waits : List (Int × Spot)

def CLocks.fp (C : CLocks) (b : Nat) : Prop := b = C.lb ∨ b = C.sb ∨ b = C.wb ∨ ∃ x ∈ C.spots, x.2.fp b

structure LocksOk (w : World) (C : CLocks) : Prop where
  blk : w.heap[C.lb]? = some (.cells #[.int .i64 C.most, .map (some C.sb), .map (some C.wb)] 62 (0, 0))
  spots : MapAt mtSpots w C.sb C.spots
  waits : MapAt mtWaits w C.wb C.waits
  each : ∀ x ∈ C.spots, SpotOk w x.2
  apart : ∀ x ∈ C.spots, ∀ y ∈ C.spots, x.1 ≠ y.1 → ∀ b, x.2.fp b → ¬ y.2.fp b
  own : ∀ x ∈ C.spots, ¬ x.2.fp C.lb ∧ ¬ x.2.fp C.sb ∧ ¬ x.2.fp C.wb
  ne : C.sb ≠ C.wb
  most : 0 ≤ C.most ∧ C.most ≤ 9223372036854775807
  waitsOk : ∀ x ∈ C.waits, spotOk x.2

theorem LocksOk.lt {w : World} {C : CLocks} (h : LocksOk w C) : ∀ b, C.fp b → b < w.heap.size := by
  rintro b (rfl | rfl | rfl | ⟨x, hx, hb⟩)
  · exact (Array.getElem?_eq_some_iff.1 h.blk).1
  · exact h.spots.lt
  · exact h.waits.lt
  · exact (h.each x hx).lt b hb

theorem LocksOk.of_blocks {w w' : World} {C : CLocks} (h : LocksOk w C) (hb : ∀ b, C.fp b → w'.heap[b]? = w.heap[b]?) : LocksOk w' C where
  blk := (hb C.lb (Or.inl rfl)).trans h.blk
  spots := h.spots.of_block (hb C.sb (Or.inr (Or.inl rfl)))
  waits := h.waits.of_block (hb C.wb (Or.inr (Or.inr (Or.inl rfl))))
  each := fun x hx => (h.each x hx).of_blocks (fun b e => hb b (Or.inr (Or.inr (Or.inr ⟨x, hx, e⟩))))
  apart := h.apart
  own := h.own
  ne := h.ne
  most := h.most
  waitsOk := h.waitsOk

theorem LocksOk.below {w w' : World} {C : CLocks} (h : LocksOk w C) (hb : Below w.heap.size w w') : LocksOk w' C := h.of_blocks (fun b e => hb.block b (h.lt b e))

def heldC (C : CLocks) (who : Int) (s : Spot) : Int := match Al.get C.spots s with | none => 0 | some c => (Al.get c.holds who).getD 0
def queueC (C : CLocks) (s : Spot) : List Hold := match Al.get C.spots s with | none => [] | some c => c.up ++ c.rest

theorem wp_tail {P : Program} {id : Nat} {Q : Exit → Act → World → Prop} {a : Act} {w : World} {l : List Oper} (n : Nat) (hm : P.follows .mixedOrders = true) (hB : Region.lexTailB .any l.toArray n = true)
    (h : wpStill P l.toArray w.drew (fun a' => wpList P l.toArray Q (l.drop n) a' w.drew) (l.take n) a) : (Code.region id l.toArray true).wp P Q a w := wp_region_still_tail n hm hB h

theorem bdn {B : Nat} {w w1 : World} (h : Below B w w1) (n : Nat) : Below B w (w1.drewN n) := ⟨h.os, h.tape, h.output, h.size, h.block⟩
theorem below_box {w : World} (o : Obj) : Below w.heap.size w (w.alloc o) := (Below.refl _ w).alloc (Nat.le_refl _) _

set_option maxHeartbeats 1600000 in
theorem held_any (C : CLocks) (who : Int) (s : Spot) (hw : i64 who) (hs : spotOk s) (w : World) (h : LocksOk w C) :
    Calls Try.prog 13 #[.pointer (some ⟨C.lb, 0, none⟩), .int .i64 who, .agg #[.int .i64 s.1, .bool s.2.1, .int .i64 s.2.2]] w fun e w' => e = .returned (.int .u8 (heldC C who s)) ∧ Below w.heap.size w w' := by
  have hbx := below_box (w := w) (.cells #[.int .i64 s.1, .bool s.2.1, .int .i64 s.2.2] 26)
  have s0 := cell_new w #[.int .i64 s.1, .bool s.2.1, .int .i64 s.2.2] 26 0
  have s1 := cell_new w #[.int .i64 s.1, .bool s.2.1, .int .i64 s.2.2] 26 1
  have s2 := cell_new w #[.int .i64 s.1, .bool s.2.1, .int .i64 s.2.2] 26 2
  have h1 := h.below hbx
  have Hh := Lib.hid h
  clear h
  go_enter Try.func13, Try.ntmps13
  go_wp2_with fail
  generalize w.alloc (.cells #[.int .i64 s.1, .bool s.2.1, .int .i64 s.2.2] 26) = w1 at hbx h1 s0 s1 s2 ⊢
  simp only [List.getElem?_toArray, List.getElem?_cons_zero, List.getElem?_cons_succ] at s0 s1 s2
  have c1 : w1.cell? ⟨C.lb, 1, none⟩ = some (.map (some C.sb)) := cell_of_blk h1.blk 1
  cases hg : Al.get C.spots s with
  | none =>
    have hl := h1.spots.look_none hs hg
    simp only [mtSpots, spotV] at hl
    have e : heldC C who s = 0 := by simp [heldC, hg]
    have E := Lib.hid e
    clear e h1 hg
    go_quiet (fail)
    go_wp2
    go_ret
    exact ⟨ret_int E.out.symm, bdn hbx _⟩
  | some c =>
    have hl := h1.spots.look_some hs hg
    simp only [mtSpots, spotV] at hl
    have hc := h1.each _ (Al.mem_of_get hg)
    simp only at hc
    have d0 : w1.cell? ⟨c.p, 0, none⟩ = some (.map (some c.hb)) := cell_of_blk hc.blk 0
    cases hg2 : Al.get c.holds who with
    | none =>
      have hl2 := hc.holds.look_none hw hg2
      simp only [mtHolds] at hl2
      have e : heldC C who s = 0 := by simp [heldC, hg, hg2]
      have E := Lib.hid e
      clear e h1 hg hg2 hc
      go_quiet (fail)
      go_wp2_with fail
      go_quiet (fail)
      go_wp2
      go_ret
      exact ⟨ret_int E.out.symm, bdn (bdn hbx _) _⟩
    | some m =>
      have hl2 := hc.holds.look_some hw hg2
      simp only [mtHolds] at hl2
      have e : heldC C who s = m := by simp [heldC, hg, hg2]
      have E := Lib.hid e
      clear e h1 hg hg2 hc
      go_quiet (fail)
      go_wp2_with fail
      go_quiet (fail)
      go_wp2
      go_ret
      exact ⟨ret_int E.out.symm, bdn (bdn hbx _) _⟩

theorem held_nil (who : Int) (s : Spot) (w : World) :
    Calls Try.prog 13 #[.pointer none, .int .i64 who, .agg #[.int .i64 s.1, .bool s.2.1, .int .i64 s.2.2]] w fun e w' => e = .returned (.int .u8 0) ∧ Below w.heap.size w w' := by
  go_enter Try.func13, Try.ntmps13
  go_wp2_with fail
  go_quiet (fail)
  go_wp2
  go_ret
  exact ⟨rfl, bdn (below_box _) _⟩

/-- what a wish's queue's length may be at most, for the rows to be made -/
def small (C : CLocks) : Prop := ∀ x ∈ C.spots, x.2.up.length + x.2.rest.length ≤ 1099511627776

set_option maxRecDepth 100000 in
set_option maxHeartbeats 1600000 in
theorem Queue_any (C : CLocks) (s : Spot) (hs : spotOk s) (w : World) (h : LocksOk w C) (hsm : small C) :
    Calls Try.prog 10 #[.pointer (some ⟨C.lb, 0, none⟩), .agg #[.int .i64 s.1, .bool s.2.1, .int .i64 s.2.2]] w fun e w' => ∃ v, e = .returned v ∧ Row etHold w' w.heap.size v (queueC C s) ∧ Below w.heap.size w w' := by
  have hbx := below_box (w := w) (.cells #[.int .i64 s.1, .bool s.2.1, .int .i64 s.2.2] 26)
  have s0 := cell_new w #[.int .i64 s.1, .bool s.2.1, .int .i64 s.2.2] 26 0
  have s1 := cell_new w #[.int .i64 s.1, .bool s.2.1, .int .i64 s.2.2] 26 1
  have s2 := cell_new w #[.int .i64 s.1, .bool s.2.1, .int .i64 s.2.2] 26 2
  have h1 := h.below hbx
  have Hh := Lib.hid h
  clear h
  go_enter Try.func10, Try.ntmps10
  go_wp2_with fail
  generalize w.alloc (.cells #[.int .i64 s.1, .bool s.2.1, .int .i64 s.2.2] 26) = w1 at hbx h1 s0 s1 s2 ⊢
  simp only [List.getElem?_toArray, List.getElem?_cons_zero, List.getElem?_cons_succ] at s0 s1 s2
  have c1 : w1.cell? ⟨C.lb, 1, none⟩ = some (.map (some C.sb)) := cell_of_blk h1.blk 1
  cases hg : Al.get C.spots s with
  | none =>
    have hl := h1.spots.look_none hs hg
    simp only [mtSpots, spotV] at hl
    have e : queueC C s = [] := by simp [queueC, hg]
    have E := Lib.hid e
    clear e h1 hg
    go_quiet (fail)
    go_wp2
    go_ret
    exact ⟨_, rfl, by rw [E.out]; exact Row.nil _ _ _, bdn hbx _⟩
  | some c =>
    have hl := h1.spots.look_some hs hg
    simp only [mtSpots, spotV] at hl
    have hc := h1.each _ (Al.mem_of_get hg)
    have hb := hsm _ (Al.mem_of_get hg)
    simp only at hc hb
    have e : queueC C s = c.up ++ c.rest := by simp [queueC, hg]
    have E := Lib.hid e
    have Hc := Lib.hid hc
    clear e h1 hg hc
    go_quiet (fail)
    go_wp2_with fail
    refine wp_tail 6 (by kernel_rfl) (by kernel_rfl) ?_
    simp only [List.take_succ_cons, List.take_zero, List.drop_succ_cons, List.drop_zero, World.drew_drewN]
    repeat still_step
    refine wpStill_nil ?_
    go_wp2_with fail
    refine Calls.mono (queue_any c _ (Hc.out.of_blocks (fun _ _ => rfl)) hb) ?_
    rintro e w2 ⟨v, rfl, hv, hb2⟩
    go_wp2
    go_ret
    exact ⟨v, rfl, by rw [E.out]; exact hv.rebase (fun b e => by have := (hv.lt b e).1; have := hbx.size; simp at *; omega), (bdn hbx _).trans (hb2.mono hbx.size)⟩
end Go.Proofs.Ytmolmeamnmefeaa
