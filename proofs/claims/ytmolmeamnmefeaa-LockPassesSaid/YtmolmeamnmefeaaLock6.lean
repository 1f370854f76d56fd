/- The plain state of a table of locks; for what one waits. -/
import Derived.Test.YtmolmeamnmefeaaLock5
namespace Go.Proofs.Ytmolmeamnmefeaa
open Go.RowKit

/-- a spot, plainly -/
structure Sp where
  holds : List Hold
  up : List Hold
  rest : List Hold
/-- a table of locks, plainly -/
structure St where
  most : Int
  spots : List (Spot × Sp)
  waits : List (Int × Spot)

def CSpot.abs (c : CSpot) : Sp := ⟨c.holds, c.up, c.rest⟩
def CLocks.abs (C : CLocks) : St := ⟨C.most, C.spots.map (fun x => (x.1, x.2.abs)), C.waits⟩

section
variable {κ α β : Type} [DecidableEq κ]
theorem Al.get_map (f : α → β) (k : κ) : ∀ m : List (κ × α), Al.get (m.map (fun x => (x.1, f x.2))) k = (Al.get m k).map f
  | [] => rfl
  | x :: m => by
    have ih := Al.get_map f k m
    unfold Al.get at *
    simp only [List.map_cons, List.find?_cons]
    by_cases h : x.1 = k
    · simp [h]
    · simpa [h] using ih
theorem Al.del_map (f : α → β) (k : κ) (m : List (κ × α)) : Al.del (m.map (fun x => (x.1, f x.2))) k = (Al.del m k).map (fun x => (x.1, f x.2)) := by
  unfold Al.del
  rw [List.filter_map]
  rfl
theorem Al.put_map (f : α → β) (k : κ) (v : α) (m : List (κ × α)) : Al.put (m.map (fun x => (x.1, f x.2))) k (f v) = (Al.put m k v).map (fun x => (x.1, f x.2)) := by
  unfold Al.put
  rw [Al.get_map, Option.isSome_map]
  split
  · rw [List.map_map, List.map_map]
    refine List.map_congr_left (fun x _ => ?_)
    simp only [Function.comp]
    split <;> rfl
  · simp
end

theorem get_abs (C : CLocks) (s : Spot) : Al.get C.abs.spots s = (Al.get C.spots s).map CSpot.abs := Al.get_map _ _ _

def heldS (S : St) (who : Int) (s : Spot) : Int := match Al.get S.spots s with | none => 0 | some c => (Al.get c.holds who).getD 0
def queueS (S : St) (s : Spot) : List Hold := match Al.get S.spots s with | none => [] | some c => c.up ++ c.rest
def usedS (S : St) : Nat := (S.spots.map (fun x => x.2.holds.length + x.2.rest.length)).sum
def wtS (S : St) : Nat := (S.spots.map (fun x => x.2.holds.length + x.2.up.length + x.2.rest.length)).sum
def waitsS (S : St) (who : Int) : Option (Spot × Int) := (Al.get S.waits who).bind fun s => ((queueS S s).find? (fun h => decide (h.1 = who))).map fun h => (s, h.2)
/-- whoever waits stands in its spot's queue -/
def Queued (S : St) : Prop := ∀ p ∈ S.waits, ∃ h ∈ queueS S p.2, h.1 = p.1

theorem held_abs (C : CLocks) (who : Int) (s : Spot) : heldC C who s = heldS C.abs who s := by
  unfold heldC heldS
  rw [get_abs]
  cases Al.get C.spots s <;> rfl
theorem queue_abs (C : CLocks) (s : Spot) : queueC C s = queueS C.abs s := by
  unfold queueC queueS
  rw [get_abs]
  cases Al.get C.spots s <;> rfl
theorem used_abs (C : CLocks) : usedN C.spots = usedS C.abs := by simp [usedN, usedS, CLocks.abs, CSpot.abs, Function.comp_def]
theorem wt_abs (C : CLocks) : wt C = wtS C.abs := by simp [wt, wtN, wtS, CLocks.abs, CSpot.abs, Function.comp_def]

theorem pred_w (a m who : Int) (q : Nat) (w : World) (c : w.cell? ⟨q, 0, none⟩ = some (.int .i64 who)) (l : q < w.heap.size) :
    Calls Try.prog 46 #[.agg #[.int .i64 a, .int .u8 m], .pointer (some ⟨q, 0, none⟩)] w fun e w' => e = .returned (.bool (a == who)) ∧ w' = w.alloc (.cells #[.int .i64 a, .int .u8 m] 33) := by
  go_enter Try.func46, Try.ntmps46
  go_wp2
  go_ret
  exact ⟨rfl, rfl⟩

set_option maxHeartbeats 800000 in
theorem indexFunc_w (base : Nat) (v : Value) (L : List Hold) (who : Int) (q : Nat) (w : World) (hr : Row etHold w base v L) (hq : w.cell? ⟨q, 0, none⟩ = some (.int .i64 who)) (lq : q < w.heap.size) :
    Calls Try.prog 45 #[v, .func (.func 46) #[] #[.pointer (some ⟨q, 0, none⟩)]] w fun e w' => e = .returned (.int .i64 (fIdx who L 0)) ∧ Below w.heap.size w w' := by
  have hmax := hr.len_le
  unfold maxLen at hmax
  rcases hr.shape with ⟨rfl, rfl⟩ | ⟨g, cap, rfl, _, hg, hlc, hcm, hc, _⟩
  · go_enter Try.func45, Try.ntmps45
    go_wp2_with fail
    refine wp_loop_rounds 1 ?_
    rw [rounds_succ]
    go_wp2
    go_ret
    exact ⟨rfl, Below.refl _ _⟩
  · have Hc := Lib.hid hc
    clear hc hlc hcm hr
    go_enter Try.func45, Try.ntmps45
    go_wp2_with fail
    go_loopw [8] (fun i wr => ∃ k : Nat, k ≤ L.length ∧ i = .int .i64 k ∧ Hid (∀ h ∈ L.take k, h.1 ≠ who) ∧ Below w.heap.size w wr) (fun i _ => L.length - (intOf i).toNat)
    case atStart => exact ⟨0, Nat.zero_le _, rfl, by simp [Hid], Below.refl _ _⟩
    case round =>
      obtain ⟨k, hk, rfl, hall, hb⟩ := hrel
      by_cases hlt : k < L.length
      · have h0 : wr.cell? ⟨g, k * 2, none⟩ = some (.int .i64 L[k].1) := (hb.cell (p := ⟨g, k * 2, none⟩) hg).trans (Hc.out k 0 hlt (by decide))
        have h1 : wr.cell? ⟨g, k * 2 + 1, none⟩ = some (.int .u8 L[k].2) := (hb.cell (p := ⟨g, k * 2 + 1, none⟩) hg).trans (Hc.out k 1 hlt (by decide))
        have hqr := (hb.cell (p := ⟨q, 0, none⟩) lq).trans hq
        have lqr : q < wr.heap.size := Nat.lt_of_lt_of_le lq hb.size
        have htk : L.take (k + 1) = L.take k ++ [L[k]] := by rw [List.take_succ_eq_append_getElem hlt]
        have Htk := Lib.hid htk
        clear htk
        by_cases he : L[k].1 = who
        · have hfin : fIdx who L 0 = (k : Int) := by
            rw [fIdx_skip L 0 k (by omega) hall.out, List.drop_eq_getElem_cons hlt, fIdx, if_pos he]
            simp
          have Hfin := Lib.hid hfin
          have heb : (L[k].1 == who) = true := by simpa using he
          have Heb := Lib.hid heb
          clear hfin heb he
          go_wp2_with fail
          refine (pred_w _ _ who q _ hqr lqr).mono ?_
          rintro e w' ⟨rfl, rfl⟩
          rw [Heb.out]
          go_wp2
          go_ret
          exact ⟨ret_int Hfin.out.symm, hb.alloc hb.size _⟩
        · have heb : (L[k].1 == who) = false := by simpa using he
          have Heb := Lib.hid heb
          have He := Lib.hid he
          clear heb he
          go_wp2_with fail
          refine (pred_w _ _ who q _ hqr lqr).mono ?_
          rintro e w' ⟨rfl, rfl⟩
          rw [Heb.out]
          go_wp2
          go_roundw
          case rel =>
            refine ⟨k + 1, by omega, by go_num, ?_, hb.alloc hb.size _⟩
            rw [Htk.out]
            intro x hx
            rcases List.mem_append.1 hx with hx | hx
            · exact hall.out x hx
            · simp at hx
              rw [hx]
              exact He.out
          case measure => simp [intOf]; omega
      · have hfin : fIdx who L 0 = -1 := by
          rw [fIdx_skip L 0 k (by omega) hall.out, List.drop_of_length_le (by omega)]
          rfl
        have Hfin := Lib.hid hfin
        clear hfin
        go_wp2
        go_ret
        exact ⟨ret_int Hfin.out.symm, hb⟩


theorem results_w {w : World} {b : Nat} {tmps : Array Value} (s : Spot) (m : Value) (k : Value) (ht : tmps[4]?.getD undef = .pointer (some ⟨b, 0, none⟩)) (h5 : tmps[5]?.getD undef = m) (h6 : tmps[6]?.getD undef = k)
    (h0 : w.cell? ⟨b, 0, none⟩ = some (.int .i64 s.1)) (h1 : w.cell? ⟨b, 1, none⟩ = some (.bool s.2.1)) (h2 : w.cell? ⟨b, 2, none⟩ = some (.int .i64 s.2.2)) :
    (results Try.f25 tmps).run Try.prog w = .ok (.tuple #[spotV s, m, k]) w := by
  simp [results, Try.results25, go_sem, ht, h5, h6, h0, h1, h2, spotV]
theorem set3 {w : World} {b : Nat} {a0 a1 a2 : Value} (v0 v1 v2 : Value) (h0 : w.cell? ⟨b, 0, none⟩ = some a0) (h1 : w.cell? ⟨b, 1, none⟩ = some a1) (h2 : w.cell? ⟨b, 2, none⟩ = some a2) :
    (((w.setCell ⟨b, 0, none⟩ v0).setCell ⟨b, 1, none⟩ v1).setCell ⟨b, 2, none⟩ v2).cell? ⟨b, 0, none⟩ = some v0 ∧ (((w.setCell ⟨b, 0, none⟩ v0).setCell ⟨b, 1, none⟩ v1).setCell ⟨b, 2, none⟩ v2).cell? ⟨b, 1, none⟩ = some v1 ∧ (((w.setCell ⟨b, 0, none⟩ v0).setCell ⟨b, 1, none⟩ v1).setCell ⟨b, 2, none⟩ v2).cell? ⟨b, 2, none⟩ = some v2 := by
  refine ⟨?_, ?_, ?_⟩
  · rw [World.cell?_setCell_other _ _ _ _ (by simp), World.cell?_setCell_other _ _ _ _ (by simp), World.cell?_setCell_same _ _ _ h0]
  · rw [World.cell?_setCell_other _ _ _ _ (by simp)]
    exact World.cell?_setCell_same _ _ _ ((World.cell?_setCell_other _ _ _ _ (by simp)).trans h1)
  · exact World.cell?_setCell_same _ _ _ ((World.cell?_setCell_other _ _ _ _ (by simp)).trans ((World.cell?_setCell_other _ _ _ _ (by simp)).trans h2))

theorem find_first (who : Int) : ∀ (L : List Hold) (k : Nat) (h : Hold), (∀ x ∈ L.take k, x.1 ≠ who) → L[k]? = some h → h.1 = who → L.find? (fun h => decide (h.1 = who)) = some h
  | [], k, h, _, hk, _ => by simp at hk
  | x :: L, 0, h, _, hk, hw => by
    simp at hk
    subst hk
    simp [hw]
  | x :: L, k + 1, h, ha, hk, hw => by
    have h1 : x.1 ≠ who := ha x (by simp)
    rw [List.find?_cons_of_neg (by simpa using h1)]
    exact find_first who L k h (fun y hy => ha y (by simp [hy])) (by simpa using hk) hw

def waitsV : Option (Spot × Int) → Value
  | none => .tuple #[spotV (0, false, 0), .int .u8 0, .bool false]
  | some (s, m) => .tuple #[spotV s, .int .u8 m, .bool true]

set_option maxRecDepth 100000 in
set_option maxHeartbeats 1600000 in
theorem waits_any (C : CLocks) (who : Int) (hw : i64 who) (w : World) (h : LocksOk w C) (hwt : wt C ≤ 1099511627776) (hq : Queued C.abs) :
    Calls Try.prog 25 #[.pointer (some ⟨C.lb, 0, none⟩), .int .i64 who] w fun e w' => e = .returned (waitsV (waitsS C.abs who)) ∧ Below w.heap.size w w' := by
  have hb1 : Below w.heap.size w (w.alloc (.cells #[.int .i64 who] 2)) := below_box _
  have s0 := cell_new w #[.int .i64 who] 2 0
  have h1 := h.below hb1
  have hsm := small_of_wt hwt
  clear h hwt
  go_enter Try.func25, Try.ntmps25
  go_wp2_with fail
  have hsz : ((w.alloc (.cells #[.int .i64 who] 2)).alloc (.cells #[.int .i64 0, .bool false, .int .i64 0] 26)).heap.size = w.heap.size + 2 := by simp
  have q0 : ((w.alloc (.cells #[.int .i64 who] 2)).alloc (.cells #[.int .i64 0, .bool false, .int .i64 0] 26)).cell? ⟨w.heap.size, 0, none⟩ = some (.int .i64 who) := Lib.cell?_alloc_some _ s0
  have rb : ((w.alloc (.cells #[.int .i64 who] 2)).alloc (.cells #[.int .i64 0, .bool false, .int .i64 0] 26)).heap[w.heap.size + 1]? = some (.cells #[.int .i64 0, .bool false, .int .i64 0] 26 (0, 0)) := by
    have := heap_alloc_new (w.alloc (.cells #[.int .i64 who] 2)) (.cells #[.int .i64 0, .bool false, .int .i64 0] 26)
    rwa [World.size_alloc] at this
  have hb2 := hb1.alloc (by simp) (.cells #[.int .i64 0, .bool false, .int .i64 0] 26)
  have h2 := h1.below (below_box (.cells #[.int .i64 0, .bool false, .int .i64 0] 26))
  clear s0 h1 hb1
  generalize (w.alloc (.cells #[.int .i64 who] 2)).alloc (.cells #[.int .i64 0, .bool false, .int .i64 0] 26) = w1 at hsz q0 rb hb2 h2 ⊢
  have c1 : w1.cell? ⟨C.lb, 1, none⟩ = some (.map (some C.sb)) := cell_of_blk h2.blk 1
  have c2 : w1.cell? ⟨C.lb, 2, none⟩ = some (.map (some C.wb)) := cell_of_blk h2.blk 2
  have r0 : w1.cell? ⟨w.heap.size + 1, 0, none⟩ = some (.int .i64 0) := cell_of_blk rb 0
  have r1 : w1.cell? ⟨w.heap.size + 1, 1, none⟩ = some (.bool false) := cell_of_blk rb 1
  have r2 : w1.cell? ⟨w.heap.size + 1, 2, none⟩ = some (.int .i64 0) := cell_of_blk rb 2
  have f0 : w1.frozen? ⟨w.heap.size + 1, 0, none⟩ = false := frozen_of_blk rb 0
  have f1 : w1.frozen? ⟨w.heap.size + 1, 1, none⟩ = false := frozen_of_blk rb 1
  have f2 : w1.frozen? ⟨w.heap.size + 1, 2, none⟩ = false := frozen_of_blk rb 2
  have hm := h2.waits
  have hbz : Below w1.heap.size w1 (w1.alloc (.cells #[.int .i64 0, .bool false, .int .i64 0] 26)) := below_box _
  have hmz := (h2.below hbz).waits
  have c2z := Lib.cell?_alloc_some (.cells #[.int .i64 0, .bool false, .int .i64 0] 26) c2
  have q0z := Lib.cell?_alloc_some (.cells #[.int .i64 0, .bool false, .int .i64 0] 26) q0
  cases hg : Al.get C.waits who with
  | none =>
    have hl := (show MapAt mtWaits w1.drew C.wb C.waits from hm).lookOk hw
    have hlz := (show MapAt mtWaits (w1.alloc (.cells #[.int .i64 0, .bool false, .int .i64 0] 26)).drew C.wb C.waits from hmz).lookOk hw
    rw [hg] at hl hlz
    simp only [mtWaits, spotV] at hl hlz
    have e : waitsS C.abs who = none := by simp [waitsS, CLocks.abs, hg]
    have E := Lib.hid e
    clear e h2 hg hm hmz
    have e012 := Lib.hid (set3 (.int .i64 0) (.bool false) (.int .i64 0) r0 r1 r2)
    have hbf := ((((hb2.setCell (p := ⟨w.heap.size + 1, 0, none⟩) (by simp) (.int .i64 0)).setCell (p := ⟨w.heap.size + 1, 1, none⟩) (by simp) (.bool false)).setCell (p := ⟨w.heap.size + 1, 2, none⟩) (by simp) (.int .i64 0)).alloc (by simp; omega) (.cells #[.int .i64 0, .bool false, .int .i64 0] 26)).drew
    have Hbf := Lib.hid hbf
    clear hbf
    go_region
    all_goals (go_wp2; exact bodyPost_ret (results_w (0, false, 0) _ _ rfl rfl rfl (Lib.cell?_alloc_some _ e012.out.1) (Lib.cell?_alloc_some _ e012.out.2.1) (Lib.cell?_alloc_some _ e012.out.2.2)) rfl ⟨by rw [E.out]; rfl, Hbf.out⟩)
  | some s =>
    obtain ⟨hd, hmem, hwho⟩ := hq _ (Al.mem_of_get hg)
    have hso := h2.waitsOk _ (Al.mem_of_get hg)
    simp only at hmem hwho hso
    rw [← queue_abs] at hmem
    have hl := (show MapAt mtWaits w1.drew C.wb C.waits from hm).lookOk hw
    have hlz := (show MapAt mtWaits (w1.alloc (.cells #[.int .i64 0, .bool false, .int .i64 0] 26)).drew C.wb C.waits from hmz).lookOk hw
    rw [hg] at hl hlz
    simp only [mtWaits, spotV] at hl hlz
    have hwv : waitsS C.abs who = ((queueC C s).find? (fun h => decide (h.1 = who))).map fun h => (s, h.2) := by simp [waitsS, CLocks.abs, hg, queue_abs]
    cases hgs : Al.get C.spots s with
    | none => simp [queueC, hgs] at hmem
    | some c =>
    have hqc : queueC C s = c.up ++ c.rest := by simp [queueC, hgs]
    rw [hqc] at hmem hwv
    have hsmc := hsm _ (Al.mem_of_get hgs)
    have hc := h2.each _ (Al.mem_of_get hgs)
    simp only at hsmc hc
    have hls := h2.spots
    clear hqc hm hmz hg
    go_region
    all_goals (
      go_wp2_with fail
      have hB := (hb2.alloc (by omega) (.cells #[.int .i64 s.1, .bool s.2.1, .int .i64 s.2.2] 26)).drew
      have bz : Below w1.heap.size w1 (w1.alloc (.cells #[.int .i64 s.1, .bool s.2.1, .int .i64 s.2.2] 26)).drew := (below_box _).drew
      have hz : (w1.alloc (.cells #[.int .i64 s.1, .bool s.2.1, .int .i64 s.2.2] 26)).drew.heap.size = w.heap.size + 3 := by simp [hsz]
      have nb := heap_alloc_new w1 (.cells #[.int .i64 s.1, .bool s.2.1, .int .i64 s.2.2] 26)
      rw [hsz] at nb
      have nb' : (w1.alloc (.cells #[.int .i64 s.1, .bool s.2.1, .int .i64 s.2.2] 26)).drew.heap[w.heap.size + 2]? = some (.cells #[.int .i64 s.1, .bool s.2.1, .int .i64 s.2.2] 26) := nb
      have q0' := (bz.cell (p := ⟨w.heap.size, 0, none⟩) (by simp; omega)).trans q0
      have r0' := (bz.cell (p := ⟨w.heap.size + 1, 0, none⟩) (by simp; omega)).trans r0
      have r1' := (bz.cell (p := ⟨w.heap.size + 1, 1, none⟩) (by simp; omega)).trans r1
      have r2' := (bz.cell (p := ⟨w.heap.size + 1, 2, none⟩) (by simp; omega)).trans r2
      have f0' := (bz.frozen (p := ⟨w.heap.size + 1, 0, none⟩) (by simp; omega)).trans f0
      have f1' := (bz.frozen (p := ⟨w.heap.size + 1, 1, none⟩) (by simp; omega)).trans f1
      have f2' := (bz.frozen (p := ⟨w.heap.size + 1, 2, none⟩) (by simp; omega)).trans f2
      have c1' : (w1.alloc (.cells #[.int .i64 s.1, .bool s.2.1, .int .i64 s.2.2] 26)).drew.cell? ⟨C.lb, 1, none⟩ = some (.map (some C.sb)) := cell_of_blk (h2.below bz).blk 1
      have hls' := (h2.below bz).spots
      have hc' := hc.of_blocks (fun b hb => bz.block b (hc.lt b hb))
      clear nb q0 r0 r1 r2 f0 f1 f2 c1 c2 hls hc bz h2 rb hb2 hbz c2z q0z hl hlz
      generalize (w1.alloc (.cells #[.int .i64 s.1, .bool s.2.1, .int .i64 s.2.2] 26)).drew = w2 at hB hz nb' q0' r0' r1' r2' f0' f1' f2' c1' hls' hc' ⊢
      have s0 : w2.cell? ⟨w.heap.size + 2, 0, none⟩ = some (.int .i64 s.1) := cell_of_blk nb' 0
      have s1 : w2.cell? ⟨w.heap.size + 2, 1, none⟩ = some (.bool s.2.1) := cell_of_blk nb' 1
      have s2 : w2.cell? ⟨w.heap.size + 2, 2, none⟩ = some (.int .i64 s.2.2) := cell_of_blk nb' 2
      have hl := (show MapAt mtSpots w2.drew C.sb C.spots from hls').look hso
      rw [hgs] at hl
      simp only [mtSpots, spotV] at hl
      have Hc := Lib.hid hc'
      clear hc' hls' nb'
      have hwv := Lib.hid hwv
      refine wp_tail 6 (by kernel_rfl) (by kernel_rfl) ?_
      simp only [List.take_succ_cons, List.take_zero, List.drop_succ_cons, List.drop_zero]
      repeat still_step
      refine wpStill_nil ?_
      go_wp2_with fail
      refine Calls.mono (queue_any c _ (Hc.out.of_blocks (fun _ _ => rfl)) hsmc) ?_
      rintro e w3 ⟨v, rfl, hv, hb3⟩
      go_wp2_with fail
      have hz3 : w.heap.size + 3 ≤ w3.heap.size := by have := hb3.size; rw [show w2.drew.heap.size = w2.heap.size from rfl, hz] at this; exact this
      have hB3 : Below w.heap.size w w3 := hB.drew.trans (hb3.mono (B' := w.heap.size) (by show _ ≤ w2.heap.size; omega))
      have t0 := (hb3.cell (p := ⟨w.heap.size + 2, 0, none⟩) (by show _ < w2.heap.size; simp; omega)).trans s0
      have t1 := (hb3.cell (p := ⟨w.heap.size + 2, 1, none⟩) (by show _ < w2.heap.size; simp; omega)).trans s1
      have t2 := (hb3.cell (p := ⟨w.heap.size + 2, 2, none⟩) (by show _ < w2.heap.size; simp; omega)).trans s2
      have q0 := (hb3.cell (p := ⟨w.heap.size, 0, none⟩) (by show _ < w2.heap.size; simp; omega)).trans q0'
      have r0 := (hb3.cell (p := ⟨w.heap.size + 1, 0, none⟩) (by show _ < w2.heap.size; simp; omega)).trans r0'
      have r1 := (hb3.cell (p := ⟨w.heap.size + 1, 1, none⟩) (by show _ < w2.heap.size; simp; omega)).trans r1'
      have r2 := (hb3.cell (p := ⟨w.heap.size + 1, 2, none⟩) (by show _ < w2.heap.size; simp; omega)).trans r2'
      have f0 := (hb3.frozen (p := ⟨w.heap.size + 1, 0, none⟩) (by show _ < w2.heap.size; simp; omega)).trans f0'
      have f1 := (hb3.frozen (p := ⟨w.heap.size + 1, 1, none⟩) (by show _ < w2.heap.size; simp; omega)).trans f1'
      have f2 := (hb3.frozen (p := ⟨w.heap.size + 1, 2, none⟩) (by show _ < w2.heap.size; simp; omega)).trans f2'
      clear s0 s1 s2 q0' r0' r1' r2' f0' f1' f2' hb3 hB c1' hl
      rcases fIdx_cases who (c.up ++ c.rest) 0 with ⟨_, hno⟩ | ⟨k, hk, hi, hpre, h0, hget, hwho0⟩
      · exact absurd hwho (hno hd hmem)
      have hfin : waitsS C.abs who = some (s, h0.2) := by rw [hwv.out, find_first who _ k h0 hpre hget hwho0]; rfl
      generalize c.up ++ c.rest = L at hv hk hi hget hsmc
      obtain ⟨g, cap, rfl⟩ := ownsRow_shape hv (by omega)
      have hLk : L[k] = h0 := by rw [List.getElem?_eq_getElem hk] at hget; exact Option.some.inj hget
      have hkc : w3.cell? ⟨g, k * 2 + 1, none⟩ = some (.int .u8 h0.2) := (hv.at k 1 hk (by decide)).trans (by rw [hLk]; rfl)
      have hgl := (hv.lt g rfl).2
      have hmax := hv.len_le
      unfold maxLen at hmax
      have Hi := Lib.hid hi
      have Hfin := Lib.hid hfin
      have hi' : ((0 + k : Nat) : Int) = (k : Int) := by omega
      have Hi' := Lib.hid hi'
      clear hi hfin hget hpre hwho0 hLk hmem hwho hwv hq hi' hsmc hsm hgs
      have hgge : w.heap.size + 3 ≤ g := by have := (hv.lt g rfl).1; rwa [show w2.drew.heap.size = w2.heap.size from rfl, hz] at this
      have g1 : ¬ (g = w.heap.size + 1) := by omega
      have g2 : ¬ (w.heap.size + 1 = g) := by omega
      go_region_held3 (fun w' => w'.cell? ⟨w.heap.size + 2, 0, none⟩ = some (.int .i64 s.1) ∧ w'.cell? ⟨w.heap.size + 2, 1, none⟩ = some (.bool s.2.1) ∧ w'.cell? ⟨w.heap.size + 2, 2, none⟩ = some (.int .i64 s.2.2) ∧ w'.cell? ⟨g, k * 2 + 1, none⟩ = some (.int .u8 h0.2)) (first | exact ⟨t0, t1, t2, hkc⟩ | exact ⟨t0', t1', t2', hkc'⟩ | go_keep) ((go_at_call 45; refine Calls.mono (indexFunc_w 0 _ L who w.heap.size _ ((hv.mono (Nat.zero_le _)).of_block (fun _ _ => rfl)) q0 (by show _ < w3.heap.size; omega)) ?_; rintro e w4 ⟨rfl, hb4⟩; rw [Hi.out, Hi'.out]; have hB4 : Below w.heap.size w w4 := hB3.drew.trans (hb4.mono (B' := w.heap.size) (by show _ ≤ w3.heap.size; omega)); have t0' := (hb4.cell (p := ⟨w.heap.size + 2, 0, none⟩) (by show _ < w3.heap.size; simp; omega)).trans t0; have t1' := (hb4.cell (p := ⟨w.heap.size + 2, 1, none⟩) (by show _ < w3.heap.size; simp; omega)).trans t1; have t2' := (hb4.cell (p := ⟨w.heap.size + 2, 2, none⟩) (by show _ < w3.heap.size; simp; omega)).trans t2; have r0' := (hb4.cell (p := ⟨w.heap.size + 1, 0, none⟩) (by show _ < w3.heap.size; simp; omega)).trans r0; have r1' := (hb4.cell (p := ⟨w.heap.size + 1, 1, none⟩) (by show _ < w3.heap.size; simp; omega)).trans r1; have r2' := (hb4.cell (p := ⟨w.heap.size + 1, 2, none⟩) (by show _ < w3.heap.size; simp; omega)).trans r2; have f0' := (hb4.frozen (p := ⟨w.heap.size + 1, 0, none⟩) (by show _ < w3.heap.size; simp; omega)).trans f0; have f1' := (hb4.frozen (p := ⟨w.heap.size + 1, 1, none⟩) (by show _ < w3.heap.size; simp; omega)).trans f1; have f2' := (hb4.frozen (p := ⟨w.heap.size + 1, 2, none⟩) (by show _ < w3.heap.size; simp; omega)).trans f2; have hkc' := (hb4.cell (p := ⟨g, k * 2 + 1, none⟩) (by show _ < w3.heap.size; simp; omega)).trans hkc))
      all_goals (
        obtain ⟨e0, e1, e2⟩ := set3 (.int .i64 s.1) (.bool s.2.1) (.int .i64 s.2.2) r0' r1' r2'
        go_wp2
        refine bodyPost_ret (results_w s _ _ rfl rfl rfl e0 e1 e2) rfl ⟨by rw [Hfin.out]; rfl, ?_⟩
        exact ((hB4.setCell (by simp) _).setCell (by simp) _).setCell (by simp) _))
end Go.Proofs.Ytmolmeamnmefeaa
