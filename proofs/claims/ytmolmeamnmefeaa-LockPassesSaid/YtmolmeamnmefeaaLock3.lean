/- The queue of a spot: two rows joined in a new one. -/
import Derived.Test.YtmolmeamnmefeaaLock2
import Derived.StillTailTactics
import Derived.Lib.AppendZerosOnto
import Derived.Test.YtmolmeamnmefeaaShelf
import Derived.Deep.RegionHeld3
namespace Go.Proofs.Ytmolmeamnmefeaa
open Go.RowKit

theorem cell_new (w : World) (c : Array Value) (t : TypeId) (i : Nat) : (w.alloc (.cells c t)).cell? ⟨w.heap.size, i, none⟩ = c[i]? := World.cell?_alloc_at c t w.heap.size i rfl
theorem cell_kept1 {w : World} {p : Addr} {v : Value} (o : Obj) (h : w.cell? p = some v) : (w.alloc o).cell? p = some v := Lib.cell?_alloc_some o h

set_option maxHeartbeats 800000 in
theorem grow_nil (n : Int) (h0 : 0 ≤ n) (hn : n ≤ 1099511627776) (w : World) :
    Calls Try.prog 64 #[.slice none 0 0, .int .i64 n] w fun e w' => ∃ v, e = .returned v ∧ Row etHold w' w.heap.size v [] ∧ Below w.heap.size w w' := by
  by_cases hz : n = 0
  · subst hz
    go_enter Try.func64, Try.ntmps64
    go_wp2
    go_ret
    exact ⟨_, rfl, Row.nil _ _ _, Below.refl _ _⟩
  · obtain ⟨k, rfl⟩ : ∃ k : Nat, n = (k : Int) := ⟨n.toNat, by omega⟩
    have hk : 0 < k := by omega
    have hold : (Builtin.firstCells etHold.i.size 0 (.slice none 0 0)).run Try.prog w.drew = .ok ([] : List Value).toArray w.drew := run_firstCells_none w.drew _ 0 0 0
    have hrz := fun ty => Lib.run_append_grow_zeros (P := Try.prog) w 30 3 ty 33 etHold.i etHold.z .i64 .i64 Try.underlying30 Try.underlying3 etHold.hi etHold.hz none 0 0 [] hold k hk (by rw [etHold.hsize]; exact etHold.hk) (by omega) (by omega) (by rw [etHold.hby]; show k * 16 ≤ _; omega)
      (by rw [etHold.hby]; exact growslice_fits (by omega) (by show (0 + k) * 16 ≤ _; omega))
    have hge := grownCap_ge w (0 + k) 0 33
    have hle := grownCap_le_maxLen w (0 + k) 0 33 (by unfold maxLen; omega)
    generalize hG : grownCap w (0 + k) 0 33 = G at hrz hge hle
    simp only [Nat.zero_add] at hrz hge
    have hle' : G ≤ 9223372036854775807 := by unfold maxLen at hle; omega
    have hsz : (([] : List Value).toArray ++ Builtin.zeroCells etHold.z.cells k ++ Builtin.zeroCells etHold.z.cells (G - k)).size = G * 2 := by
      simp only [Array.size_append, size_zeroCells, List.size_toArray, List.length_nil]
      show 0 + k * 2 + (G - k) * 2 = G * 2
      omega
    have hsz' := Lib.hid hsz
    generalize ([] : List Value).toArray ++ Builtin.zeroCells etHold.z.cells k ++ Builtin.zeroCells etHold.z.cells (G - k) = Z at hrz hsz'
    clear hold hG hle hsz
    go_enter Try.func64, Try.ntmps64
    go_wp2_with (at_builtin; refine Lib.wpList_append_run _ rfl _ _ _ _ rfl _ _ rfl rfl _ _ (hrz _) ?_)
    go_ret
    refine ⟨_, rfl, ⟨by simp, Or.inr ⟨w.heap.size, G, _, rfl, Nat.le_refl _, heap_alloc_new w.drew _, Nat.zero_le _, by unfold maxLen; omega, hsz'.out, by simp⟩⟩, ((Below.refl _ w).drew).alloc (Nat.le_refl _) _⟩

theorem Row.cells1 {P : Program} {e : TypeId} {α : Type} {E : ET P e α} {w : World} {base : Nat} {v : Value} {L : List α} (h : Row E w base v L) : v.cells = #[v] := by
  rcases h.shape with ⟨rfl, _⟩ | ⟨_, _, rfl, _⟩ <;> rfl
theorem Row.one1 {P : Program} {e : TypeId} {α : Type} {E : ET P e α} {w : World} {base : Nat} {v : Value} {L : List α} (h : Row E w base v L) : v.oneCell' = true := by
  rcases h.shape with ⟨rfl, _⟩ | ⟨_, _, rfl, _⟩ <;> rfl

set_option maxHeartbeats 1600000 in
theorem concat_any (bu br : Nat) (vu vr : Value) (up rest : List Hold) (k : Nat) (w : World) (hu : Row etHold w bu vu up) (hr : Row etHold w br vr rest) (hk : k < w.heap.size)
    (c0 : w.cell? ⟨k, 0, none⟩ = some vu) (c1 : w.cell? ⟨k, 1, none⟩ = some vr) (hbd : up.length + rest.length ≤ 1099511627776) :
    Calls Try.prog 50 #[.slice (some ⟨k, 0, none⟩) 2 2] w fun e w' => ∃ v, e = .returned v ∧ Row etHold w' w.heap.size v (up ++ rest) ∧ Below w.heap.size w w' := by
  have lu := hu.len_run Try.underlying30
  have lr := hr.len_run Try.underlying30
  have Hu := Lib.hid hu
  have Hr := Lib.hid hr
  clear hu hr
  go_enter Try.func50, Try.ntmps50
  go_wp2_with fail
  go_loop [3, 5, 11] (fun z _ i => (i = .int .i64 0 ∧ z = .int .i64 0) ∨ (i = .int .i64 1 ∧ z = .int .i64 up.length) ∨ (i = .int .i64 2 ∧ z = .int .i64 ((up.length : Int) + rest.length))) (fun _ _ i => 2 - (intOf i).toNat)
  case atStart => exact Or.inl ⟨rfl, rfl⟩
  case round =>
    rcases hrel with ⟨rfl, rfl⟩ | ⟨rfl, rfl⟩ | ⟨rfl, rfl⟩
    · go_wp2
      go_round
      case rel => exact Or.inr (Or.inl ⟨rfl, rfl⟩)
      case measure => simp [intOf]
    · go_wp2
      go_round
      case rel => exact Or.inr (Or.inr ⟨rfl, rfl⟩)
      case measure => simp [intOf]
    · go_wp2_with fail
      refine (grow_nil _ (by omega) (by omega) _).mono ?_
      rintro e w1 ⟨v1, rfl, hv1, hb1⟩
      have d0 := (hb1.cell (p := ⟨k, 0, none⟩) hk).trans c0
      have d1 := (hb1.cell (p := ⟨k, 1, none⟩) hk).trans c1
      clear c0 c1
      go_wp2_with fail
      go_loopw [6, 8, 27] (fun v _ i wr => ((i = .int .i64 0 ∧ Row etHold wr w.heap.size v []) ∨ (i = .int .i64 1 ∧ Row etHold wr w.heap.size v up) ∨ (i = .int .i64 2 ∧ Row etHold wr w.heap.size v (up ++ rest))) ∧ Below w.heap.size w wr) (fun _ _ i _ => 2 - (intOf i).toNat)
      case atStart => exact ⟨Or.inl ⟨rfl, hv1⟩, hb1⟩
      case round =>
        obtain ⟨hc, hbr⟩ := hrel
        have r0 : wr.cell? ⟨k, 0, none⟩ = some vu := (hbr.cell (p := ⟨k, 0, none⟩) hk).trans ((hb1.cell (p := ⟨k, 0, none⟩) hk).symm.trans d0)
        have r1 : wr.cell? ⟨k, 1, none⟩ = some vr := (hbr.cell (p := ⟨k, 1, none⟩) hk).trans ((hb1.cell (p := ⟨k, 1, none⟩) hk).symm.trans d1)
        clear d0 d1 hv1
        have hur : Row etHold wr bu vu up := Hu.out.of_block (fun b e => hbr.block b (Hu.out.lt b e).2)
        have hrr : Row etHold wr br vr rest := Hr.out.of_block (fun b e => hbr.block b (Hr.out.lt b e).2)
        rename_i v _ i _ _
        rcases hc with ⟨rfl, hv⟩ | ⟨rfl, hv⟩ | ⟨rfl, hv⟩
        · go_wp2_with (at_builtin; refine wpList_append_rows etHold _ rfl _ _ 30 rfl Try.underlying30 w.heap.size _ [] rfl hv bu vu up rfl hur (by simp [etHold]; omega) (by simp; unfold maxLen; omega) hbr.size ?_; intro v2 w2 hv2 hg2 ho2)
          go_roundw
          case rel => exact ⟨Or.inr (Or.inl ⟨rfl, hv2⟩), hbr.grown hg2 hbr.size (fun b e => (hv.lt b e).1)⟩
          case measure => simp [intOf]
        · go_wp2_with (at_builtin; refine wpList_append_rows etHold _ rfl _ _ 30 rfl Try.underlying30 w.heap.size _ up rfl hv br vr rest rfl hrr (by simp [etHold]; omega) (by unfold maxLen; omega) hbr.size ?_; intro v2 w2 hv2 hg2 ho2)
          go_roundw
          case rel => exact ⟨Or.inr (Or.inr ⟨rfl, hv2⟩), hbr.grown hg2 hbr.size (fun b e => (hv.lt b e).1)⟩
          case measure => simp [intOf]
        · go_wp2
          go_ret
          exact ⟨_, rfl, hv, hbr⟩

theorem wpList_buildSlice {P : Program} (w : World) {ops : Array Oper} {rest : List Oper} {o : Oper} {a : Act} {Q : Exit → Act → World → Prop} (hgd : o.guard = none) (t : TypeId) (n : Nat) (parts : Array (Nat × Operand))
    (ho : o.op = .buildSlice t n parts) (parts' : List (Nat × Value)) (hp : parts.toList.map (fun p => (p.1, a.eval p.2)) = parts') (v : Value) (w' : World) (hrun : (Instr.buildSlice t n parts'.toArray).run P w = .ok v w')
    (hK : wpList P ops Q rest (a.put o.dst v) w') : wpList P ops Q (o :: rest) a w := by
  subst hp
  have e : parts.map (fun p => (p.1, a.eval p.2)) = (parts.toList.map (fun p => (p.1, a.eval p.2))).toArray := by
    apply Array.toList_inj.1
    simp
  rw [← e] at hrun
  refine wpList_plain hgd fun K hK' => ?_
  unfold Oper.wp execOp
  simp only [ho, Sem.run_bind, hrun, Result.andThen, Sem.run_pure]
  exact hK' _ _ hK

theorem build_rows {bu br : Nat} {vu vr : Value} {up rest : List Hold} {w : World} (hu : Row etHold w bu vu up) (hr : Row etHold w br vr rest) (w' : World) :
    (Instr.buildSlice 104 2 #[(0, vu), (1, vr)]).run Try.prog w' = .ok (.slice (some ⟨w'.heap.size, 0, none⟩) 2 2) (w'.alloc (.cells #[vu, vr] 30)) := by
  rcases hu.shape with ⟨rfl, _⟩ | ⟨g, cap, rfl, _⟩ <;> rcases hr.shape with ⟨rfl, _⟩ | ⟨g', cap', rfl, _⟩ <;> kernel_rfl

set_option maxHeartbeats 1600000 in
set_option maxRecDepth 100000 in
theorem queue_any (c : CSpot) (w : World) (h : SpotOk w c) (hbd : c.up.length + c.rest.length ≤ 1099511627776) :
    Calls Try.prog 30 #[.pointer (some ⟨c.p, 0, none⟩)] w fun e w' => ∃ v, e = .returned v ∧ Row etHold w' w.heap.size v (c.up ++ c.rest) ∧ Below w.heap.size w w' := by
  have c1 : w.cell? ⟨c.p, 1, none⟩ = some c.vu := cell_of_blk h.blk 1
  have c2 : w.cell? ⟨c.p, 2, none⟩ = some c.vr := cell_of_blk h.blk 2
  have lp := h.lt c.p (Or.inl rfl)
  have hu := h.up
  have hr := h.rest
  generalize c.up = up at hu hbd ⊢
  generalize c.rest = rest at hr hbd ⊢
  generalize c.vu = vu at hu c1
  generalize c.vr = vr at hr c2
  generalize c.p = p at c1 c2 lp ⊢
  clear h c
  go_enter Try.func30, Try.ntmps30
  go_wp2_with fail
  go_still_tail 8, (by kernel_rfl)
  change wpList _ _ _ _ _ w.drew
  refine wpList_buildSlice _ rfl _ _ _ rfl [(0, vu), (1, vr)] rfl _ _ (build_rows hu hr _) ?_
  go_wp2_with fail
  refine Calls.mono (concat_any 0 0 vu vr up rest w.heap.size _ (hu.of_block (fun b e => heap_alloc_old _ _ (hu.lt b e).2)) (hr.of_block (fun b e => heap_alloc_old _ _ (hr.lt b e).2)) (by simp) (cell_new w #[vu, vr] _ 0) (cell_new w #[vu, vr] _ 1) hbd) ?_
  rintro e w1 ⟨v, rfl, hv, hb⟩
  go_wp2
  go_ret
  refine ⟨v, rfl, hv.rebase (fun b e => by have := (hv.lt b e).1; simp at this; omega), ?_⟩
  exact ((Below.refl _ w).alloc (Nat.le_refl _) _).drew.trans (hb.mono (by simp))
end Go.Proofs.Ytmolmeamnmefeaa
