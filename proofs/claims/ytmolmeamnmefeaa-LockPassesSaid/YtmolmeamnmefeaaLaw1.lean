/- The chapter's example: the walk. -/
import Derived.Test.YtmolmeamnmefeaaLaw0
import Derived.Test.YtmolmeamnmefeaaPure8
namespace Go.Proofs.Ytmolmeamnmefeaa
open Go.RowKit Go.Shelf Go.Proofs Go.Sort

theorem spotOk_ex : spotOk (0, true, 3) := ⟨i64.mk (by decide), i64.mk (by decide)⟩
theorem ex_at (k : Nat) (who m : Int) (ok : Bool) (T : St) (ht : T = (askS (exW k) who (0, true, 3) m).1) (h : (askS (exW k) who (0, true, 3) m).2 = (ok, 0)) : askS (exW k) who (0, true, 3) m = (T, ok, 0) := by
  rw [ht, ← h]

/-- a row that is written out -/
theorem reads_one (w : World) (a : Int) (k : Nat) (hk : k = w.heap.size) : Reads (w.alloc (.cells #[.int .i64 a] 2)) (.slice (some ⟨k, 0, none⟩) 1 1) [a] := by
  subst hk
  refine Or.inr ⟨w.heap.size, 0, 1, rfl, by simp, fun i hi => ?_⟩
  simp at hi
  subst hi
  exact cell_new w #[.int .i64 a] _ 0
theorem reads_two (w : World) (a b : Int) (k : Nat) (hk : k = w.heap.size) : Reads (w.alloc (.cells #[.int .i64 a, .int .i64 b] 2)) (.slice (some ⟨k, 0, none⟩) 2 2) [a, b] := by
  subst hk
  refine Or.inr ⟨w.heap.size, 0, 2, rfl, by simp, fun i hi => ?_⟩
  simp at hi
  rcases (show i = 0 ∨ i = 1 from by omega) with rfl | rfl
  · exact cell_new w #[.int .i64 a, .int .i64 b] _ 0
  · exact cell_new w #[.int .i64 a, .int .i64 b] _ 1
theorem Reads.below {w w' : World} {v : Value} {L : List Int} (h : Reads w v L) (hb : ∀ g o c n, v = .slice (some ⟨g, o, none⟩) n c → w'.heap[g]? = w.heap[g]?) : Reads w' v L := by
  rcases h with h | ⟨g, o, cap, rfl, h1, h2⟩
  · exact Or.inl h
  · exact Or.inr ⟨g, o, cap, rfl, h1, fun i hi => (World.cell?_of_block (w := w) (hb g o cap _ rfl)).trans (h2 i hi)⟩
theorem Row.reads_below {w w' : World} {base : Nat} {v : Value} {L : List Int} (h : Row etInt w base v L) (hb : Below w.heap.size w w') : Reads w' v L := (h.of_block (fun b e => hb.block b (h.lt b e).2)).reads

theorem tab_row {K : Nat → Prop} {lb n : Nat} {w : World} {S : St} (h : Tab K lb w S n) (k : Int) :
    Calls Try.prog 36 #[.int .i64 k] w fun e w' => e = .returned (.agg #[.int .i64 0, .bool true, .int .i64 k]) ∧ Tab K lb w' S n ∧ Below w.heap.size w w' := by
  refine (row_any k w).mono ?_
  rintro e w' ⟨rfl, rfl⟩
  have hb := below_box (w := w) (.cells #[.int .i64 0, .bool true, .int .i64 k] 26)
  exact ⟨rfl, h.below hb, hb⟩

set_option maxRecDepth 100000 in
set_option maxHeartbeats 16000000 in
theorem works_any (w : World) : Calls Try.prog 14 #[] w fun e w' => e = .returned (.bool true) ∧ Below w.heap.size w w' := by
  obtain ⟨a1, a2, a3, a4, a5⟩ := ex_ask
  have q1 := Lib.hid (ex_at 0 1 3 true (exW 1) rfl a1)
  have q2 := Lib.hid (ex_at 1 2 3 true (exW 2) rfl a2)
  have q3 := Lib.hid (ex_at 2 3 5 false (exW 3) rfl a3)
  have q4 := Lib.hid (ex_at 3 4 3 false (exW 4) rfl a4)
  have q5 := Lib.hid (ex_at 4 1 5 false (exW 5) rfl a5)
  clear a1 a2 a3 a4 a5
  go_enter Try.func14, Try.ntmps14
  go_wp2_with fail
  refine Calls.mono (tab_new 9 (i64.mk (by decide)) w) ?_
  rintro e w1 ⟨lb, rfl, hT, hb⟩
  have T0 : Hid (Tab (fun b => b < w.heap.size) lb w1 (exW 0) 0) := hT
  have B0 : Hid (Kept (fun b => b < w.heap.size) w w1) := Kept.of_below hb
  clear hT hb
  go_wp2_with fail
  refine Calls.mono (tab_row T0.out 3) ?_
  rintro e wr0 ⟨rfl, hT, hb⟩
  have R0 := Lib.hid hT
  have BR0 := Lib.hid (B0.out.trans (Kept.of_below hb))
  clear hT hb
  go_wp2_with fail
  refine Calls.mono (tab_ask R0.out (by omega) 1 (0, true, 3) 3 (i64.mk (by decide)) spotOk_ex (u8.mk (by decide)) q1.out) ?_
  rintro e ws0 ⟨rfl, hT, hb⟩
  have T1 := Lib.hid hT
  have B1 := Lib.hid (BR0.out.trans hb)
  clear hT hb R0 BR0 T0 B0
  go_wp2_with fail
  refine Calls.mono (tab_row T1.out 3) ?_
  rintro e wr1 ⟨rfl, hT, hb⟩
  have R1 := Lib.hid hT
  have BR1 := Lib.hid (B1.out.trans (Kept.of_below hb))
  clear hT hb
  go_wp2_with fail
  refine Calls.mono (tab_ask R1.out (by omega) 2 (0, true, 3) 3 (i64.mk (by decide)) spotOk_ex (u8.mk (by decide)) q2.out) ?_
  rintro e ws1 ⟨rfl, hT, hb⟩
  have T2 := Lib.hid hT
  have B2 := Lib.hid (BR1.out.trans hb)
  clear hT hb R1 BR1 T1 B1
  go_wp2_with fail
  refine Calls.mono (tab_row T2.out 3) ?_
  rintro e wr2 ⟨rfl, hT, hb⟩
  have R2 := Lib.hid hT
  have BR2 := Lib.hid (B2.out.trans (Kept.of_below hb))
  clear hT hb
  go_wp2_with fail
  refine Calls.mono (tab_ask R2.out (by omega) 3 (0, true, 3) 5 (i64.mk (by decide)) spotOk_ex (u8.mk (by decide)) q3.out) ?_
  rintro e ws2 ⟨rfl, hT, hb⟩
  have T3 := Lib.hid hT
  have B3 := Lib.hid (BR2.out.trans hb)
  clear hT hb R2 BR2 T2 B2
  go_wp2_with fail
  refine Calls.mono (tab_row T3.out 3) ?_
  rintro e wr3 ⟨rfl, hT, hb⟩
  have R3 := Lib.hid hT
  have BR3 := Lib.hid (B3.out.trans (Kept.of_below hb))
  clear hT hb
  go_wp2_with fail
  refine Calls.mono (tab_ask R3.out (by omega) 4 (0, true, 3) 3 (i64.mk (by decide)) spotOk_ex (u8.mk (by decide)) q4.out) ?_
  rintro e ws3 ⟨rfl, hT, hb⟩
  have T4 := Lib.hid hT
  have B4 := Lib.hid (BR3.out.trans hb)
  clear hT hb R3 BR3 T3 B3
  go_wp2_with fail
  refine Calls.mono (tab_row T4.out 3) ?_
  rintro e wr4 ⟨rfl, hT, hb⟩
  have R4 := Lib.hid hT
  have BR4 := Lib.hid (B4.out.trans (Kept.of_below hb))
  clear hT hb
  go_wp2_with fail
  refine Calls.mono (tab_ask R4.out (by omega) 1 (0, true, 3) 5 (i64.mk (by decide)) spotOk_ex (u8.mk (by decide)) q5.out) ?_
  rintro e ws4 ⟨rfl, hT, hb⟩
  have T5 := Lib.hid hT
  have B5 := Lib.hid (BR4.out.trans hb)
  clear hT hb R4 BR4 T4 B4
  go_wp2_with fail
  refine Calls.mono (tab_for T5.out (by omega) 1 (i64.mk (by decide))) ?_
  rintro e wf0 ⟨vf0, rfl, hr, hT, hb⟩
  rw [for_i, ex_for.1] at hr
  have bz := below_box (w := wf0) (.cells #[.int .i64 2] 2)
  have Hr := Lib.hid (hr.reads_below bz)
  have HT := Lib.hid (hT.below bz)
  have HB := Lib.hid ((B5.out.trans (Kept.of_below hb)).trans (Kept.of_below bz))
  clear hr hT hb bz
  go_wp2_with fail
  refine Calls.mono (same_any _ _ [2] [2] _ Hr.out (reads_one _ 2 _ rfl)) ?_
  rintro e wg0 ⟨rfl, hb⟩
  have T6 := Lib.hid (HT.out.below hb)
  have B6 := Lib.hid (HB.out.trans (Kept.of_below hb))
  have ht : decide (([2] : List Int) = [2]) = true := by decide
  rw [ht]
  clear hb Hr HT HB ht T5 B5
  go_wp2_with fail
  refine Calls.mono (tab_for T6.out (by omega) 3 (i64.mk (by decide))) ?_
  rintro e wf1 ⟨vf1, rfl, hr, hT, hb⟩
  rw [for_i, ex_for.2.1] at hr
  have bz := below_box (w := wf1) (.cells #[.int .i64 1, .int .i64 2] 2)
  have Hr := Lib.hid (hr.reads_below bz)
  have HT := Lib.hid (hT.below bz)
  have HB := Lib.hid ((B6.out.trans (Kept.of_below hb)).trans (Kept.of_below bz))
  clear hr hT hb bz
  go_wp2_with fail
  refine Calls.mono (same_any _ _ [1, 2] [1, 2] _ Hr.out (reads_two _ 1 2 _ rfl)) ?_
  rintro e wg1 ⟨rfl, hb⟩
  have T7 := Lib.hid (HT.out.below hb)
  have B7 := Lib.hid (HB.out.trans (Kept.of_below hb))
  have ht : decide (([1, 2] : List Int) = [1, 2]) = true := by decide
  rw [ht]
  clear hb Hr HT HB ht T6 B6
  go_wp2_with fail
  refine Calls.mono (tab_for T7.out (by omega) 4 (i64.mk (by decide))) ?_
  rintro e wf2 ⟨vf2, rfl, hr, hT, hb⟩
  rw [for_i, ex_for.2.2] at hr
  have bz := below_box (w := wf2) (.cells #[.int .i64 1, .int .i64 3] 2)
  have Hr := Lib.hid (hr.reads_below bz)
  have HT := Lib.hid (hT.below bz)
  have HB := Lib.hid ((B7.out.trans (Kept.of_below hb)).trans (Kept.of_below bz))
  clear hr hT hb bz
  go_wp2_with fail
  refine Calls.mono (same_any _ _ [1, 3] [1, 3] _ Hr.out (reads_two _ 1 3 _ rfl)) ?_
  rintro e wg2 ⟨rfl, hb⟩
  have T8 := Lib.hid (HT.out.below hb)
  have B8 := Lib.hid (HB.out.trans (Kept.of_below hb))
  have ht : decide (([1, 3] : List Int) = [1, 3]) = true := by decide
  rw [ht]
  clear hb Hr HT HB ht T7 B7
  go_wp2_with fail
  refine Calls.mono (tab_leave T8.out (by omega) 2 (i64.mk (by decide))) ?_
  rintro e wl ⟨vl, rfl, hT, hr, hb⟩
  rw [leave_i, ex_leave.1] at hr
  rw [leave_i] at hT
  have bz := below_box (w := wl) (.cells #[.int .i64 1] 2)
  have Hr := Lib.hid (hr.reads_below bz)
  have HT := Lib.hid (hT.below bz)
  have HB := Lib.hid ((B8.out.trans hb).trans (Kept.of_below bz))
  clear hr hT hb bz
  go_wp2_with fail
  refine Calls.mono (same_any _ _ [1] [1] _ Hr.out (reads_one _ 1 _ rfl)) ?_
  rintro e wm ⟨rfl, hb⟩
  have T9 := Lib.hid (HT.out.below hb)
  have B9 := Lib.hid (HB.out.trans (Kept.of_below hb))
  have ht : decide (([1] : List Int) = [1]) = true := by decide
  rw [ht]
  clear hb Hr HT HB ht T8 B8
  go_wp2_with fail
  refine Calls.mono (tab_row T9.out 3) ?_
  rintro e wn ⟨rfl, hT, hb⟩
  have T10 := Lib.hid hT
  have B10 := Lib.hid (B9.out.trans (Kept.of_below hb))
  clear hT hb T9 B9
  go_wp2_with fail
  refine Calls.mono (tab_held T10.out 1 (0, true, 3) (i64.mk (by decide)) spotOk_ex) ?_
  rintro e wo ⟨rfl, hT, hb⟩
  rw [ex_leave.2.1]
  have T11 := Lib.hid hT
  have B11 := Lib.hid (B10.out.trans (Kept.of_below hb))
  clear hT hb T10 B10
  go_wp2_with fail
  refine Calls.mono (tab_used T11.out (by omega)) ?_
  rintro e wp ⟨rfl, hT, hb⟩
  rw [ex_leave.2.2]
  have B12 := Lib.hid (B11.out.trans (Kept.of_below hb))
  clear hT hb T11 B11
  go_wp2
  go_ret
  exact ⟨rfl, B12.out.below (Nat.le_refl _) (fun b hb e => e hb)⟩
end Go.Proofs.Ytmolmeamnmefeaa
