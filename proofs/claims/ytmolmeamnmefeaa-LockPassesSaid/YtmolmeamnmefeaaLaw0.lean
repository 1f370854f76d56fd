/- A table of locks of the call's own, under one name; rows compared. -/
import Derived.Test.YtmolmeamnmefeaaLock25
namespace Go.Proofs.Ytmolmeamnmefeaa
open Go.RowKit Go.Shelf Go.Proofs Go.Sort

/-- at lb lies a table of locks that holds S, apart from the blocks of K -/
def Tab (K : Nat → Prop) (lb : Nat) (w : World) (S : St) (n : Nat) : Prop := ∃ C : CLocks, C.lb = lb ∧ LocksOk w C ∧ C.abs = S ∧ Good S n ∧ ∀ b, K b → b < w.heap.size ∧ ¬ C.fp b
/-- the blocks of K are as they were -/
abbrev Kept (K : Nat → Prop) (w w' : World) : Prop := Turn (fun b => ¬ K b) w w'

theorem Kept.of_below {K : Nat → Prop} {w w' : World} (h : Below w.heap.size w w') : Kept K w w' := Turn.of_below h
theorem Kept.block {K : Nat → Prop} {w w' : World} (h : Kept K w w') {b : Nat} (hb : b < w.heap.size) (hk : K b) : w'.heap[b]? = w.heap[b]? := Turn.block h b hb (fun e => e hk)
theorem Tab.good {K : Nat → Prop} {lb n : Nat} {w : World} {S : St} (h : Tab K lb w S n) : Good S n := by
  obtain ⟨C, _, _, _, h, _⟩ := h
  exact h
theorem Tab.lt {K : Nat → Prop} {lb n : Nat} {w : World} {S : St} (h : Tab K lb w S n) : ∀ b, K b → b < w.heap.size := by
  obtain ⟨C, _, _, _, _, h⟩ := h
  exact fun b hb => (h b hb).1
theorem Tab.below {K : Nat → Prop} {lb n : Nat} {w w' : World} {S : St} (h : Tab K lb w S n) (hb : Below w.heap.size w w') : Tab K lb w' S n := by
  obtain ⟨C, h1, h2, h3, h4, h5⟩ := h
  exact ⟨C, h1, h2.below hb, h3, h4, fun b hk => ⟨Nat.lt_of_lt_of_le (h5 b hk).1 hb.size, (h5 b hk).2⟩⟩
theorem Tab.more {K : Nat → Prop} {lb n n' : Nat} {w : World} {S : St} (h : Tab K lb w S n) (hn : n ≤ n') : Tab K lb w S n' := by
  obtain ⟨C, h1, h2, h3, h4, h5⟩ := h
  exact ⟨C, h1, h2, h3, h4.more hn, h5⟩
/-- what is new is kept too -/
theorem Tab.extend {K : Nat → Prop} {lb n : Nat} {w w' : World} {S : St} (h : Tab K lb w S n) (hb : Below w.heap.size w w') (K' : Nat → Prop) (hk : ∀ b, K' b → K b ∨ (w.heap.size ≤ b ∧ b < w'.heap.size)) : Tab K' lb w' S n := by
  obtain ⟨C, h1, h2, h3, h4, h5⟩ := h
  refine ⟨C, h1, h2.below hb, h3, h4, fun b hb' => ?_⟩
  rcases hk b hb' with e | e
  · exact ⟨Nat.lt_of_lt_of_le (h5 b e).1 hb.size, (h5 b e).2⟩
  · exact ⟨e.2, fun hf => by have := h2.lt b hf; omega⟩
theorem Tab.weak {K K' : Nat → Prop} {lb n : Nat} {w : World} {S : St} (h : Tab K lb w S n) (hk : ∀ b, K' b → K b) : Tab K' lb w S n := by
  obtain ⟨C, h1, h2, h3, h4, h5⟩ := h
  exact ⟨C, h1, h2, h3, h4, fun b hb => h5 b (hk b hb)⟩
/-- a turn of blocks that are kept -/
theorem Tab.grown {K : Nat → Prop} {lb n : Nat} {w w' : World} {S : St} (h : Tab K lb w S n) {fp : Nat → Prop} (ht : Turn fp w w') (hf : ∀ b, fp b → K b ∨ w.heap.size ≤ b) : Tab K lb w' S n := by
  obtain ⟨C, h1, h2, h3, h4, h5⟩ := h
  refine ⟨C, h1, h2.of_blocks (fun b hb => ht.block b (h2.lt b hb) (fun e => ?_)), h3, h4, fun b hb => ⟨Nat.lt_of_lt_of_le (h5 b hb).1 ht.size, (h5 b hb).2⟩⟩
  rcases hf b e with e | e
  · exact (h5 b e).2 hb
  · have := h2.lt b hb
    omega

theorem Turned.tab {K : Nat → Prop} {C C' : CLocks} {w w' : World} {S' : St} {n : Nat} (h : Turned C w S' w' C') (hk : ∀ b, K b → b < w.heap.size ∧ ¬ C.fp b) (hg : Good S' n) : Tab K C.lb w' S' n ∧ Kept K w w' :=
  ⟨⟨C', h.lb, h.ok, h.abs, hg, fun b hb => ⟨Nat.lt_of_lt_of_le (hk b hb).1 h.turn.size, fun hf => by
    rcases h.fp b hf with e | e
    · exact (hk b hb).2 e
    · have := (hk b hb).1
      omega⟩⟩, h.turn.mono (fun b _ e hb => (hk b hb).2 e)⟩

theorem tab_new (most : Int) (hm : i64 most) (w : World) :
    Calls Try.prog 8 #[.int .i64 most] w fun e w' => ∃ lb, e = .returned (.pointer (some ⟨lb, 0, none⟩)) ∧ Tab (fun b => b < w.heap.size) lb w' ⟨max 0 most, [], []⟩ 0 ∧ Below w.heap.size w w' := by
  refine (new_any most hm w).mono ?_
  rintro e w' ⟨C, rfl, h1, h2, h3, h4⟩
  exact ⟨C.lb, rfl, ⟨C, rfl, h1, h2, Good.new (by omega), fun b hb => ⟨Nat.lt_of_lt_of_le hb h4.size, fun e => by have := h3 b e; omega⟩⟩, h4⟩

section
variable {K : Nat → Prop} {lb n : Nat} {w : World} {S : St} (h : Tab K lb w S n) (hn : n ≤ 1000000000)
include h hn
theorem tab_ask (who : Int) (s : Spot) (m : Int) (hw : i64 who) (hs : spotOk s) (hm : u8 m) {S' : St} {ok : Bool} {er : Int} (he : askS S who s m = (S', ok, er)) :
    Calls Try.prog 9 #[.pointer (some ⟨lb, 0, none⟩), .int .i64 who, .agg #[.int .i64 s.1, .bool s.2.1, .int .i64 s.2.2], .int .u8 m] w fun e w' => e = .returned (.tuple #[.bool ok, .int .i64 er]) ∧ Tab K lb w' S' (n + 1) ∧ Kept K w w' := by
  obtain ⟨C, rfl, h2, rfl, h4, h5⟩ := h
  refine (ask_any C who s m hw hs hm w h2 n h4 hn).mono ?_
  rintro e w' ⟨C', rfl, ht⟩
  have hg := h4.ask who s m
  rw [he] at ht hg ⊢
  exact ⟨rfl, ht.tab h5 hg⟩
theorem tab_free (who : Int) (s : Spot) (hw : i64 who) (hs : spotOk s) :
    Calls Try.prog 15 #[.pointer (some ⟨lb, 0, none⟩), .int .i64 who, .agg #[.int .i64 s.1, .bool s.2.1, .int .i64 s.2.2]] w fun e w' => ∃ v, e = .returned (.tuple #[v, .int .i64 (freeS S who s).2.2]) ∧ Tab K lb w' (freeS S who s).1 n ∧ Row etInt w' w.heap.size v (freeS S who s).2.1 ∧ Kept K w w' := by
  obtain ⟨C, rfl, h2, rfl, h4, h5⟩ := h
  refine (free_any C who s hw hs w h2 n h4 (by omega)).mono ?_
  rintro e w' ⟨C', v, rfl, ht, hr⟩
  obtain ⟨h7, h8⟩ := ht.tab h5 (h4.free who s)
  exact ⟨v, rfl, h7, hr, h8⟩
theorem tab_cancel (who : Int) (hw : i64 who) :
    Calls Try.prog 16 #[.pointer (some ⟨lb, 0, none⟩), .int .i64 who] w fun e w' => ∃ v, e = .returned (.tuple #[v, .int .i64 (cancelS S who).2.2]) ∧ Tab K lb w' (cancelS S who).1 n ∧ Row etInt w' w.heap.size v (cancelS S who).2.1 ∧ Kept K w w' := by
  obtain ⟨C, rfl, h2, rfl, h4, h5⟩ := h
  refine (cancel_any C who hw w h2 n h4 (by omega)).mono ?_
  rintro e w' ⟨C', v, rfl, ht, hr⟩
  obtain ⟨h7, h8⟩ := ht.tab h5 (h4.cancel who)
  exact ⟨v, rfl, h7, hr, h8⟩
theorem tab_leave (who : Int) (hw : i64 who) :
    Calls Try.prog 12 #[.pointer (some ⟨lb, 0, none⟩), .int .i64 who] w fun e w' => ∃ v, e = .returned v ∧ Tab K lb w' (leaveS S who).1 n ∧ Row etInt w' w.heap.size v (leaveS S who).2 ∧ Kept K w w' := by
  obtain ⟨C, rfl, h2, rfl, h4, h5⟩ := h
  refine (leave_any C who hw w h2 n h4 hn).mono ?_
  rintro e w' ⟨C', v, rfl, ht, hr⟩
  obtain ⟨h7, h8⟩ := ht.tab h5 (h4.leave who)
  exact ⟨v, rfl, h7, hr, h8⟩
omit hn in
theorem tab_held (who : Int) (s : Spot) (hw : i64 who) (hs : spotOk s) :
    Calls Try.prog 13 #[.pointer (some ⟨lb, 0, none⟩), .int .i64 who, .agg #[.int .i64 s.1, .bool s.2.1, .int .i64 s.2.2]] w fun e w' => e = .returned (.int .u8 (heldS S who s)) ∧ Tab K lb w' S n ∧ Below w.heap.size w w' := by
  obtain ⟨C, rfl, h2, rfl, h4, h5⟩ := h
  refine (held_any C who s hw hs w h2).mono ?_
  rintro e w' ⟨rfl, hb⟩
  rw [held_abs]
  exact ⟨rfl, Tab.below ⟨C, rfl, h2, rfl, h4, h5⟩ hb, hb⟩
theorem tab_queue (s : Spot) (hs : spotOk s) :
    Calls Try.prog 10 #[.pointer (some ⟨lb, 0, none⟩), .agg #[.int .i64 s.1, .bool s.2.1, .int .i64 s.2.2]] w fun e w' => ∃ v, e = .returned v ∧ Row etHold w' w.heap.size v (queueS S s) ∧ Tab K lb w' S n ∧ Below w.heap.size w w' := by
  obtain ⟨C, rfl, h2, rfl, h4, h5⟩ := h
  refine (Queue_any C s hs w h2 (small_of_wt (good_wt h4 (by omega)))).mono ?_
  rintro e w' ⟨v, rfl, hr, hb⟩
  rw [queue_abs] at hr
  exact ⟨v, rfl, hr, Tab.below ⟨C, rfl, h2, rfl, h4, h5⟩ hb, hb⟩
theorem tab_waits (who : Int) (hw : i64 who) :
    Calls Try.prog 25 #[.pointer (some ⟨lb, 0, none⟩), .int .i64 who] w fun e w' => e = .returned (waitsV (waitsS S who)) ∧ Tab K lb w' S n ∧ Below w.heap.size w w' := by
  obtain ⟨C, rfl, h2, rfl, h4, h5⟩ := h
  refine (waits_any C who hw w h2 (good_wt h4 (by omega)) h4.inv.queued).mono ?_
  rintro e w' ⟨rfl, hb⟩
  exact ⟨rfl, Tab.below ⟨C, rfl, h2, rfl, h4, h5⟩ hb, hb⟩
theorem tab_used :
    Calls Try.prog 24 #[.pointer (some ⟨lb, 0, none⟩)] w fun e w' => e = .returned (.int .i64 (usedS S)) ∧ Tab K lb w' S n ∧ Below w.heap.size w w' := by
  obtain ⟨C, rfl, h2, rfl, h4, h5⟩ := h
  refine (used_any C w h2 (good_wt h4 (by omega))).mono ?_
  rintro e w' ⟨rfl, hb⟩
  rw [used_abs]
  exact ⟨rfl, Tab.below ⟨C, rfl, h2, rfl, h4, h5⟩ hb, hb⟩
theorem tab_spots (who : Int) (hw : i64 who) :
    Calls Try.prog 17 #[.pointer (some ⟨lb, 0, none⟩), .int .i64 who] w fun e w' => ∃ v, e = .returned v ∧ Row etSpot w' w.heap.size v (spotsS S who) ∧ Tab K lb w' S n ∧ Below w.heap.size w w' := by
  obtain ⟨C, rfl, h2, rfl, h4, h5⟩ := h
  refine (spots_any C who hw w h2 (good_wt h4 (by omega))).mono ?_
  rintro e w' ⟨v, rfl, hr, hb⟩
  exact ⟨v, rfl, hr, Tab.below ⟨C, rfl, h2, rfl, h4, h5⟩ hb, hb⟩
theorem tab_holders (s : Spot) (hs : spotOk s) :
    Calls Try.prog 21 #[.pointer (some ⟨lb, 0, none⟩), .agg #[.int .i64 s.1, .bool s.2.1, .int .i64 s.2.2]] w fun e w' => ∃ v, e = .returned v ∧ Row etHold w' w.heap.size v (holdersS S s) ∧ Tab K lb w' S n ∧ Below w.heap.size w w' := by
  obtain ⟨C, rfl, h2, rfl, h4, h5⟩ := h
  refine (holders_any C s hs w h2 (good_wt h4 (by omega))).mono ?_
  rintro e w' ⟨v, rfl, hr, hb⟩
  exact ⟨v, rfl, hr, Tab.below ⟨C, rfl, h2, rfl, h4, h5⟩ hb, hb⟩
theorem tab_for (who : Int) (hw : i64 who) :
    Calls Try.prog 18 #[.pointer (some ⟨lb, 0, none⟩), .int .i64 who] w fun e w' => ∃ v, e = .returned v ∧ Row etInt w' w.heap.size v (forS S who) ∧ Tab K lb w' S n ∧ Below w.heap.size w w' := by
  obtain ⟨C, rfl, h2, rfl, h4, h5⟩ := h
  refine (for_any C who hw w h2 (good_wt h4 (by omega)) h4.inv.queued).mono ?_
  rintro e w' ⟨v, rfl, hr, hb⟩
  exact ⟨v, rfl, hr, Tab.below ⟨C, rfl, h2, rfl, h4, h5⟩ hb, hb⟩
end

theorem row_any (k : Int) (w : World) :
    Calls Try.prog 36 #[.int .i64 k] w fun e w' => e = .returned (.agg #[.int .i64 0, .bool true, .int .i64 k]) ∧ w' = w.alloc (.cells #[.int .i64 0, .bool true, .int .i64 k] 26) := by
  go_enter Try.func36, Try.ntmps36
  go_wp2
  exact bodyPost_ret (v := .agg #[.int .i64 0, .bool true, .int .i64 k]) (by simp [results, Try.results36, go_sem]) rfl ⟨rfl, rfl⟩

/-- cells that read as a row of numbers -/
def Reads (w : World) (v : Value) (L : List Int) : Prop := (v = .slice none 0 0 ∧ L = []) ∨ ∃ g o cap, v = .slice (some ⟨g, o, none⟩) L.length cap ∧ L.length ≤ 9223372036854775807 ∧ ∀ i (h : i < L.length), w.cell? ⟨g, o + i, none⟩ = some (.int .i64 L[i])

theorem Row.reads {w : World} {base : Nat} {v : Value} {L : List Int} (h : Row etInt w base v L) : Reads w v L := by
  have hl := h.len_le
  unfold maxLen at hl
  rcases h.shape with h1 | ⟨g, cap, rfl, _, _, _, _, hc, _⟩
  · exact Or.inl h1
  · refine Or.inr ⟨g, 0, cap, rfl, hl, fun i hi => ?_⟩
    have := hc i 0 hi (by decide)
    rw [Nat.zero_add]
    have e : i * etInt.k + 0 = i := by show i * 1 + 0 = i; omega
    rw [e] at this
    exact this
theorem Reads.len_run {w : World} {v : Value} {L : List Int} (h : Reads w v L) : ∀ (ty : TypeId) (w' : World), (Builtin.len_ #[35] ty #[v]).run Try.prog w' = .ok (.int .i64 L.length) w' := by
  intro ty w'
  rcases h with ⟨rfl, rfl⟩ | ⟨g, o, cap, rfl, _⟩
  · simp [Builtin.len_, run_underlying Try.underlying35, goInt, Result.andThen]
  · simp [Builtin.len_, run_underlying Try.underlying35, goInt, Result.andThen]
theorem Reads.max {w : World} {v : Value} {L : List Int} (h : Reads w v L) : L.length ≤ 9223372036854775807 := by
  rcases h with ⟨rfl, rfl⟩ | ⟨g, o, cap, rfl, h, _⟩
  · simp
  · exact h

set_option maxHeartbeats 1600000 in
theorem same_any (v1 v2 : Value) (L1 L2 : List Int) (w : World) (h1 : Reads w v1 L1) (h2 : Reads w v2 L2) :
    Calls Try.prog 11 #[v1, v2] w fun e w' => e = .returned (.bool (decide (L1 = L2))) ∧ Below w.heap.size w w' := by
  have l1 := h1.len_run
  have l2 := h2.len_run
  by_cases hl : L1.length = L2.length
  · have hn : ((L1.length : Int) != (L2.length : Int)) = false := by simp [hl]
    have Hl := Lib.hid hl
    have H1 := Lib.hid h1
    have H2 := Lib.hid h2
    have hm := h1.max
    clear hl h1 h2
    go_enter Try.func11, Try.ntmps11
    go_wp2_with fail
    go_loopw [5] (fun i wr => ∃ k q : Nat, k ≤ L1.length ∧ i = .int .i64 k ∧ Hid (L1.take k = L2.take k) ∧ wr = w.drewN q) (fun i _ => L1.length - (intOf i).toNat)
    case atStart => exact ⟨0, 0, Nat.zero_le _, rfl, rfl, rfl⟩
    case round =>
      obtain ⟨k, q, hk, rfl, htk, rfl⟩ := hrel
      by_cases hlt : k < L1.length
      · have hlt2 : k < L2.length := by rw [← Hl.out]; exact hlt
        obtain ⟨g1, o1, c1, rfl, _, k1⟩ := H1.out.resolve_left (fun e => by rw [e.2] at hlt; simp at hlt)
        obtain ⟨g2, o2, c2, rfl, _, k2⟩ := H2.out.resolve_left (fun e => by rw [e.2] at hlt2; simp at hlt2)
        have a1 := k1 k hlt
        have a2 := k2 k hlt2
        have b0 : (0 : Int) ≤ (k : Int) := by omega
        have b1 : (k : Int) < (L1.length : Int) := by omega
        have b2 : (k : Int) < (L2.length : Int) := by omega
        have t1 := Lib.hid (List.take_succ_eq_append_getElem hlt)
        have t2 := Lib.hid (List.take_succ_eq_append_getElem hlt2)
        generalize hx : L1[k] = x at a1 t1
        generalize hy : L2[k] = y at a2 t2
        have Hx := Lib.hid hx
        have Hy := Lib.hid hy
        clear k1 k2 hx hy
        cases hne : (x != y) with
        | true =>
          have E : Hid (decide (L1 = L2) = false) := by
            show _ = _
            simp only [decide_eq_false_iff_not]
            intro e
            have h3 := Hx.out
            have h4 := Hy.out
            subst e
            rw [h3] at h4
            rw [h4] at hne
            simp at hne
          go_wp2_with fail
          go_quiet (fail)
          go_wp2
          go_ret
          exact ⟨ret_bool E.out.symm, bdn (bdn (Below.refl _ _) _) _⟩
        | false =>
          have hxy : Hid (x = y) := by show _ = _; simpa using hne
          go_wp2_with fail
          go_quiet (fail)
          go_wp2
          go_roundw
          case rel =>
            refine ⟨k + 1, q + nq, by omega, by go_num, ?_, by simp⟩
            show L1.take (k + 1) = L2.take (k + 1)
            rw [t1.out, t2.out, htk.out, hxy.out]
          case measure => simp [intOf]; omega
      · have E : Hid (decide (L1 = L2) = true) := by
          show _ = _
          have h3 := htk.out
          have h4 := Hl.out
          rw [List.take_of_length_le (by omega), List.take_of_length_le (by omega)] at h3
          simp [h3]
        go_wp2
        go_ret
        exact ⟨ret_bool E.out.symm, bdn (Below.refl _ _) _⟩
  · have hn : ((L1.length : Int) != (L2.length : Int)) = true := by simp; omega
    have E : Hid (decide (L1 = L2) = false) := by
      show _ = _
      simp only [decide_eq_false_iff_not]
      exact fun e => hl (by rw [e])
    clear hl
    go_enter Try.func11, Try.ntmps11
    go_wp2
    go_ret
    exact ⟨ret_bool E.out.symm, Below.refl _ _⟩
end Go.Proofs.Ytmolmeamnmefeaa
