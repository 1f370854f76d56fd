/- Who passes whom: the walk. -/
import Derived.Test.YtmolmeamnmefeaaLaw1
import Derived.Test.YtmolmeamnmefeaaPure9
namespace Go.Proofs.Ytmolmeamnmefeaa
open Go.RowKit Go.Shelf Go.Proofs Go.Sort

theorem pr2 {α β γ : Type} {p : α × β × γ} {b : β} {c : γ} (h : p.2 = (b, c)) : p = (p.1, b, c) := by rw [← h]
theorem pr1 {α β : Type} {p : α × β} {b : β} (h : p.2 = b) : p = (p.1, b) := by rw [← h]
theorem spotOk_p : spotOk spP := ⟨i64.mk (by decide), i64.mk (by decide)⟩
theorem i64_nat (n : Nat) (h : n ≤ 1000) : i64 (n : Int) := i64.mk (by omega)
theorem i64_add (n : Nat) (h : n ≤ 1000) (a : Int) (h0 : 0 ≤ a) (h1 : a ≤ 1000) : i64 (a + (n : Int)) := i64.mk (by omega)

structure PassFacts (be sh : Bool) (k : Nat) : Prop where
  a1 : askS ⟨100, [], []⟩ 1 spP (mdP sh) = (paA sh, true, 0)
  a2 : askS (paA sh) 2 spP (mdP sh) = ((askS (paA sh) 2 spP (mdP sh)).1, true, 0)
  asks : ∀ i, i < k → askS (paI be sh i) (10 + (i : Int)) spP 5 = (paI be sh (i + 1), false, 0)
  mid : askS (paI be sh k) 1 spP 5 = (paQ be sh k, !be, 0)
  queue : be = true → (queueS (paQ be sh k) spP).length = k + 1 ∧ ∃ a l, queueS (paQ be sh k) spP = a :: l ∧ a.1 = 1
  left : be = true → leaveS (paQ be sh k) 2 = (paR be sh k, [1])
  held : heldS (paR be sh k) 1 spP = 5
  len : (queueS (paR be sh k) spP).length = k
  leaves : ∀ i, i < k → leaveS (itP (paR be sh k) 0 i) (lastP i) = (itP (paR be sh k) 0 (i + 1), [10 + (i : Int)])
  helds : ∀ i, i < k → heldS (itP (paR be sh k) 0 (i + 1)) (10 + (i : Int)) spP = 5

theorem passFacts (be sh : Bool) (k : Nat) (h1 : 1 ≤ k) (h2 : k ≤ 20) : PassFacts be sh k := by
  obtain ⟨p1, p2⟩ := pa_one sh
  have ha := chkA_at be sh 20 0 (pa_asks be sh)
  have hm := pa_mid be sh ⟨k - 1, by omega⟩
  rw [show k - 1 + 1 = k from by omega] at hm
  unfold midP at hm
  simp only [Bool.and_eq_true, decide_eq_true_eq, Bool.or_eq_true, Bool.not_eq_true'] at hm
  obtain ⟨⟨⟨⟨m1, m2⟩, m3⟩, m4⟩, m5⟩ := hm
  have hl := chkP_at k _ 0 m5
  have hl2 : ∀ i, i < k → (leaveI (itP (paR be sh k) 0 i) (lastP i)).2 = [10 + (i : Int)] ∧ heldS (lvP (itP (paR be sh k) 0 i) i) (10 + (i : Int)) spP = 5 := by
    intro i hi
    have := hl i hi
    rw [Nat.zero_add] at this
    unfold condP at this
    simp only [Bool.and_eq_true, decide_eq_true_eq] at this
    exact this
  refine ⟨pr2 p1, pr2 p2, fun i hi => pr2 (ha i (by omega) (by omega)), pr2 m1, fun e => ?_, fun e => ?_, m3, m4, fun i hi => ?_, fun i hi => ?_⟩
  · rcases m2 with m2 | m2
    · rw [e] at m2; cases m2
    · refine ⟨m2.1.1, ?_⟩
      cases hq : queueS (paQ be sh k) spP with
      | nil => rw [hq] at m2; simp at m2
      | cons a l =>
        rw [hq] at m2
        have := m2.1.2
        simp at this
        exact ⟨a, l, rfl, this⟩
  · rcases m2 with m2 | m2
    · rw [e] at m2; cases m2
    · rw [leave_i]
      have h3 : paR be sh k = (leaveI (paQ be sh k) 2).1 := by unfold paR; rw [if_pos e]
      rw [h3]
      exact pr1 m2.2
  · rw [leave_i, itP_succ]
    have := (hl2 i hi).1
    rw [Nat.zero_add]
    exact pr1 this
  · rw [itP_succ, Nat.zero_add]
    exact (hl2 i hi).2

/-- the spot's box -/
abbrev boxP : Obj := .cells #[.int .i64 3, .bool false, .int .i64 0] 26 (0, 0)
theorem box_kept {K : Nat → Prop} {w w' : World} {q : Nat} {o : Obj} (hk : Kept K w w') (hK : K q) (n : w.heap[q]? = some o) : w'.heap[q]? = some o := (hk.block (Array.getElem?_eq_some_iff.1 n).1 hK).trans n
theorem box_cells {w : World} {q : Nat} (n : w.heap[q]? = some boxP) : w.cell? ⟨q, 0, none⟩ = some (.int .i64 3) ∧ w.cell? ⟨q, 1, none⟩ = some (.bool false) ∧ w.cell? ⟨q, 2, none⟩ = some (.int .i64 0) := ⟨cell_of_blk n 0, cell_of_blk n 1, cell_of_blk n 2⟩

set_option maxRecDepth 100000 in
set_option maxHeartbeats 16000000 in
theorem passes_false (count : Int) (hc : u8 count) (sh : Bool) (w : World) :
    Calls Try.prog 3 #[.int .u8 count, .bool false, .bool sh] w fun e w' => e = .returned (.bool true) ∧ Below w.heap.size w w' := by
  have hcb := hc.bounds
  obtain ⟨k, hk0⟩ : ∃ k : Nat, 1 + count % 20 = (k : Int) := ⟨(1 + count % 20).toNat, by omega⟩
  have hk1 : 1 ≤ k := by omega
  have hk20 : k ≤ 20 := by omega
  have F := Lib.hid (passFacts false sh k (by omega) (by omega))
  clear hc
  have f1 := F.out.a1
  have f2 := F.out.a2
  cases sh
  all_goals
    simp only [mdP, Bool.false_eq_true, if_false, if_true] at f1 f2
    have F1 := Lib.hid f1
    have F2 := Lib.hid f2
    clear f1 f2
    go_enter Try.func3, Try.ntmps3
    go_wp2_with fail
    refine Calls.mono (tab_new 100 (i64.mk (by decide)) w) ?_
    rintro e w1 ⟨lb, rfl, hT, hb⟩
    have T0 : Hid (Tab (fun b => b < w.heap.size) lb w1 ⟨100, [], []⟩ 0) := hT
    have hz := hb.size
    have bz := below_box (w := w1) (.cells #[.int .i64 3, .bool false, .int .i64 0] 26)
    have nz := heap_alloc_new w1 (.cells #[.int .i64 3, .bool false, .int .i64 0] 26)
    have T1 := Lib.hid (T0.out.extend bz (fun b => b < w.heap.size ∨ b = w1.heap.size) (fun b hb => by
      rcases hb with hb | hb
      · exact Or.inl hb
      · exact Or.inr ⟨by omega, by simp; omega⟩))
    have B1 : Hid (Kept (fun b => b < w.heap.size) w (w1.alloc (.cells #[.int .i64 3, .bool false, .int .i64 0] 26))) := (Kept.of_below hb).trans (Kept.of_below bz)
    clear hT hb bz T0
    go_upto_region 7 with fail
    generalize w1.alloc (.cells #[.int .i64 3, .bool false, .int .i64 0] 26) = w2 at nz T1 B1 ⊢
    generalize w1.heap.size = q at hz nz T1 ⊢
    have N2 := Lib.hid nz
    obtain ⟨g0, g1, g2⟩ := box_cells nz
    clear nz
    go_wp2_with fail
    refine Calls.mono (tab_ask T1.out (by omega) 1 spP _ (i64.mk (by decide)) spotOk_p (u8.mk (by decide)) F1.out) ?_
    rintro e w3 ⟨rfl, hT, hk⟩
    have T3 := Lib.hid hT
    have B3 := Lib.hid (B1.out.trans (hk.mono (fun b _ e h => e (Or.inl h))))
    have N3 := Lib.hid (box_kept hk (Or.inr rfl) N2.out)
    clear hT hk g0 g1 g2 T1 B1 N2
    have T4 := T3
    have B4 := B3
    have N4 := N3
    clear T3 B3 N3
    go_wp2_with fail
    go_loopw [14] (fun a wr => ∃ i : Nat, i ≤ k ∧ a = .int .i64 i ∧ Hid (Tab (fun b => b < w.heap.size ∨ b = q) lb wr (paI false _ i) (i + 2)) ∧ Hid (Kept (fun b => b < w.heap.size) w wr) ∧ Hid (wr.heap[q]? = some boxP)) (fun a _ => k - (intOf a).toNat)
    case atStart => exact ⟨0, Nat.zero_le _, rfl, T4.out.more (by omega), B4, N4⟩
    case round =>
      obtain ⟨i, hi, rfl, hT, hB, hN⟩ := hrel
      clear T4 B4 N4
      by_cases hlt : i < k
      · obtain ⟨g0, g1, g2⟩ := box_cells hN.out
        have h10 : (10 : Int) + (i : Int) ≤ 1000 := by omega
        have hlt2 : (i : Int) < (k : Int) := by omega
        have hq := Lib.hid (F.out.asks i hlt)
        go_wp2_with fail
        refine Calls.mono (tab_ask hT.out (by omega) (10 + (i : Int)) spP 5 (i64_add i (by omega) 10 (by decide) (by decide)) spotOk_p (u8.mk (by decide)) hq.out) ?_
        rintro e w5 ⟨rfl, hT5, hk5⟩
        have T5 := Lib.hid hT5
        have B5 := Lib.hid (hB.out.trans (hk5.mono (fun b _ e h => e (Or.inl h))))
        have N5 := Lib.hid (box_kept hk5 (Or.inr rfl) hN.out)
        clear hT5 hk5 hT hB hN hq g0 g1 g2
        go_wp2
        go_roundw
        case rel => exact ⟨i + 1, by omega, by go_num, T5.out.more (by omega), B5, N5⟩
        case measure => simp [intOf]; omega
      · obtain rfl : k = i := by omega
        obtain ⟨g0, g1, g2⟩ := box_cells hN.out
        have hge : ¬ ((k : Int) < (k : Int)) := by omega
        have hm := Lib.hid F.out.mid
        go_wp2_with fail
        refine Calls.mono (tab_ask hT.out (by omega) 1 spP 5 (i64.mk (by decide)) spotOk_p (u8.mk (by decide)) hm.out) ?_
        rintro e w6 ⟨rfl, hT6, hk6⟩
        have T6 := Lib.hid hT6
        have B6 := Lib.hid (hB.out.trans (hk6.mono (fun b _ e h => e (Or.inl h))))
        have N6 := Lib.hid (box_kept hk6 (Or.inr rfl) hN.out)
        clear hT6 hk6 hT hB hN hm g0 g1 g2 hge
        obtain ⟨g0, g1, g2⟩ := box_cells N6.out
        go_wp2_with fail
        refine Calls.mono (tab_held T6.out 1 spP (i64.mk (by decide)) spotOk_p) ?_
        rintro e w7 ⟨rfl, hT, hb⟩
        have T7 : Hid (Tab (fun b => b < w.heap.size ∨ b = q) lb w7 (paR false _ k) (k + 2 + 1)) := hT
        have B7 := Lib.hid (B6.out.trans (Kept.of_below hb))
        have N7 := Lib.hid (box_kept (K := fun b => b < w.heap.size ∨ b = q) (Kept.of_below hb) (Or.inr rfl) N6.out)
        rw [show heldS (paQ false _ k) 1 spP = 5 from F.out.held]
        clear hT hb T6 B6 N6 g0 g1 g2
        obtain ⟨g0, g1, g2⟩ := box_cells N7.out
        go_wp2_with fail
        refine Calls.mono (tab_queue T7.out (by omega) spP spotOk_p) ?_
        rintro e w8 ⟨v8, rfl, hr, hT, hb⟩
        have T8 := Lib.hid hT
        have B8 := Lib.hid (B7.out.trans (Kept.of_below hb))
        have N8 := Lib.hid (box_kept (K := fun b => b < w.heap.size ∨ b = q) (Kept.of_below hb) (Or.inr rfl) N7.out)
        have lv := hr.len_run Try.underlying30
        rw [F.out.len] at lv
        clear hr hT hb T7 B7 N7 g0 g1 g2
        go_wp2_with fail
        clear lv
        go_loopw [20, 21] (fun a _ wr => ∃ i : Nat, i ≤ k ∧ a = .int .i64 i ∧ Hid (Tab (fun b => b < w.heap.size ∨ b = q) lb wr (itP (paR false _ k) 0 i) (k + 2 + 1)) ∧ Hid (Kept (fun b => b < w.heap.size) w wr) ∧ Hid (wr.heap[q]? = some boxP)) (fun a _ _ => k - (intOf a).toNat)
        case atStart => exact ⟨0, Nat.zero_le _, rfl, T8, B8, N8⟩
        case round =>
          obtain ⟨i, hi, rfl, hT, hB, hN⟩ := hrel
          clear T8 B8 N8
          by_cases hlt : i < k
          · have hlt2 : (i : Int) < (k : Int) := by omega
            have h10 : (10 : Int) + (i : Int) ≤ 1000 := by omega
            have h9 : (9 : Int) + (i : Int) ≤ 1000 := by omega
            have hlv := F.out.leaves i hlt
            have hlh := F.out.helds i hlt
            have hl64 : i64 (lastP i) := by
              unfold lastP
              split
              · exact i64.mk (by decide)
              · exact i64.mk (by omega)
            have htr0 := tab_leave hT.out (by omega) (lastP i) hl64
            rw [hlv] at htr0
            have htr := Lib.hid htr0
            have HLH := Lib.hid hlh
            clear htr0 hlv hlh hl64
            have hfin : ∀ (wq : World) (v : Value), Row etInt wq wr.heap.size v [10 + (i : Int)] → Calls Try.prog 11 #[v, .slice (some ⟨wq.heap.size, 0, none⟩) 1 1] (wq.alloc (.cells #[.int .i64 (10 + (i : Int))] 2)) fun e w' => e = .returned (.bool true) ∧ Below (wq.alloc (.cells #[.int .i64 (10 + (i : Int))] 2)).heap.size (wq.alloc (.cells #[.int .i64 (10 + (i : Int))] 2)) w' := by
              intro wq v hr
              have := same_any v _ [10 + (i : Int)] [10 + (i : Int)] _ (hr.reads_below (below_box (w := wq) (.cells #[.int .i64 (10 + (i : Int))] 2))) (reads_one wq (10 + (i : Int)) wq.heap.size rfl)
              rwa [show decide (([10 + (i : Int)] : List Int) = [10 + (i : Int)]) = true from by simp] at this
            have Hfin := Lib.hid hfin
            clear hfin
            by_cases hi0 : i = 0
            case' pos =>
              have hib : ((i : Int) == 0) = true := by simpa using hi0
              have hl1 : lastP i = 1 := by unfold lastP; rw [if_pos hi0]
              rw [hl1] at htr
              have Hi0 := Lib.hid hi0
              clear hi0 hl1
            case' neg =>
              have hib : ((i : Int) == 0) = false := by simp; omega
              have hl1 : lastP i = 9 + (i : Int) := by unfold lastP; rw [if_neg hi0]
              rw [hl1] at htr
              have Hi0 := Lib.hid hi0
              clear hi0 hl1
            all_goals
              go_wp2_with fail
              refine Calls.mono htr.out ?_
              rintro e wa ⟨va, rfl, hTa, hra, hka⟩
              have hsame := Hfin.out wa va hra
              have bz := below_box (w := wa) (.cells #[.int .i64 (10 + (i : Int))] 2)
              have Ta := Lib.hid (hTa.below bz)
              have Ba := Lib.hid ((hB.out.trans (hka.mono (fun b _ e h => e (Or.inl h)))).trans (Kept.of_below bz))
              have Na := Lib.hid (box_kept (K := fun b => b < w.heap.size ∨ b = q) (hka.trans (Kept.of_below bz)) (Or.inr rfl) hN.out)
              clear hTa hra hka hT hB hN htr Hfin bz
              go_wp2_with fail
              refine Calls.mono hsame ?_
              rintro e wb ⟨rfl, hb⟩
              have Tb := Lib.hid (Ta.out.below hb)
              have Bb := Lib.hid (Ba.out.trans (Kept.of_below hb))
              have Nb := Lib.hid (box_kept (K := fun b => b < w.heap.size ∨ b = q) (Kept.of_below hb) (Or.inr rfl) Na.out)
              clear hb hsame Ta Ba Na
              obtain ⟨g0, g1, g2⟩ := box_cells Nb.out
              go_wp2_with fail
              refine Calls.mono (tab_held Tb.out (10 + (i : Int)) spP (i64_add i (by omega) 10 (by decide) (by decide)) spotOk_p) ?_
              rintro e wc ⟨rfl, hT, hb⟩
              rw [HLH.out]
              have Tc := Lib.hid hT
              have Bc := Lib.hid (Bb.out.trans (Kept.of_below hb))
              have Nc := Lib.hid (box_kept (K := fun b => b < w.heap.size ∨ b = q) (Kept.of_below hb) (Or.inr rfl) Nb.out)
              clear hT hb Tb Bb Nb g0 g1 g2
              go_wp2
              go_roundw
              case rel => exact ⟨i + 1, by omega, by go_num, Tc, Bc, Nc⟩
              case measure => simp [intOf]; omega
          · obtain rfl : k = i := by omega
            have hge : ¬ ((k : Int) < (k : Int)) := by omega
            go_wp2_with fail
            refine Calls.mono (works_any _) ?_
            rintro e w9 ⟨rfl, hb⟩
            have HB := Lib.hid ((hB.out.trans (Kept.of_below hb)).below (Nat.le_refl _) (fun b hb e => e hb))
            clear hb
            go_wp2
            go_ret
            exact ⟨rfl, HB.out⟩
end Go.Proofs.Ytmolmeamnmefeaa
