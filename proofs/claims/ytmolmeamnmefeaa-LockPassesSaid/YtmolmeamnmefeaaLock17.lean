/- Granting the first of a queue, as long as that can be: the walk. -/
import Derived.Test.YtmolmeamnmefeaaLock16
import Derived.RangeFuncNested
import Derived.RangeFuncBound
import Derived.RangeFuncCalls
import Derived.RangeFuncLeaves
import Derived.Shelf.Abstract
import Derived.Shelf.RegionOpen
import Derived.WalkKit
import Derived.OwnWalkIn
import Derived.TacticsInMore
import Derived.LoopNIn
import Derived.LoopIn
import Derived.Deep.RegionHeld3
import Derived.Maps.OwnSet
namespace Go.Proofs.Ytmolmeamnmefeaa
open Go.RowKit Go.Shelf Go.Proofs Go.Sort
attribute [local go_sem] Oper.semAt_some

def lenV : Value → Nat
  | .slice _ n _ => n
  | _ => 0
theorem Row.lenV {P : Program} {e : TypeId} {α : Type} {E : ET P e α} {w : World} {base : Nat} {v : Value} {L : List α} (h : Row E w base v L) : lenV v = L.length := by
  rcases h.shape with ⟨rfl, rfl⟩ | ⟨_, _, rfl, _⟩ <;> rfl

theorem cell_far {w : World} {p b i j : Nat} {u v : Value} (h : b ≠ p) (hc : w.cell? ⟨b, j, none⟩ = some u) : (w.setCell ⟨p, i, none⟩ v).cell? ⟨b, j, none⟩ = some u :=
  (World.cell?_setCell_other _ _ _ _ (fun e => h (by cases e; rfl))).trans hc

theorem SpotOk.held {w w' : World} {c : CSpot} (h : SpotOk w c) (ht : Turn (fun b => b = c.hb) w w') (hs : List Hold) (hm : MapAt mtHolds w' c.hb hs) (hk : ∀ x ∈ hs, 1 ≤ x.2 ∧ x.2 ≤ 5) : SpotOk w' { c with holds := hs } where
  blk := (ht.block _ (h.lt _ (Or.inl rfl)) h.ne.1).trans h.blk
  holds := hm
  up := h.up.of_block (fun b hb => ht.block b (h.up.lt b hb).2 (h.ne.2 b (Or.inl hb)).2)
  rest := h.rest.of_block (fun b hb => ht.block b (h.rest.lt b hb).2 (h.ne.2 b (Or.inr hb)).2)
  apart := h.apart
  modes := hk
  upOk := h.upOk
  restOk := h.restOk

section
variable {P : Program} {Q : Exit → Act → World → Prop} {md : Region.Mode} {S : World → Prop}
theorem drop_at {l r : List Oper} {i : Nat} {o : Oper} (hd : l.drop i = o :: r) : l.toArray[i]? = some o := by
  have := congrArg (fun x => x[0]?) hd
  simpa using this
/-- An operation that may come up first is taken first, written out. -/
theorem takeH {l r : List Oper} (i : Nat) {oi : Oper} {v : Value} {fuel : Nat} {listed : Array Bool} {a : Act} {w : World} (hd : l.drop i = oi :: r)
    (hs : Region.noSelect l.toArray = true) (hf : Region.free md l.toArray listed i = true) (hr : (Region.ready md l.toArray listed).contains i = true)
    (hQ : ∀ c a w, Q (.panic c) (a.put oi.dst v) w → Q (.panic c) a w) (hy : YieldsIf P l.toArray S oi v a) (hS : S w)
    (h : wpAnyH P md l.toArray Q S fuel (listed.setIfInBounds i true) (a.put oi.dst v) w) : wpAnyH P md l.toArray Q S (fuel + 1) listed a w :=
  wpAnyH_take (drop_at hd) hs hf hr hQ hy hS h
theorem consH {l r : List Oper} {fuel : Nat} {listed : Array Bool} {a : Act} {w : World} (i : Nat) {o : Oper} {rs : List Nat} (hd : l.drop i = o :: r)
    (h : ∀ K' : Act → World → Prop, Shut (∀ a w, S w → (S w → wpAnyH P md l.toArray Q S fuel (listed.setIfInBounds i true) a w) → K' a w) → if Region.wanted o (yielded l.toArray a.tmps) = true then Oper.wp P o a w K' Q else K' (a.put o.dst undef) w)
    (hs : AllReadyH P md l.toArray Q S fuel listed a w rs) : AllReadyH P md l.toArray Q S fuel listed a w (i :: rs) :=
  AllReadyH.cons (drop_at hd) h hs
end

set_option maxRecDepth 100000 in
set_option maxHeartbeats 3200000 in
theorem regrant1_any (l n : Nat) (c : CSpot) (q : Nat) (J : List Int → World → Prop) (W : World) (hc : SpotOk W c) (hbd : c.up.length + c.rest.length ≤ 1099511627776)
    (hq : W.cell? ⟨q, 0, none⟩ = some (.pointer (some ⟨c.p, 0, none⟩))) (hqf : ¬ c.fp q) (lq : q < W.heap.size)
    (hJ : ∀ pre A B, J pre A → W.heap.size ≤ A.heap.size → Turn c.fp A B → J pre B)
    (hY : ∀ pre x W1, (∃ t, (grantS c.abs).2 = pre ++ x :: t) → J pre W1 → i64 x → W.heap.size ≤ W1.heap.size → YieldAt Fence.wide n Try.prog l #[.int .i64 x] W1 fun e W' => e = .returned (.bool true) ∧ J (pre ++ [x]) W' ∧ Turn (fun b => ¬ (c.fp b ∨ b = q)) W1 W')
    (h0 : J [] W) :
    Calls Try.prog 79 #[.func (.yield l) #[] #[], .pointer (some ⟨q, 0, none⟩)] W fun e W' => e = .returned (.tuple #[]) ∧ ∃ c', SpotOk W' c' ∧ c'.abs = (grantS c.abs).1 ∧ c'.p = c.p ∧ (∀ b, c'.fp b → c.fp b) ∧ J (grantS c.abs).2 W' := by
  have Hc := Lib.hid hc
  have H0 := Lib.hid h0
  have HJ := Lib.hid hJ
  have HY := Lib.hid hY
  clear hc h0 hJ hY
  go_enter Try.func79, Try.ntmps79
  go_wp2_with (go_at_call 30; refine Calls.mono (queue_any c _ Hc.out hbd) ?_; rintro e w1 ⟨v1, rfl, hv1, hb1⟩)
  have hj1 := Lib.hid (HJ.out [] W w1 H0.out (Nat.le_refl _) (Turn.of_below hb1))
  have hc1 := Lib.hid (Hc.out.below hb1)
  have hq1 := (hb1.cell (p := ⟨q, 0, none⟩) lq).trans hq
  have hz1 := hb1.size
  clear hb1 hq

  go_loopw [3, 4] (fun v _ wr => ∃ c' pre, Hid (SpotOk wr c') ∧ Hid (c'.p = c.p ∧ c'.hb = c.hb ∧ c'.vu.ownBlock = c.vu.ownBlock ∧ c'.vr.ownBlock = c.vr.ownBlock) ∧ Hid (J pre wr) ∧ Hid (grantS c.abs = ((grantS c'.abs).1, pre ++ (grantS c'.abs).2)) ∧ Hid (c'.up.length + c'.rest.length ≤ 1099511627776) ∧ Row etHold wr W.heap.size v (c'.up ++ c'.rest) ∧ wr.cell? ⟨q, 0, none⟩ = some (.pointer (some ⟨c.p, 0, none⟩)) ∧ W.heap.size ≤ wr.heap.size) (fun v _ _ => lenV v)
  case atStart => exact ⟨c, [], hc1, ⟨rfl, rfl, rfl, rfl⟩, hj1, rfl, hbd, hv1, hq1, hz1⟩
  case round =>
    obtain ⟨c', pre, hc', heq, hj, hg, hb, hv, hqr, hzr⟩ := hrel
    clear hc1 hj1 hv1 hq1 hz1
    have lv := hv.len_run Try.underlying30
    have hcf : ∀ b, c'.fp b → c.fp b := by
      obtain ⟨e1, e2, e3, e4⟩ := heq.out
      rintro b (rfl | rfl | h | h)
      · exact Or.inl e1
      · exact Or.inr (Or.inl e2)
      · exact Or.inr (Or.inr (Or.inl (e3 ▸ h)))
      · exact Or.inr (Or.inr (Or.inr (e4 ▸ h)))
    have Hcf := Lib.hid hcf
    clear hcf
    cases hL : c'.up ++ c'.rest with
    | nil =>
      rw [hL] at hv lv
      have hfin : grantS c.abs = (c'.abs, pre) := by rw [hg.out, grantS_nil (by exact hL)]; simp
      have Hfin := Lib.hid hfin
      have Hp := Lib.hid heq.out.1
      clear hL hfin
      go_wp2_with fail
      go_quiet (fail)
      go_wp2
      exact bodyPost_end (results_none rfl _ _ _) rfl ⟨rfl, c', hc'.out.of_blocks (fun _ _ => rfl), by rw [Hfin.out], Hp.out, Hcf.out, by rw [Hfin.out]; exact HJ.out _ wr _ hj.out hzr ⟨rfl, rfl, rfl, Nat.le_refl _, fun _ _ _ => rfl⟩⟩
    | cons h L =>
      rw [hL] at hv lv
      have HL := Lib.hid hL
      have Hp := Lib.hid heq.out.1
      have hi : i64 h.1 := by
        have hm : h ∈ c'.up ++ c'.rest := by rw [hL]; simp
        rcases List.mem_append.1 hm with hm | hm
        · exact (hc'.out.upOk h hm).1
        · exact (hc'.out.restOk h hm).1
      have hlen : L.length + 1 ≤ 1099511627776 := by
        have := congrArg List.length hL
        simp at this
        have := hb.out
        omega
      obtain ⟨g, cap, hve⟩ := ownsRow_shape hv (by simp)
      have hv' := hv
      rw [hve] at hv'
      have hgl := hv'.lt g rfl
      have k0 : wr.cell? ⟨g, 0, none⟩ = some (.int .i64 h.1) := by
        have := hv'.at 0 0 (by simp) (by decide)
        simpa [etHold] using this
      have k1 : wr.cell? ⟨g, 1, none⟩ = some (.int .u8 h.2) := by
        have := hv'.at 0 1 (by simp) (by decide)
        simpa [etHold] using this
      have hcan : ∀ wq, SpotOk wq c' → Calls Try.prog 29 #[.pointer (some ⟨c.p, 0, none⟩), .agg #[.int .i64 h.1, .int .u8 h.2]] wq fun e w' => e = .returned (.bool (canG c'.holds h.1 h.2)) ∧ Below wq.heap.size wq w' := by
        intro wq hwq
        have := can_any c' h.1 h.2 wq hwq
        rwa [Hp.out] at this
      have hpos : (decide (0 < (L.length : Int) + 1)) = true := by simp
      rw [hve]
      rw [hve] at lv
      simp only [List.length_cons] at lv hve
      clear hL hv'
      go_wp2_with fail
      go_cut [16] from 7 to 16 (fun b wx => b = .bool (canG c'.holds h.1 h.2) ∧ Below wr.heap.size wr wx)
      case first =>
        go_region_with (go_at_call 29; refine Calls.mono (hcan _ (hc'.out.of_blocks (fun _ _ => rfl))) ?_; rintro e w2 ⟨rfl, hb2⟩; have hb2' : Below wr.heap.size wr w2 := ((Below.refl wr.heap.size wr).drew).trans hb2)
        all_goals (go_wp2_with fail; go_meet; exact ⟨rfl, hb2'⟩)
      case rest =>
      obtain ⟨rfl, hbx⟩ := hcut
      rename World => wx
      cases hcg : canG c'.holds h.1 h.2 with
      | false =>
        have hfin : grantS c.abs = (c'.abs, pre) := by rw [hg.out, grantS_stop (x := c'.abs) (by exact HL.out) hcg]; simp
        have Hfin := Lib.hid hfin
        clear hfin
        go_wp2
        exact bodyPost_end (results_none rfl _ _ _) rfl ⟨rfl, c', hc'.out.below hbx, by rw [Hfin.out], Hp.out, Hcf.out, by rw [Hfin.out]; exact HJ.out _ wr _ hj.out hzr (Turn.of_below hbx)⟩
      | true =>
        have hst : grantS c.abs = ((grantS (c'.abs.give h)).1, (pre ++ [h.1]) ++ (grantS (c'.abs.give h)).2) := by
          rw [hg.out, grantS_step (x := c'.abs) (by exact HL.out) hcg]
          simp
        have Hst := Lib.hid hst
        have hjx := Lib.hid (HJ.out _ wr wx hj.out hzr (Turn.of_below hbx))
        have hsx := Lib.hid (hc'.out.below hbx)
        have hqx0 := (hbx.cell (p := ⟨q, 0, none⟩) (Nat.lt_of_lt_of_le lq hzr)).trans hqr
        have k0x := (hbx.cell (p := ⟨g, 0, none⟩) hgl.2).trans k0
        have k1x := (hbx.cell (p := ⟨g, 1, none⟩) hgl.2).trans k1
        have hzx : W.heap.size ≤ wx.heap.size := Nat.le_trans hzr hbx.size
        clear hst hcan hv hqr k0 k1 lv hbx
        go_upto_region 4 with fail
        have b0 := cell_new wx #[.int .i64 h.1, .int .u8 h.2] 33 0
        have b1 := cell_new wx #[.int .i64 h.1, .int .u8 h.2] 33 1
        simp only [List.getElem?_toArray, List.getElem?_cons_zero, List.getElem?_cons_succ] at b0 b1
        have hbz := below_box (w := wx) (.cells #[.int .i64 h.1, .int .u8 h.2] 33)
        have hqx := (hbz.cell (p := ⟨q, 0, none⟩) (Nat.lt_of_lt_of_le lq hzx)).trans hqx0
        have hsp := Lib.hid (hsx.out.below hbz)
        have hj5 := Lib.hid (HJ.out _ wx _ hjx.out hzx (Turn.of_below hbz))
        have hz5 : (wx.alloc (.cells #[.int .i64 h.1, .int .u8 h.2] 33)).heap.size = wx.heap.size + 1 := by simp
        clear hbz hqx0 k0x k1x hjx
        generalize wx.alloc (.cells #[.int .i64 h.1, .int .u8 h.2] 33) = w5 at b0 b1 hqx hsp hj5 hz5 ⊢
        have p1 : w5.cell? ⟨c.p, 1, none⟩ = some c'.vu := by have := cell_of_blk hsp.out.blk 1; rwa [Hp.out] at this
        have p2 : w5.cell? ⟨c.p, 2, none⟩ = some c'.vr := by have := cell_of_blk hsp.out.blk 2; rwa [Hp.out] at this
        have f1 : w5.frozen? ⟨c.p, 1, none⟩ = false := by have := frozen_of_blk hsp.out.blk 1; rwa [Hp.out] at this
        have f2 : w5.frozen? ⟨c.p, 2, none⟩ = false := by have := frozen_of_blk hsp.out.blk 2; rwa [Hp.out] at this
        have hlp : c.p < w5.heap.size := by have := hsp.out.lt _ (Or.inl rfl); rwa [Hp.out] at this
        have hltx : ∀ b, c'.fp b → b < wx.heap.size := fun b hb => hsx.out.lt b hb
        have hne1 : ∀ j : Nat, some (⟨c.p, j, none⟩ : Addr).block ≠ c'.vu.ownBlock := fun j e => (hsp.out.ne.2 _ (Or.inl e.symm)).1 Hp.out.symm
        have hne2 : ∀ j : Nat, some (⟨c.p, j, none⟩ : Addr).block ≠ c'.vr.ownBlock := fun j e => (hsp.out.ne.2 _ (Or.inr e.symm)).1 Hp.out.symm
        have hne1q : some (⟨q, 0, none⟩ : Addr).block ≠ c'.vu.ownBlock := fun e => hqf (Hcf.out _ (Or.inr (Or.inr (Or.inl e.symm))))
        have hne2q : some (⟨q, 0, none⟩ : Addr).block ≠ c'.vr.ownBlock := fun e => hqf (Hcf.out _ (Or.inr (Or.inr (Or.inr e.symm))))
        have hne1b : ∀ j : Nat, some (⟨wx.heap.size, j, none⟩ : Addr).block ≠ c'.vu.ownBlock := fun j e => by have := hltx _ (Or.inr (Or.inr (Or.inl e.symm))); simp at this
        have hne2b : ∀ j : Nat, some (⟨wx.heap.size, j, none⟩ : Addr).block ≠ c'.vr.ownBlock := fun j e => by have := hltx _ (Or.inr (Or.inr (Or.inr e.symm))); simp at this
        have hqp : q ≠ c.p := fun e => hqf (Or.inl e)
        have hBp : wx.heap.size ≠ c.p := fun e => by have := hltx _ (Or.inl rfl); rw [Hp.out] at this; omega
        have hrecut : ∀ (wq : World) (vu' vr' : Value), Row etHold wq 0 vu' (wo c'.up h.1) → Row etHold wq 0 vr' (wo c'.rest h.1) → vu'.ownBlock = c'.vu.ownBlock → vr'.ownBlock = c'.vr.ownBlock → Turn (fun b => c'.vu.ownBlock = some b ∨ c'.vr.ownBlock = some b) w5.drew wq → ∀ w3, (w3 = (wq.setCell ⟨c.p, 1, none⟩ vu').setCell ⟨c.p, 2, none⟩ vr' ∨ w3 = (wq.setCell ⟨c.p, 2, none⟩ vr').setCell ⟨c.p, 1, none⟩ vu') →
            ∃ c2 : CSpot, c2.holds = c'.holds ∧ c2.up = wo c'.up h.1 ∧ c2.rest = wo c'.rest h.1 ∧ c2.p = c'.p ∧ c2.hb = c'.hb ∧ c2.vu.ownBlock = c'.vu.ownBlock ∧ c2.vr.ownBlock = c'.vr.ownBlock ∧ SpotOk w3 c2 ∧ Turn c'.fp w5 w3 := by
          intro wq vu' vr' hu hr eu er ht w3 h3
          have ht' : Turn (fun b => c'.vu.ownBlock = some b ∨ c'.vr.ownBlock = some b) w5 wq := ⟨ht.os, ht.tape, ht.output, ht.size, ht.block⟩
          rw [← Hp.out] at h3
          obtain ⟨k1, k2⟩ := hsp.out.recut ht' hu hr eu er (fun x hx => wo_sub x hx) (fun x hx => wo_sub x hx) h3
          exact ⟨{ c' with vu := vu', vr := vr', up := wo c'.up h.1, rest := wo c'.rest h.1 }, rfl, rfl, rfl, rfl, rfl, eu, er, k1, k2⟩
        have HR := Lib.hid hrecut
        clear hrecut
        go_cut [] from 22 to 41 (fun wy => ∃ c2 : CSpot, c2.holds = c'.holds ∧ c2.up = wo c'.up h.1 ∧ c2.rest = wo c'.rest h.1 ∧ c2.p = c'.p ∧ c2.hb = c'.hb ∧ c2.vu.ownBlock = c'.vu.ownBlock ∧ c2.vr.ownBlock = c'.vr.ownBlock ∧ SpotOk wy c2 ∧ Turn c'.fp w5 wy)
        case first =>
          have hrecut := HR.out
          have hupD : Row etHold w5.drew 0 c'.vu c'.up := hsp.out.up.of_block (fun _ _ => rfl)
          have hreD : Row etHold w5.drew 0 c'.vr c'.rest := hsp.out.rest.of_block (fun _ _ => rfl)
          refine wp_region_noPanic ?_
          refine wp_region_held_drew (S := (fun w' => w'.cell? ⟨q, 0, none⟩ = some (.pointer (some ⟨c.p, 0, none⟩)) ∧ w'.cell? ⟨wx.heap.size, 0, none⟩ = some (.int .i64 h.1) ∧ w'.cell? ⟨wx.heap.size, 1, none⟩ = some (.int .u8 h.2))) (by kernel_rfl) ?hS0 (fun hHeld => ?rst0)
          case hS0 => ((try dsimp only); (refine ⟨?_, ?_, ?_⟩ <;> (repeat (first | assumption | (refine cell_far hqp ?_) | (refine cell_far hBp ?_)))))
          refine takeH 0 (v := ?v1) rfl (by kernel_rfl) (by kernel_rfl) (by kernel_rfl) (fun _ _ _ h => h) (Or.inl ⟨by rfl, ?hy1⟩) (by assumption) ?rst1
          case hy1 => (intro w hSw; (try dsimp only at hSw); go_simp; try with_reducible rfl)
          try simp only [Act.put, List.setIfInBounds_toArray, List.set_cons_zero, List.set_cons_succ]
          refine takeH 1 (v := ?v2) rfl (by kernel_rfl) (by kernel_rfl) (by kernel_rfl) (fun _ _ _ h => h) (Or.inl ⟨by rfl, ?hy2⟩) (by assumption) ?rst2
          case hy2 => (intro w hSw; (try dsimp only at hSw); go_simp; try with_reducible rfl)
          try simp only [Act.put, List.setIfInBounds_toArray, List.set_cons_zero, List.set_cons_succ]
          refine takeH 2 (v := ?v3) rfl (by kernel_rfl) (by kernel_rfl) (by kernel_rfl) (fun _ _ _ h => h) (Or.inl ⟨by rfl, ?hy3⟩) (by assumption) ?rst3
          case hy3 => (intro w hSw; (try dsimp only at hSw); go_simp; try with_reducible rfl)
          try simp only [Act.put, List.setIfInBounds_toArray, List.set_cons_zero, List.set_cons_succ]
          refine takeH 3 (v := ?v4) rfl (by kernel_rfl) (by kernel_rfl) (by kernel_rfl) (fun _ _ _ h => h) (Or.inl ⟨by rfl, ?hy4⟩) (by assumption) ?rst4
          case hy4 => (intro w hSw; (try dsimp only at hSw); go_simp; try with_reducible rfl)
          try simp only [Act.put, List.setIfInBounds_toArray, List.set_cons_zero, List.set_cons_succ]
          refine takeH 4 (v := ?v5) rfl (by kernel_rfl) (by kernel_rfl) (by kernel_rfl) (fun _ _ _ h => h) (Or.inl ⟨by rfl, ?hy5⟩) (by assumption) ?rst5
          case hy5 => (intro w hSw; (try dsimp only at hSw); go_simp; try with_reducible rfl)
          try simp only [Act.put, List.setIfInBounds_toArray, List.set_cons_zero, List.set_cons_succ]
          refine takeH 6 (v := ?v6) rfl (by kernel_rfl) (by kernel_rfl) (by kernel_rfl) (fun _ _ _ h => h) (Or.inl ⟨by rfl, ?hy6⟩) (by assumption) ?rst6
          case hy6 => (intro w hSw; (try dsimp only at hSw); go_simp; try with_reducible rfl)
          try simp only [Act.put, List.setIfInBounds_toArray, List.set_cons_zero, List.set_cons_succ]
          refine takeH 7 (v := ?v7) rfl (by kernel_rfl) (by kernel_rfl) (by kernel_rfl) (fun _ _ _ h => h) (Or.inl ⟨by rfl, ?hy7⟩) (by assumption) ?rst7
          case hy7 => (intro w hSw; (try dsimp only at hSw); go_simp; try with_reducible rfl)
          try simp only [Act.put, List.setIfInBounds_toArray, List.set_cons_zero, List.set_cons_succ]
          refine takeH 9 (v := ?v8) rfl (by kernel_rfl) (by kernel_rfl) (by kernel_rfl) (fun _ _ _ h => h) (Or.inl ⟨by rfl, ?hy8⟩) (by assumption) ?rst8
          case hy8 => (intro w hSw; (try dsimp only at hSw); go_simp; try with_reducible rfl)
          try simp only [Act.put, List.setIfInBounds_toArray, List.set_cons_zero, List.set_cons_succ]
          refine takeH 10 (v := ?v9) rfl (by kernel_rfl) (by kernel_rfl) (by kernel_rfl) (fun _ _ _ h => h) (Or.inl ⟨by rfl, ?hy9⟩) (by assumption) ?rst9
          case hy9 => (intro w hSw; (try dsimp only at hSw); go_simp; try with_reducible rfl)
          try simp only [Act.put, List.setIfInBounds_toArray, List.set_cons_zero, List.set_cons_succ]
          refine takeH 11 (v := ?v10) rfl (by kernel_rfl) (by kernel_rfl) (by kernel_rfl) (fun _ _ _ h => h) (Or.inl ⟨by rfl, ?hy10⟩) (by assumption) ?rst10
          case hy10 => (intro w hSw; (try dsimp only at hSw); go_simp; try with_reducible rfl)
          try simp only [Act.put, List.setIfInBounds_toArray, List.set_cons_zero, List.set_cons_succ]
          refine takeH 13 (v := ?v11) rfl (by kernel_rfl) (by kernel_rfl) (by kernel_rfl) (fun _ _ _ h => h) (Or.inl ⟨by rfl, ?hy11⟩) (by assumption) ?rst11
          case hy11 => (intro w hSw; (try dsimp only at hSw); go_simp; try with_reducible rfl)
          try simp only [Act.put, List.setIfInBounds_toArray, List.set_cons_zero, List.set_cons_succ]
          refine takeH 14 (v := ?v12) rfl (by kernel_rfl) (by kernel_rfl) (by kernel_rfl) (fun _ _ _ h => h) (Or.inl ⟨by rfl, ?hy12⟩) (by assumption) ?rst12
          case hy12 => (intro w hSw; (try dsimp only at hSw); go_simp; try with_reducible rfl)
          try simp only [Act.put, List.setIfInBounds_toArray, List.set_cons_zero, List.set_cons_succ]
          refine wpAnyH_ready (rs := [5, 12]) (by kernel_rfl) (by simp) ?_
          refine consH 5 rfl (fun K hK => ?step13) ?more13
          case step13 =>
            go_simp
            refine hK.out _ _ ?hS13 (fun hHeld => ?rst13)
            case hS13 => ((try dsimp only); (refine ⟨?_, ?_, ?_⟩ <;> (repeat (first | assumption | (refine cell_far hqp ?_) | (refine cell_far hBp ?_)))))
            clear hK K
            try simp only [Act.put, List.setIfInBounds_toArray, List.set_cons_zero, List.set_cons_succ]
            refine wpAnyH_ready (rs := [8, 12]) (by kernel_rfl) (by simp) ?_
            refine consH 8 rfl (fun K hK => ?step14) ?more14
            case step14 =>
              go_simp
              go_at_call 51
              (with_reducible refine Calls.mono (without_any 0 c'.vu c'.up h.1 _ hupD) ?_)
              rintro e wA ⟨vA, rfl, hvA, hgA, hoA⟩
              have mA := hvA.cells1
              unfold Value.cells at mA
              have oA := fun (a : Addr) (w : World) m => run_store Try.prog w a vA m hvA.one1
              have p1A := hgA.cell p1 (hne1 1)
              have p2A := hgA.cell p2 (hne1 2)
              have f1A := (hgA.frozen_far ⟨c.p, 1, none⟩ hlp (hne1 1)).trans f1
              have f2A := (hgA.frozen_far ⟨c.p, 2, none⟩ hlp (hne1 2)).trans f2
              have qA := hgA.cell hqx hne1q
              have b0A := hgA.cell b0 (hne1b 0)
              have b1A := hgA.cell b1 (hne1b 1)
              have hrA : Row etHold wA 0 c'.vr c'.rest := hsp.out.rest.of_block (fun b hb => hgA.block b (hsp.out.rest.lt b hb).2 (fun e => hsp.out.apart b e.symm hb))
              try go_wp2_with fail
              refine hK.out _ _ ?hS14 (fun hHeld => ?rst14)
              case hS14 => ((try dsimp only); (refine ⟨?_, ?_, ?_⟩ <;> (repeat (first | assumption | (refine cell_far hqp ?_) | (refine cell_far hBp ?_)))))
              clear hK K
              try simp only [Act.put, List.setIfInBounds_toArray, List.set_cons_zero, List.set_cons_succ]
              refine wpAnyH_ready (rs := [12]) (by kernel_rfl) (by simp) ?_
              refine consH 12 rfl (fun K hK => ?step15) ?more15
              case step15 =>
                go_simp
                refine hK.out _ _ ?hS15 (fun hHeld => ?rst15)
                case hS15 => ((try dsimp only); (refine ⟨?_, ?_, ?_⟩ <;> (repeat (first | assumption | (refine cell_far hqp ?_) | (refine cell_far hBp ?_)))))
                clear hK K
                try simp only [Act.put, List.setIfInBounds_toArray, List.set_cons_zero, List.set_cons_succ]
                refine wpAnyH_ready (rs := [15]) (by kernel_rfl) (by simp) ?_
                refine consH 15 rfl (fun K hK => ?step16) ?more16
                case step16 =>
                  go_simp
                  go_at_call 51
                  revert hrA
                  intro hrA
                  (with_reducible refine Calls.mono (without_any 0 c'.vr c'.rest h.1 _ hrA) ?_)
                  rintro e wB ⟨vB, rfl, hvB, hgB, hoB⟩
                  have mB := hvB.cells1
                  unfold Value.cells at mB
                  have oB := fun (a : Addr) (w : World) m => run_store Try.prog w a vB m hvB.one1
                  have p1B := hgB.cell p1A (hne2 1)
                  have p2B := hgB.cell p2A (hne2 2)
                  have f1B := (hgB.frozen_far ⟨c.p, 1, none⟩ (Nat.lt_of_lt_of_le hlp hgA.size) (hne2 1)).trans f1A
                  have f2B := (hgB.frozen_far ⟨c.p, 2, none⟩ (Nat.lt_of_lt_of_le hlp hgA.size) (hne2 2)).trans f2A
                  have qB := hgB.cell qA hne2q
                  have b0B := hgB.cell b0A (hne2b 0)
                  have b1B := hgB.cell b1A (hne2b 1)
                  try go_wp2_with fail
                  refine hK.out _ _ ?hS16 (fun hHeld => ?rst16)
                  case hS16 => ((try dsimp only); (refine ⟨?_, ?_, ?_⟩ <;> (repeat (first | assumption | (refine cell_far hqp ?_) | (refine cell_far hBp ?_)))))
                  clear hK K
                  try simp only [Act.put, List.setIfInBounds_toArray, List.set_cons_zero, List.set_cons_succ]
                  refine takeH 16 (v := ?v17) rfl (by kernel_rfl) (by kernel_rfl) (by kernel_rfl) (fun _ _ _ h => h) (Or.inl ⟨by rfl, ?hy17⟩) (by assumption) ?rst17
                  case hy17 => (intro w hSw; (try dsimp only at hSw); go_simp; try with_reducible rfl)
                  try simp only [Act.put, List.setIfInBounds_toArray, List.set_cons_zero, List.set_cons_succ]
                  refine takeH 17 (v := ?v18) rfl (by kernel_rfl) (by kernel_rfl) (by kernel_rfl) (fun _ _ _ h => h) (Or.inl ⟨by rfl, ?hy18⟩) (by assumption) ?rst18
                  case hy18 => (intro w hSw; (try dsimp only at hSw); go_simp; try with_reducible rfl)
                  try simp only [Act.put, List.setIfInBounds_toArray, List.set_cons_zero, List.set_cons_succ]
                  refine wpAnyH_ready (rs := [18]) (by kernel_rfl) (by simp) ?_
                  refine consH 18 rfl (fun K hK => ?step19) ?more19
                  case step19 =>
                    go_simp
                    refine hK.out _ _ ?hS19 (fun hHeld => ?rst19)
                    case hS19 => ((try dsimp only); (refine ⟨?_, ?_, ?_⟩ <;> (repeat (first | assumption | (refine cell_far hqp ?_) | (refine cell_far hBp ?_)))))
                    clear hK K
                    try simp only [Act.put, List.setIfInBounds_toArray, List.set_cons_zero, List.set_cons_succ]
                    refine takeH 19 (v := ?v20) rfl (by kernel_rfl) (by kernel_rfl) (by kernel_rfl) (fun _ _ _ h => h) (Or.inl ⟨by rfl, ?hy20⟩) (by assumption) ?rst20
                    case hy20 => (intro w hSw; (try dsimp only at hSw); go_simp; try with_reducible rfl)
                    try simp only [Act.put, List.setIfInBounds_toArray, List.set_cons_zero, List.set_cons_succ]
                    refine takeH 20 (v := ?v21) rfl (by kernel_rfl) (by kernel_rfl) (by kernel_rfl) (fun _ _ _ h => h) (Or.inl ⟨by rfl, ?hy21⟩) (by assumption) ?rst21
                    case hy21 => (intro w hSw; (try dsimp only at hSw); go_simp; try with_reducible rfl)
                    try simp only [Act.put, List.setIfInBounds_toArray, List.set_cons_zero, List.set_cons_succ]
                    refine wpAnyH_ready (rs := [21]) (by kernel_rfl) (by simp) ?_
                    refine consH 21 rfl (fun K hK => ?step22) ?more22
                    case step22 =>
                      go_simp
                      refine hK.out _ _ ?hS22 (fun hHeld => ?rst22)
                      case hS22 => ((try dsimp only); (refine ⟨?_, ?_, ?_⟩ <;> (repeat (first | assumption | (refine cell_far hqp ?_) | (refine cell_far hBp ?_)))))
                      clear hK K
                      try simp only [Act.put, List.setIfInBounds_toArray, List.set_cons_zero, List.set_cons_succ]
                      refine wpAnyH_done (by kernel_rfl) ?_ _
                      refine NoPanic.normal ?_
                      revert hvB; intro hvB; have hfin := Lib.hid (hrecut _ _ _ (hvA.of_block (fun b hb => hgB.block b (hvA.lt b hb).2 (fun e => hsp.out.apart b (hoA ▸ hb) e.symm))) hvB hoA hoB (((Turn.of_grown hgA (fun b e => Or.inl e))).trans (Turn.of_grown hgB (fun b e => Or.inr e))))
                      go_wp2_with fail
                      go_meet
                      first | exact hfin.out _ (Or.inl rfl) | exact hfin.out _ (Or.inr rfl)
                    exact AllReadyH.nil
                  exact AllReadyH.nil
                exact AllReadyH.nil
              exact AllReadyH.nil
            refine consH 12 rfl (fun K hK => ?step23) ?more23
            case step23 =>
              go_simp
              refine hK.out _ _ ?hS23 (fun hHeld => ?rst23)
              case hS23 => ((try dsimp only); (refine ⟨?_, ?_, ?_⟩ <;> (repeat (first | assumption | (refine cell_far hqp ?_) | (refine cell_far hBp ?_)))))
              clear hK K
              try simp only [Act.put, List.setIfInBounds_toArray, List.set_cons_zero, List.set_cons_succ]
              refine wpAnyH_ready (rs := [8]) (by kernel_rfl) (by simp) ?_
              refine consH 8 rfl (fun K hK => ?step24) ?more24
              case step24 =>
                go_simp
                go_at_call 51
                (with_reducible refine Calls.mono (without_any 0 c'.vu c'.up h.1 _ hupD) ?_)
                rintro e wA ⟨vA, rfl, hvA, hgA, hoA⟩
                have mA := hvA.cells1
                unfold Value.cells at mA
                have oA := fun (a : Addr) (w : World) m => run_store Try.prog w a vA m hvA.one1
                have p1A := hgA.cell p1 (hne1 1)
                have p2A := hgA.cell p2 (hne1 2)
                have f1A := (hgA.frozen_far ⟨c.p, 1, none⟩ hlp (hne1 1)).trans f1
                have f2A := (hgA.frozen_far ⟨c.p, 2, none⟩ hlp (hne1 2)).trans f2
                have qA := hgA.cell hqx hne1q
                have b0A := hgA.cell b0 (hne1b 0)
                have b1A := hgA.cell b1 (hne1b 1)
                have hrA : Row etHold wA 0 c'.vr c'.rest := hsp.out.rest.of_block (fun b hb => hgA.block b (hsp.out.rest.lt b hb).2 (fun e => hsp.out.apart b e.symm hb))
                try go_wp2_with fail
                refine hK.out _ _ ?hS24 (fun hHeld => ?rst24)
                case hS24 => ((try dsimp only); (refine ⟨?_, ?_, ?_⟩ <;> (repeat (first | assumption | (refine cell_far hqp ?_) | (refine cell_far hBp ?_)))))
                clear hK K
                try simp only [Act.put, List.setIfInBounds_toArray, List.set_cons_zero, List.set_cons_succ]
                refine wpAnyH_ready (rs := [15]) (by kernel_rfl) (by simp) ?_
                refine consH 15 rfl (fun K hK => ?step25) ?more25
                case step25 =>
                  go_simp
                  go_at_call 51
                  revert hrA
                  intro hrA
                  (with_reducible refine Calls.mono (without_any 0 c'.vr c'.rest h.1 _ hrA) ?_)
                  rintro e wB ⟨vB, rfl, hvB, hgB, hoB⟩
                  have mB := hvB.cells1
                  unfold Value.cells at mB
                  have oB := fun (a : Addr) (w : World) m => run_store Try.prog w a vB m hvB.one1
                  have p1B := hgB.cell p1A (hne2 1)
                  have p2B := hgB.cell p2A (hne2 2)
                  have f1B := (hgB.frozen_far ⟨c.p, 1, none⟩ (Nat.lt_of_lt_of_le hlp hgA.size) (hne2 1)).trans f1A
                  have f2B := (hgB.frozen_far ⟨c.p, 2, none⟩ (Nat.lt_of_lt_of_le hlp hgA.size) (hne2 2)).trans f2A
                  have qB := hgB.cell qA hne2q
                  have b0B := hgB.cell b0A (hne2b 0)
                  have b1B := hgB.cell b1A (hne2b 1)
                  try go_wp2_with fail
                  refine hK.out _ _ ?hS25 (fun hHeld => ?rst25)
                  case hS25 => ((try dsimp only); (refine ⟨?_, ?_, ?_⟩ <;> (repeat (first | assumption | (refine cell_far hqp ?_) | (refine cell_far hBp ?_)))))
                  clear hK K
                  try simp only [Act.put, List.setIfInBounds_toArray, List.set_cons_zero, List.set_cons_succ]
                  refine takeH 16 (v := ?v26) rfl (by kernel_rfl) (by kernel_rfl) (by kernel_rfl) (fun _ _ _ h => h) (Or.inl ⟨by rfl, ?hy26⟩) (by assumption) ?rst26
                  case hy26 => (intro w hSw; (try dsimp only at hSw); go_simp; try with_reducible rfl)
                  try simp only [Act.put, List.setIfInBounds_toArray, List.set_cons_zero, List.set_cons_succ]
                  refine takeH 17 (v := ?v27) rfl (by kernel_rfl) (by kernel_rfl) (by kernel_rfl) (fun _ _ _ h => h) (Or.inl ⟨by rfl, ?hy27⟩) (by assumption) ?rst27
                  case hy27 => (intro w hSw; (try dsimp only at hSw); go_simp; try with_reducible rfl)
                  try simp only [Act.put, List.setIfInBounds_toArray, List.set_cons_zero, List.set_cons_succ]
                  refine wpAnyH_ready (rs := [18]) (by kernel_rfl) (by simp) ?_
                  refine consH 18 rfl (fun K hK => ?step28) ?more28
                  case step28 =>
                    go_simp
                    refine hK.out _ _ ?hS28 (fun hHeld => ?rst28)
                    case hS28 => ((try dsimp only); (refine ⟨?_, ?_, ?_⟩ <;> (repeat (first | assumption | (refine cell_far hqp ?_) | (refine cell_far hBp ?_)))))
                    clear hK K
                    try simp only [Act.put, List.setIfInBounds_toArray, List.set_cons_zero, List.set_cons_succ]
                    refine takeH 19 (v := ?v29) rfl (by kernel_rfl) (by kernel_rfl) (by kernel_rfl) (fun _ _ _ h => h) (Or.inl ⟨by rfl, ?hy29⟩) (by assumption) ?rst29
                    case hy29 => (intro w hSw; (try dsimp only at hSw); go_simp; try with_reducible rfl)
                    try simp only [Act.put, List.setIfInBounds_toArray, List.set_cons_zero, List.set_cons_succ]
                    refine takeH 20 (v := ?v30) rfl (by kernel_rfl) (by kernel_rfl) (by kernel_rfl) (fun _ _ _ h => h) (Or.inl ⟨by rfl, ?hy30⟩) (by assumption) ?rst30
                    case hy30 => (intro w hSw; (try dsimp only at hSw); go_simp; try with_reducible rfl)
                    try simp only [Act.put, List.setIfInBounds_toArray, List.set_cons_zero, List.set_cons_succ]
                    refine wpAnyH_ready (rs := [21]) (by kernel_rfl) (by simp) ?_
                    refine consH 21 rfl (fun K hK => ?step31) ?more31
                    case step31 =>
                      go_simp
                      refine hK.out _ _ ?hS31 (fun hHeld => ?rst31)
                      case hS31 => ((try dsimp only); (refine ⟨?_, ?_, ?_⟩ <;> (repeat (first | assumption | (refine cell_far hqp ?_) | (refine cell_far hBp ?_)))))
                      clear hK K
                      try simp only [Act.put, List.setIfInBounds_toArray, List.set_cons_zero, List.set_cons_succ]
                      refine wpAnyH_done (by kernel_rfl) ?_ _
                      refine NoPanic.normal ?_
                      revert hvB; intro hvB; have hfin := Lib.hid (hrecut _ _ _ (hvA.of_block (fun b hb => hgB.block b (hvA.lt b hb).2 (fun e => hsp.out.apart b (hoA ▸ hb) e.symm))) hvB hoA hoB (((Turn.of_grown hgA (fun b e => Or.inl e))).trans (Turn.of_grown hgB (fun b e => Or.inr e))))
                      go_wp2_with fail
                      go_meet
                      first | exact hfin.out _ (Or.inl rfl) | exact hfin.out _ (Or.inr rfl)
                    exact AllReadyH.nil
                  exact AllReadyH.nil
                exact AllReadyH.nil
              exact AllReadyH.nil
            exact AllReadyH.nil
          refine consH 12 rfl (fun K hK => ?step32) ?more32
          case step32 =>
            go_simp
            refine hK.out _ _ ?hS32 (fun hHeld => ?rst32)
            case hS32 => ((try dsimp only); (refine ⟨?_, ?_, ?_⟩ <;> (repeat (first | assumption | (refine cell_far hqp ?_) | (refine cell_far hBp ?_)))))
            clear hK K
            try simp only [Act.put, List.setIfInBounds_toArray, List.set_cons_zero, List.set_cons_succ]
            refine wpAnyH_ready (rs := [5]) (by kernel_rfl) (by simp) ?_
            refine consH 5 rfl (fun K hK => ?step33) ?more33
            case step33 =>
              go_simp
              refine hK.out _ _ ?hS33 (fun hHeld => ?rst33)
              case hS33 => ((try dsimp only); (refine ⟨?_, ?_, ?_⟩ <;> (repeat (first | assumption | (refine cell_far hqp ?_) | (refine cell_far hBp ?_)))))
              clear hK K
              try simp only [Act.put, List.setIfInBounds_toArray, List.set_cons_zero, List.set_cons_succ]
              refine wpAnyH_ready (rs := [8]) (by kernel_rfl) (by simp) ?_
              refine consH 8 rfl (fun K hK => ?step34) ?more34
              case step34 =>
                go_simp
                go_at_call 51
                (with_reducible refine Calls.mono (without_any 0 c'.vu c'.up h.1 _ hupD) ?_)
                rintro e wA ⟨vA, rfl, hvA, hgA, hoA⟩
                have mA := hvA.cells1
                unfold Value.cells at mA
                have oA := fun (a : Addr) (w : World) m => run_store Try.prog w a vA m hvA.one1
                have p1A := hgA.cell p1 (hne1 1)
                have p2A := hgA.cell p2 (hne1 2)
                have f1A := (hgA.frozen_far ⟨c.p, 1, none⟩ hlp (hne1 1)).trans f1
                have f2A := (hgA.frozen_far ⟨c.p, 2, none⟩ hlp (hne1 2)).trans f2
                have qA := hgA.cell hqx hne1q
                have b0A := hgA.cell b0 (hne1b 0)
                have b1A := hgA.cell b1 (hne1b 1)
                have hrA : Row etHold wA 0 c'.vr c'.rest := hsp.out.rest.of_block (fun b hb => hgA.block b (hsp.out.rest.lt b hb).2 (fun e => hsp.out.apart b e.symm hb))
                try go_wp2_with fail
                refine hK.out _ _ ?hS34 (fun hHeld => ?rst34)
                case hS34 => ((try dsimp only); (refine ⟨?_, ?_, ?_⟩ <;> (repeat (first | assumption | (refine cell_far hqp ?_) | (refine cell_far hBp ?_)))))
                clear hK K
                try simp only [Act.put, List.setIfInBounds_toArray, List.set_cons_zero, List.set_cons_succ]
                refine wpAnyH_ready (rs := [15]) (by kernel_rfl) (by simp) ?_
                refine consH 15 rfl (fun K hK => ?step35) ?more35
                case step35 =>
                  go_simp
                  go_at_call 51
                  revert hrA
                  intro hrA
                  (with_reducible refine Calls.mono (without_any 0 c'.vr c'.rest h.1 _ hrA) ?_)
                  rintro e wB ⟨vB, rfl, hvB, hgB, hoB⟩
                  have mB := hvB.cells1
                  unfold Value.cells at mB
                  have oB := fun (a : Addr) (w : World) m => run_store Try.prog w a vB m hvB.one1
                  have p1B := hgB.cell p1A (hne2 1)
                  have p2B := hgB.cell p2A (hne2 2)
                  have f1B := (hgB.frozen_far ⟨c.p, 1, none⟩ (Nat.lt_of_lt_of_le hlp hgA.size) (hne2 1)).trans f1A
                  have f2B := (hgB.frozen_far ⟨c.p, 2, none⟩ (Nat.lt_of_lt_of_le hlp hgA.size) (hne2 2)).trans f2A
                  have qB := hgB.cell qA hne2q
                  have b0B := hgB.cell b0A (hne2b 0)
                  have b1B := hgB.cell b1A (hne2b 1)
                  try go_wp2_with fail
                  refine hK.out _ _ ?hS35 (fun hHeld => ?rst35)
                  case hS35 => ((try dsimp only); (refine ⟨?_, ?_, ?_⟩ <;> (repeat (first | assumption | (refine cell_far hqp ?_) | (refine cell_far hBp ?_)))))
                  clear hK K
                  try simp only [Act.put, List.setIfInBounds_toArray, List.set_cons_zero, List.set_cons_succ]
                  refine takeH 16 (v := ?v36) rfl (by kernel_rfl) (by kernel_rfl) (by kernel_rfl) (fun _ _ _ h => h) (Or.inl ⟨by rfl, ?hy36⟩) (by assumption) ?rst36
                  case hy36 => (intro w hSw; (try dsimp only at hSw); go_simp; try with_reducible rfl)
                  try simp only [Act.put, List.setIfInBounds_toArray, List.set_cons_zero, List.set_cons_succ]
                  refine takeH 17 (v := ?v37) rfl (by kernel_rfl) (by kernel_rfl) (by kernel_rfl) (fun _ _ _ h => h) (Or.inl ⟨by rfl, ?hy37⟩) (by assumption) ?rst37
                  case hy37 => (intro w hSw; (try dsimp only at hSw); go_simp; try with_reducible rfl)
                  try simp only [Act.put, List.setIfInBounds_toArray, List.set_cons_zero, List.set_cons_succ]
                  refine wpAnyH_ready (rs := [18]) (by kernel_rfl) (by simp) ?_
                  refine consH 18 rfl (fun K hK => ?step38) ?more38
                  case step38 =>
                    go_simp
                    refine hK.out _ _ ?hS38 (fun hHeld => ?rst38)
                    case hS38 => ((try dsimp only); (refine ⟨?_, ?_, ?_⟩ <;> (repeat (first | assumption | (refine cell_far hqp ?_) | (refine cell_far hBp ?_)))))
                    clear hK K
                    try simp only [Act.put, List.setIfInBounds_toArray, List.set_cons_zero, List.set_cons_succ]
                    refine takeH 19 (v := ?v39) rfl (by kernel_rfl) (by kernel_rfl) (by kernel_rfl) (fun _ _ _ h => h) (Or.inl ⟨by rfl, ?hy39⟩) (by assumption) ?rst39
                    case hy39 => (intro w hSw; (try dsimp only at hSw); go_simp; try with_reducible rfl)
                    try simp only [Act.put, List.setIfInBounds_toArray, List.set_cons_zero, List.set_cons_succ]
                    refine takeH 20 (v := ?v40) rfl (by kernel_rfl) (by kernel_rfl) (by kernel_rfl) (fun _ _ _ h => h) (Or.inl ⟨by rfl, ?hy40⟩) (by assumption) ?rst40
                    case hy40 => (intro w hSw; (try dsimp only at hSw); go_simp; try with_reducible rfl)
                    try simp only [Act.put, List.setIfInBounds_toArray, List.set_cons_zero, List.set_cons_succ]
                    refine wpAnyH_ready (rs := [21]) (by kernel_rfl) (by simp) ?_
                    refine consH 21 rfl (fun K hK => ?step41) ?more41
                    case step41 =>
                      go_simp
                      refine hK.out _ _ ?hS41 (fun hHeld => ?rst41)
                      case hS41 => ((try dsimp only); (refine ⟨?_, ?_, ?_⟩ <;> (repeat (first | assumption | (refine cell_far hqp ?_) | (refine cell_far hBp ?_)))))
                      clear hK K
                      try simp only [Act.put, List.setIfInBounds_toArray, List.set_cons_zero, List.set_cons_succ]
                      refine wpAnyH_done (by kernel_rfl) ?_ _
                      refine NoPanic.normal ?_
                      revert hvB; intro hvB; have hfin := Lib.hid (hrecut _ _ _ (hvA.of_block (fun b hb => hgB.block b (hvA.lt b hb).2 (fun e => hsp.out.apart b (hoA ▸ hb) e.symm))) hvB hoA hoB (((Turn.of_grown hgA (fun b e => Or.inl e))).trans (Turn.of_grown hgB (fun b e => Or.inr e))))
                      go_wp2_with fail
                      go_meet
                      first | exact hfin.out _ (Or.inl rfl) | exact hfin.out _ (Or.inr rfl)
                    exact AllReadyH.nil
                  exact AllReadyH.nil
                exact AllReadyH.nil
              exact AllReadyH.nil
            exact AllReadyH.nil
          exact AllReadyH.nil
        case rest =>
          obtain ⟨c2, e1, e2, e3, e4, e5, e6, e7, hs2, ht2⟩ := hcut
          have hnf : ∀ b, wx.heap.size ≤ b → ¬ c'.fp b := fun b h1 h2 => by have := hltx b h2; omega
          have hqn : ¬ c'.fp q := fun e => hqf (Hcf.out _ e)
          have hqc := (ht2.cell (p := ⟨q, 0, none⟩) (by have := Nat.lt_of_lt_of_le lq hzx; simp; omega) hqn).trans hqx
          have b0c := (ht2.cell (p := ⟨wx.heap.size, 0, none⟩) (by simp; omega) (hnf _ (Nat.le_refl _))).trans b0
          have b1c := (ht2.cell (p := ⟨wx.heap.size, 1, none⟩) (by simp; omega) (hnf _ (Nat.le_refl _))).trans b1
          have hz6 : wx.heap.size < wc.heap.size := by have := ht2.size; omega
          have hj6 := Lib.hid (HJ.out _ _ _ hj5.out (by omega) (ht2.mono (fun b _ e => Hcf.out b e)))
          have d0 : wc.cell? ⟨c.p, 0, none⟩ = some (.map (some c2.hb)) := by have := cell_of_blk hs2.blk 0; rwa [e4, Hp.out] at this
          have hh : 1 ≤ h.2 ∧ h.2 ≤ 5 := by
            have hm : h ∈ c'.up ++ c'.rest := by rw [HL.out]; simp
            rcases List.mem_append.1 hm with hm | hm
            · exact (hc'.out.upOk h hm).2
            · exact (hc'.out.restOk h hm).2
          have Hs2 := Lib.hid hs2
          have He := Lib.hid (And.intro e1 (And.intro e2 (And.intro e3 (And.intro e4 (And.intro e5 (And.intro e6 e7))))))
          have hqf' : q ≠ c2.hb := fun e => hqf (Hcf.out _ (Or.inr (Or.inl (by rw [e, e5]))))
          have hBh : wx.heap.size ≠ c2.hb := fun e => by have := hltx c'.hb (Or.inr (Or.inl rfl)); rw [e5] at e; omega
          clear hs2 e1 e2 e3 e4 e5 e6 e7 ht2 HR p1 p2 f1 f2 hlp hltx hne1 hne2 hne1q hne2q hne1b hne2b b0 b1 hqx hj5 hnf
          go_wp2_with fail
          refine wp_tail 8 (by kernel_rfl) (by kernel_rfl) ?_
          simp only [List.take_succ_cons, List.take_zero, List.drop_succ_cons, List.drop_zero]
          repeat still_step
          refine wpStill_nil ?_
          go_upto_region 6 with (at_mapUpdate; refine wpList_store_at mtHolds _ rfl _ _ _ rfl c2.hb c2.holds rfl (show MapAt mtHolds wc.drew c2.hb c2.holds from Hs2.out.holds) h.1 h.2 hi rfl rfl ?_; intro w7 hm7 ht7)
          obtain ⟨e1, e2, e3, e4, e5, e6, e7⟩ := He.out
          have hu7 : Turn (fun b => b = c2.hb) wc w7 := by
            have := mapTurned_turn ht7
            exact ⟨this.os, this.tape, this.output, this.size, this.block⟩
          have hs7 := Hs2.out.held hu7 (Al.put c2.holds h.1 h.2) hm7 (fun x hx => by
            rcases Al.mem_put hx with rfl | ⟨hx', _⟩
            · exact hh
            · exact Hs2.out.modes x hx')
          have habs : ({ c2 with holds := Al.put c2.holds h.1 h.2 } : CSpot).abs = c'.abs.give h := by
            show Sp.mk _ _ _ = Sp.mk _ _ _
            rw [e1, e2, e3]
            rfl
          have hcf7 : ∀ b, ({ c2 with holds := Al.put c2.holds h.1 h.2 } : CSpot).fp b → c.fp b := by
            intro b hb
            refine Hcf.out b ?_
            rcases hb with rfl | rfl | hb | hb
            · exact Or.inl e4
            · exact Or.inr (Or.inl e5)
            · exact Or.inr (Or.inr (Or.inl (e6 ▸ hb)))
            · exact Or.inr (Or.inr (Or.inr (e7 ▸ hb)))
          have heq7 : c2.p = c.p ∧ c2.hb = c.hb ∧ c2.vu.ownBlock = c.vu.ownBlock ∧ c2.vr.ownBlock = c.vr.ownBlock := ⟨e4.trans heq.out.1, e5.trans heq.out.2.1, e6.trans heq.out.2.2.1, e7.trans heq.out.2.2.2⟩
          have hq7 := (hu7.cell (p := ⟨q, 0, none⟩) (by have := Nat.lt_of_lt_of_le lq hzx; simp; omega) hqf').trans hqc
          have b07 := (hu7.cell (p := ⟨wx.heap.size, 0, none⟩) hz6 hBh).trans b0c
          have hz7 : W.heap.size ≤ w7.heap.size := by have := hu7.size; omega
          have hj7 := HJ.out _ _ _ hj6.out (by omega) (hu7.mono (fun b _ e => by rw [e, e5]; exact Hcf.out _ (Or.inr (Or.inl rfl))))
          have hbd7 : (wo c'.up h.1).length + (wo c'.rest h.1).length ≤ 1099511627776 := by have := wo_le c'.up h.1; have := wo_le c'.rest h.1; have := hb.out; omega
          have hml : (wo c'.up h.1).length + (wo c'.rest h.1).length < L.length + 1 := by
            have h1 := give_lt (x := c'.abs) (h := h) (l := L) (by exact HL.out)
            have h2 : c'.abs.queue.length = L.length + 1 := by rw [show c'.abs.queue = h :: L from HL.out]; rfl
            have h3 : (c'.abs.give h).queue.length = (wo c'.up h.1).length + (wo c'.rest h.1).length := by
              show (wo c'.up h.1 ++ wo c'.rest h.1).length = _
              rw [List.length_append]
            omega
          obtain ⟨fn, tmps, assign, body, hy, hR⟩ := HY.out pre h.1 w7 ⟨(grantS (c'.abs.give h)).2, by rw [Hst.out]; simp⟩ hj7 hi hz7
          have HS7 := Lib.hid hs7
          have HA := Lib.hid (And.intro habs (And.intro hcf7 (And.intro heq7 (And.intro hbd7 (And.intro hml (And.intro e2 e3))))))
          clear hu7 hs7 habs hcf7 heq7 hj7 hbd7 hml e1 e2 e3 e4 e5 e6 e7 hqc b0c b1c d0 ht7 hm7 hj6 hz6 He Hs2
          refine (wpIn_wide (n := n + 1)).1 ?_
          gi_wp2
          refine hR.mono ?_
          rintro e w8 ⟨rfl, hj8, ht8⟩
          obtain ⟨habs, hcf7, heq7, hbd7, hml, e2, e3⟩ := HA.out
          have hs8 := HS7.out.of_blocks (fun b hb => ht8.block b (HS7.out.lt b hb) (fun h' => h' (Or.inl (hcf7 b hb))))
          have hq8 := (ht8.cell (p := ⟨q, 0, none⟩) (Nat.lt_of_lt_of_le lq hz7) (fun h' => h' (Or.inr rfl))).trans hq7
          have hz8 : W.heap.size ≤ w8.heap.size := Nat.le_trans hz7 ht8.size
          have hsz8 : w7.heap.size ≤ w8.heap.size := ht8.size
          have hqa := queue_any { c2 with holds := Al.put c2.holds h.1 h.2 } w8 hs8 (by show c2.up.length + c2.rest.length ≤ _; rw [e2, e3]; exact hbd7)
          simp only [heq7.1] at hqa
          have HS8 := Lib.hid hs8
          have HE := Lib.hid heq7
          have HB := Lib.hid hbd7
          have HM := Lib.hid hml
          have He2 := Lib.hid (And.intro e2 e3)
          have Habs := Lib.hid habs
          have hj8 := Lib.hid hj8
          clear hs8 heq7 hbd7 hml e2 e3 habs hcf7 ht8 hq7 b07 hy hR HA HS7
          gi_wp2
          go_wp2_with (go_at_call 30; refine hqa.mono ?_; rintro e w9 ⟨v9, rfl, hv9, hb9⟩; have hq9 := (hb9.cell (p := ⟨q, 0, none⟩) (Nat.lt_of_lt_of_le lq hz8)).trans hq8)
          go_roundw
          case rel =>
            refine ⟨{ c2 with holds := Al.put c2.holds h.1 h.2 }, pre ++ [h.1], HS8.out.below hb9, HE.out, HJ.out _ _ _ hj8.out hz8 (Turn.of_below hb9), ?_, ?_, hv9.mono hz8, hq9, Nat.le_trans hz8 hb9.size⟩
            · rw [Habs.out]
              exact Hst.out
            · have := HB.out
              show c2.up.length + c2.rest.length ≤ _
              rw [He2.out.1, He2.out.2]
              exact this
          case measure =>
            rw [hv9.lenV]
            have := HM.out
            show (c2.up ++ c2.rest).length < L.length + 1
            rw [He2.out.1, He2.out.2, List.length_append]
            exact this
end Go.Proofs.Ytmolmeamnmefeaa
