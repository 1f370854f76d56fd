/- A table of locks: how many entries; for what one waits. -/
import Derived.Test.YtmolmeamnmefeaaLock4
namespace Go.Proofs.Ytmolmeamnmefeaa
open Go.RowKit

theorem Al.sum_del {κ α : Type} [DecidableEq κ] (f : κ × α → Nat) : ∀ {m : List (κ × α)} {p : κ × α}, (m.map (·.1)).Nodup → p ∈ m → ((Al.del m p.1).map f).sum + f p = (m.map f).sum
  | [], p, _, hp => by simp at hp
  | q :: m, p, hn, hp => by
    simp only [List.map_cons, List.nodup_cons] at hn
    by_cases hk : q.1 = p.1
    · have hq : q = p := by
        rcases List.mem_cons.1 hp with rfl | hp
        · rfl
        · exact absurd (List.mem_map.2 ⟨p, hp, hk.symm⟩) hn.1
      subst hq
      have : Al.del (q :: m) q.1 = m := by
        unfold Al.del
        rw [List.filter_cons_of_neg (by simp)]
        refine List.filter_eq_self.2 (fun x hx => ?_)
        simp
        intro e
        exact hn.1 (List.mem_map.2 ⟨x, hx, e⟩)
      rw [this]
      simp
      omega
    · have hp' : p ∈ m := by
        rcases List.mem_cons.1 hp with rfl | hp
        · exact absurd rfl hk
        · exact hp
      have ih := Al.sum_del f hn.2 hp'
      have : Al.del (q :: m) p.1 = q :: Al.del m p.1 := by
        unfold Al.del
        rw [List.filter_cons_of_pos (by simpa using hk)]
      rw [this]
      simp
      omega

def usedN (l : List (Spot × CSpot)) : Nat := (l.map (fun x => x.2.holds.length + x.2.rest.length)).sum
/-- how much there is -/
def wtN (l : List (Spot × CSpot)) : Nat := (l.map (fun x => x.2.holds.length + x.2.up.length + x.2.rest.length)).sum
def wt (C : CLocks) : Nat := wtN C.spots
theorem used_le_wt : ∀ l, usedN l ≤ wtN l
  | [] => by simp [usedN, wtN]
  | x :: l => by have := used_le_wt l; simp [usedN, wtN] at *; omega
theorem wt_mem : ∀ {l : List (Spot × CSpot)} {x}, x ∈ l → x.2.holds.length + x.2.up.length + x.2.rest.length ≤ wtN l
  | [], x, h => by simp at h
  | y :: l, x, h => by
    rcases List.mem_cons.1 h with rfl | h
    · simp [wtN]
    · have := wt_mem h; simp [wtN] at *; omega
theorem small_of_wt {C : CLocks} (h : wt C ≤ 1099511627776) : small C := fun x hx => by have := wt_mem hx; unfold wt at h; omega

set_option maxRecDepth 100000 in
set_option maxHeartbeats 1600000 in
theorem used_any (C : CLocks) (w : World) (h : LocksOk w C) (hwt : wt C ≤ 1099511627776) :
    Calls Try.prog 24 #[.pointer (some ⟨C.lb, 0, none⟩)] w fun e w' => e = .returned (.int .i64 (usedN C.spots)) ∧ Below w.heap.size w w' := by
  have c1 : w.cell? ⟨C.lb, 1, none⟩ = some (.map (some C.sb)) := cell_of_blk h.blk 1
  have hu := used_le_wt C.spots
  have hn := h.spots.nodup
  have hm := h.spots
  have lb := hm.lt
  unfold wt at hwt
  have Hh := Lib.hid h
  clear h
  go_enter Try.func24, Try.ntmps24
  go_wp2_with (at_range; refine wpList_range_at mtSpots _ rfl _ rfl C.sb C.spots rfl hm ?_; intro w1 hrg hg1 hs1)
  have hb1 : Below w.heap.size w w1 := (Below.refl _ w).grown hg1 (Nat.le_refl _) (fun k e => by cases e)
  clear hg1 c1
  have Hn := Lib.hid hn
  have Hwt := Lib.hid hwt
  have Hu := Lib.hid hu
  clear hn hm hwt hu
  go_frame
  go_loopw [3, 5] (fun n _ wr => ∃ left, ∃ k : Nat, RangeAt mtSpots wr C.sb w.heap.size C.spots left ∧ n = .int .i64 k ∧ Hid (k + usedN left = usedN C.spots) ∧ Below w.heap.size w wr ∧ w.heap.size < wr.heap.size) (fun _ _ wr => wr.rangeLeft C.sb w.heap.size)
  case atStart => exact ⟨C.spots, 0, hrg, rfl, by show 0 + _ = _; omega, hb1, by omega⟩
  case round =>
    obtain ⟨left, k, hrg0, rfl, hk, hbr, hsr⟩ := hrel
    clear hb1 hrg hs1
    go_wp2_with (at_next; go_loud (refine wpList_next_spots _ rfl _ rfl C.sb w.heap.size C.spots left rfl hrg0 ?_ ?_; rotate_right; intro p w2 hp hrg2 hlt2 hg2 hs2 hen2; have hb2 : Below w.heap.size w w2 := (hbr.grown hg2 (by omega) (fun k e => by cases e; omega)); have hc : SpotOk w2 p.2 := (Hh.out.each p (hrg0.sub.subset hp)).of_blocks (fun b hb => hb2.block b (Hh.out.lt b (Or.inr (Or.inr (Or.inr ⟨p, hrg0.sub.subset hp, hb⟩))))); have d0 : w2.cell? ⟨p.2.p, 0, none⟩ = some (.map (some p.2.hb)) := cell_of_blk hc.blk 0; have d2 : w2.cell? ⟨p.2.p, 2, none⟩ = some p.2.vr := cell_of_blk hc.blk 2; have ml := fun ty (n : Nat) => (hc.holds.drewN n).len ty; have vl := hc.rest.len_run Try.underlying30; have hsum : Hid (k + p.2.holds.length + p.2.rest.length + usedN (Al.del left p.1) = usedN C.spots) := (by have h1 := Al.sum_del (fun x : Spot × CSpot => x.2.holds.length + x.2.rest.length) (hrg0.sub.map (·.1) |>.nodup Hn.out) hp; have h2 := hk.out; show _ = _; unfold usedN at *; omega); clear hc))
    · have hb : k + p.2.holds.length + p.2.rest.length ≤ 1099511627776 := by have := hsum.out; have := Hu.out; have := Hwt.out; omega
      go_quiet (fail)
      go_wp2
      go_roundw
      case rel =>
        refine ⟨Al.del left p.1, k + (p.2.holds.length + p.2.rest.length), hrg2.of_block rfl rfl, by go_num, ?_, bdn hb2 _, by show _ < w2.heap.size; omega⟩
        have := hsum.out
        show _ = _
        omega
      case measure =>
        show w2.rangeLeft C.sb w.heap.size < _
        rw [hrg2.toCome, hrg0.toCome]
        exact hlt2
    · intro hl
      subst hl
      go_wp2
      go_ret
      refine ⟨ret_int ?_, hbr⟩
      have := hk.out
      simp [usedN] at this
      unfold usedN
      omega
end Go.Proofs.Ytmolmeamnmefeaa
