/- A table of locks: what one holds. -/
import Derived.Test.YtmolmeamnmefeaaLock8
namespace Go.Proofs.Ytmolmeamnmefeaa
open Go.RowKit Go.Shelf Go.Proofs Go.Sort

theorem Al.perm_del {κ α : Type} [DecidableEq κ] : ∀ {m : List (κ × α)} {p : κ × α}, (m.map (·.1)).Nodup → p ∈ m → m.Perm (p :: Al.del m p.1)
  | [], p, _, hp => by simp at hp
  | q :: m, p, hn, hp => by
    simp only [List.map_cons, List.nodup_cons] at hn
    by_cases hk : q.1 = p.1
    · have hq : q = p := by
        rcases List.mem_cons.1 hp with rfl | hp
        · rfl
        · exact absurd (List.mem_map.2 ⟨p, hp, hk.symm⟩) hn.1
      subst hq
      have : Al.del (q :: m) q.1 = m := by
        unfold Al.del
        rw [List.filter_cons_of_neg (by simp)]
        refine List.filter_eq_self.2 (fun x hx => ?_)
        simp
        intro e
        exact hn.1 (List.mem_map.2 ⟨x, hx, e⟩)
      rw [this]
    · have hp' : p ∈ m := by
        rcases List.mem_cons.1 hp with rfl | hp
        · exact absurd rfl hk
        · exact hp
      have ih := Al.perm_del hn.2 hp'
      have : Al.del (q :: m) p.1 = q :: Al.del m p.1 := by
        unfold Al.del
        rw [List.filter_cons_of_pos (by simpa using hk)]
      rw [this]
      exact (List.Perm.cons q ih).trans (List.Perm.swap p q _)

def rawS (who : Int) (l : List (Spot × CSpot)) : List Spot := (l.filter (fun x => (Al.get x.2.holds who).isSome)).map (·.1)
def spotsS (S : St) (who : Int) : List Spot := sortS ((S.spots.filter (fun x => (Al.get x.2.holds who).isSome)).map (·.1))

theorem raw_perm {who : Int} {l : List (Spot × CSpot)} {p : Spot × CSpot} (hn : (l.map (·.1)).Nodup) (hp : p ∈ l) : (rawS who l).Perm ((if (Al.get p.2.holds who).isSome then [p.1] else []) ++ rawS who (Al.del l p.1)) := by
  have h := ((Al.perm_del hn hp).filter (fun x => (Al.get x.2.holds who).isSome)).map (·.1)
  unfold rawS
  refine h.trans ?_
  by_cases hb : (Al.get p.2.holds who).isSome
  · rw [List.filter_cons_of_pos (by exact hb), if_pos hb]
    simp
  · rw [List.filter_cons_of_neg (by exact hb), if_neg hb]
    simp

theorem raw_le : ∀ (who : Int) (l : List (Spot × CSpot)), (rawS who l).length ≤ wtN l
  | _, [] => by simp [rawS]
  | who, x :: l => by
    have ih := raw_le who l
    have h1 : (rawS who (x :: l)).length = (if (Al.get x.2.holds who).isSome then 1 else 0) + (rawS who l).length := by
      unfold rawS
      by_cases hb : (Al.get x.2.holds who).isSome
      · rw [List.filter_cons_of_pos (by exact hb), if_pos hb]
        simp
        omega
      · rw [List.filter_cons_of_neg (by exact hb), if_neg hb]
        simp
    have h2 : (if (Al.get x.2.holds who).isSome then 1 else 0) ≤ x.2.holds.length := by
      split
      · rename_i hb
        obtain ⟨m, hm⟩ := Option.isSome_iff_exists.1 hb
        exact List.length_pos_of_mem (Al.mem_of_get hm)
      · exact Nat.zero_le _
    rw [h1]
    simp only [wtN, List.map_cons, List.sum_cons] at *
    omega

theorem sortS_congr {A B : List Spot} (h : A.Perm B) : sortS A = sortS B := by
  refine List.Perm.eq_of_pairwise (le := fun x y => (!spotLt y x) = true) (fun x y _ _ h1 h2 => ?_) (sortS_sorted A) (sortS_sorted B) ((sortS_perm A).trans (h.trans (sortS_perm B).symm))
  simp at h1 h2
  exact spotLt_total h2 h1

theorem spots_abs (C : CLocks) (who : Int) : sortS (rawS who C.spots) = spotsS C.abs who := by
  unfold spotsS rawS CLocks.abs
  congr 1
  simp only [List.filter_map, List.map_map]
  rfl

theorem addr_add0 (k j : Nat) : (⟨k, 0, none⟩ : Addr).add j = ⟨k, j, none⟩ := by
  cases j with
  | zero => rfl
  | succ j => simp [Addr.add]
theorem news_at {w : World} (cs : List Value) (t : TypeId) (k : Nat) (hk : k = w.heap.size) (j : Nat) (u : Value) (h : cs[j]? = some u) : (w.alloc (.cells cs.toArray t)).cell? ((⟨k, 0, none⟩ : Addr).add j) = some u := by
  rw [addr_add0]
  exact (World.cell?_alloc_at _ _ _ _ hk).trans (by simpa using h)

set_option maxRecDepth 100000 in
set_option maxHeartbeats 3200000 in
theorem spots_any (C : CLocks) (who : Int) (hw : i64 who) (w : World) (h : LocksOk w C) (hwt : wt C ≤ 1099511627776) :
    Calls Try.prog 17 #[.pointer (some ⟨C.lb, 0, none⟩), .int .i64 who] w fun e w' => ∃ v, e = .returned v ∧ Row etSpot w' w.heap.size v (spotsS C.abs who) ∧ Below w.heap.size w w' := by
  have c1 : w.cell? ⟨C.lb, 1, none⟩ = some (.map (some C.sb)) := cell_of_blk h.blk 1
  have hn := h.spots.nodup
  have hm := h.spots
  have hle := raw_le who C.spots
  have hko := hm.keyOk
  unfold wt at hwt
  have Hh := Lib.hid h
  have Hle := Lib.hid (Nat.le_trans hle hwt)
  clear h hle hwt
  go_enter Try.func17, Try.ntmps17
  go_wp2_with (at_range; refine wpList_range_at mtSpots _ rfl _ rfl C.sb C.spots rfl hm ?_; intro w1 hrg hg1 hs1)
  have hb1 : Below w.heap.size w w1 := (Below.refl _ w).grown hg1 (Nat.le_refl _) (fun k e => by cases e)
  clear hg1 c1
  have Hn := Lib.hid hn
  have Hko := Lib.hid hko
  clear hn hm hko
  go_frame
  go_loopw [5, 6, 7, 8, 9] (fun v _ _ _ _ wr => ∃ left acc, RangeAt mtSpots wr C.sb w.heap.size C.spots left ∧ Hid ((acc ++ rawS who left).Perm (rawS who C.spots)) ∧ Row etSpot wr (w.heap.size + 1) v acc ∧ Below w.heap.size w wr ∧ w.heap.size < wr.heap.size) (fun _ _ _ _ _ wr => wr.rangeLeft C.sb w.heap.size)
  case atStart => exact ⟨C.spots, [], hrg, by show List.Perm _ _; simp, Row.nil _ _ _, hb1, by omega⟩
  case round =>
    obtain ⟨left, acc, hrg0, hacc, hv, hbr, hsr⟩ := hrel
    clear hb1 hrg hs1
    go_wp2_with (first | (at_next; refine wpList_next_spots _ rfl _ rfl C.sb w.heap.size C.spots left rfl hrg0 ?_ ?_; rotate_right; intro p w2 hp hrg2 hlt2 hg2 hs2 hen2; have hb2 : Below w.heap.size w w2 := (hbr.grown hg2 (by omega) (fun k e => by cases e; omega)); have hc : SpotOk w2 p.2 := (Hh.out.each p (hrg0.sub.subset hp)).of_blocks (fun b hb => hb2.block b (Hh.out.lt b (Or.inr (Or.inr (Or.inr ⟨p, hrg0.sub.subset hp, hb⟩))))); have d0 : w2.cell? ⟨p.2.p, 0, none⟩ = some (.map (some p.2.hb)) := cell_of_blk hc.blk 0; have hv2 : Row etSpot w2 (w.heap.size + 1) _ acc := hv.of_block (fun b hb => hg2.block b (hv.lt b hb).2 (fun e => by cases e; have := (hv.lt _ hb).1; omega)); have hpm := raw_perm (who := who) (hrg0.sub.map (·.1) |>.nodup Hn.out) hp; have Hpm := Lib.hid hpm; clear hpm; have d0' := Lib.cell?_alloc_some (.cells #[.int .i64 p.1.1, .bool p.1.2.1, .int .i64 p.1.2.2] 26) d0; have hl2 := (hc.holds.of_block (w' := w2.alloc (.cells #[.int .i64 p.1.1, .bool p.1.2.1, .int .i64 p.1.2.2] 26)) (heap_alloc_old _ _ hc.holds.lt)).lookOk hw; rcases hgp : Al.get p.2.holds who with _ | m <;> (rw [hgp] at hl2; simp only [mtHolds] at hl2; clear hc)) | (at_builtin; refine wpList_append_row etSpot _ rfl _ _ 46 rfl Try.underlying46 (w.heap.size + 1) _ acc rfl (hv2.of_block (fun b hb => by have := (hv2.lt b hb).2; rw [heap_alloc_old _ _ (by simp; omega), heap_alloc_old _ _ this])) ⟨wr.heap.size + 1, 0, none⟩ 1 [p.1] 1 rfl rfl ?hnews ?hbytes ?h63 ?hbase ?hk; rotate_right; intro v3 w3 hv3 hg3 ho3))
    · go_roundw
      case rel =>
        refine ⟨Al.del left p.1, acc, hrg2.of_block (heap_alloc_old _ _ hrg2.map.lt) (heap_alloc_old _ _ hrg2.lt), ?_, hv2.of_block (fun b hb => heap_alloc_old _ _ (hv2.lt b hb).2), hb2.alloc (by omega) _, by simp; omega⟩
        have h1 := Hpm.out
        rw [hgp] at h1
        exact ((List.Perm.append_left acc h1).symm).trans hacc.out
      case measure => rw [(hrg2.of_block (heap_alloc_old _ (.cells #[.int .i64 p.1.1, .bool p.1.2.1, .int .i64 p.1.2.2] 26) hrg2.map.lt) (heap_alloc_old _ _ hrg2.lt)).toCome, hrg0.toCome]; exact hlt2
    · have hne : ∀ k, k ≤ w.heap.size → some k ≠ Value.ownBlock _ := fun k hk e => by have := (hv2.lt k e.symm).1; omega
      have hlb := (Hh.out.spots).lt
      have hrg3 : RangeAt mtSpots w3 C.sb w.heap.size C.spots (Al.del left p.1) := hrg2.of_block ((hg3.block _ (by simp; omega) (fun e => hne _ (by omega) e)).trans (by rw [heap_alloc_old _ _ (by simp; omega), heap_alloc_old _ _ (by omega)])) ((hg3.block _ (by simp; omega) (fun e => hne _ (by omega) e)).trans (by rw [heap_alloc_old _ _ (by simp; omega), heap_alloc_old _ _ (by omega)]))
      go_roundw
      case rel =>
        refine ⟨Al.del left p.1, acc ++ [p.1], hrg3, ?_, hv3, ((hb2.alloc (by omega) _).alloc (by simp; omega) _).grown hg3 (by simp; omega) (fun k e => by have := (hv2.lt k e).1; omega), by have := hg3.size; simp at this; omega⟩
        have h1 := Hpm.out
        rw [hgp] at h1
        show List.Perm _ _
        rw [List.append_assoc]
        exact ((List.Perm.append_left acc h1).symm).trans hacc.out
      case measure => rw [hrg3.toCome, hrg0.toCome]; exact hlt2
    · exact news_at _ _ _ (by simp; omega)
    · have h1 := hacc.out.length_eq
      have h2 := Hle.out
      have h3 := Hpm.out.length_eq
      rw [hgp] at h3
      simp at h1 h3
      show (acc.length + 1) * 24 ≤ _
      omega
    · have h1 := hacc.out.length_eq
      have h2 := Hle.out
      simp at h1
      unfold maxLen
      omega
    · simp
      omega
    · intro hl
      subst hl
      have hp : acc.Perm (rawS who C.spots) := by have := hacc.out; simpa [rawS] using this
      have hle : acc.length ≤ 1099511627776 := by rw [hp.length_eq]; exact Hle.out
      have e := (sortS_congr hp).trans (spots_abs C who)
      have E := Lib.hid e
      clear e hp hacc
      go_wp2_with fail
      refine Calls.mono (sort_any _ _ acc _ hv hle) ?_
      rintro e w4 ⟨rfl, hv4, hg4⟩
      go_wp2
      go_ret
      exact ⟨_, rfl, by rw [← E.out]; exact hv4.mono (by omega), hbr.grown hg4 hbr.size (fun k e => by have := (hv.lt k e).1; omega)⟩
end Go.Proofs.Ytmolmeamnmefeaa
