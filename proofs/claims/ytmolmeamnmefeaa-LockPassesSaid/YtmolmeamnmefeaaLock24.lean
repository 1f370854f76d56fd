/- Giving all up. -/
import Derived.Test.YtmolmeamnmefeaaLock23
namespace Go.Proofs.Ytmolmeamnmefeaa
open Go.RowKit Go.Shelf Go.Proofs Go.Sort

theorem drops_snoc (who : Int) (l : List Spot) (s : Spot) (S : St) : (l ++ [s]).foldl (fun T s => dropS T who s) S = dropS (l.foldl (fun T s => dropS T who s) S) who s := by rw [List.foldl_append]; rfl
theorem drop_some {S : St} {who : Int} {s t : Spot} (h : (Al.get S.spots t).isSome = true) : (Al.get (dropS S who s).spots t).isSome = true := by
  rw [drop_get]
  split
  · rename_i e
    subst e
    simpa using h
  · exact h
theorem drops_some {who : Int} : ∀ (l : List Spot) {S : St} {t : Spot}, (Al.get S.spots t).isSome = true → (Al.get (l.foldl (fun T s => dropS T who s) S).spots t).isSome = true
  | [], _, _, h => h
  | s :: l, S, t, h => by
    rw [List.foldl_cons]
    exact drops_some l (drop_some h)
theorem all_some {S : St} {k : Nat} (hg : Good S k) (who : Int) : ∀ s ∈ allS S who, (Al.get (leavesS S who).1.spots s).isSome = true := by
  intro s hs
  have keep : ∀ t, (Al.get S.spots t).isSome = true → (Al.get (leavesS S who).1.spots t).isSome = true := by
    intro t ht
    cases hw : Al.get S.waits who with
    | none => rw [leaves_none hw]; exact ht
    | some u =>
      obtain ⟨z, hz, _⟩ := (hg.inv.wq who u).1 hw
      rw [leaves_some hw hz]
      simp only [Al.get_put]
      split
      · rfl
      · exact ht
  apply keep
  unfold allS at hs
  rcases List.mem_append.1 hs with hs | hs
  · obtain ⟨x, h1, _⟩ := mem_spotsS.1 hs
    rw [(Al.get_iff hg.inv.sn).2 h1]
    rfl
  · cases hw : Al.get S.waits who with
    | none => rw [leaves_none hw] at hs; simp at hs
    | some u =>
      obtain ⟨z, hz, _⟩ := (hg.inv.wq who u).1 hw
      rw [leaves_some hw hz] at hs
      simp at hs
      subst hs
      rw [hz]
      rfl
theorem spotsS_len {S : St} (who : Int) : (spotsS S who).length ≤ wtS S := by
  unfold spotsS wtS
  rw [sortS_length, List.length_map]
  generalize S.spots = l
  induction l with
  | nil => simp
  | cons p l ih =>
    simp only [List.map_cons, List.sum_cons]
    by_cases h : (Al.get p.2.holds who).isSome
    · rw [List.filter_cons_of_pos (by exact h), List.length_cons]
      have : 0 < p.2.holds.length := by
        cases hh : p.2.holds with
        | nil => rw [hh] at h; simp [Al.get] at h
        | cons a b => simp
      omega
    · rw [List.filter_cons_of_neg (by exact h)]
      omega
theorem all_len {S : St} (who : Int) : (allS S who).length ≤ wtS S + 1 := by
  have := spotsS_len (S := S) who
  unfold allS
  rw [List.length_append]
  have : (leavesS S who).2.toList.length ≤ 1 := by
    cases (leavesS S who).2 <;> simp
  omega

theorem Row.append_base {P : Program} {e : TypeId} {α : Type} {E : ET P e α} {w : World} {base : Nat} {v : Value} {L : List α} (h : Row E w base v L) {fp : Nat → Prop} {w' : World} (ht : Turn fp w w') (hf : ∀ b, fp b → b < base) : Row E w' base v L :=
  h.of_block (fun b hb => ht.block b (h.lt b hb).2 (fun e => by have := hf b e; have := (h.lt b hb).1; omega))

set_option maxRecDepth 100000 in
set_option maxHeartbeats 3200000 in
theorem leave_any (C : CLocks) (who : Int) (hw : i64 who) (w : World) (h : LocksOk w C) (n : Nat) (hg : Good C.abs n) (hn : n ≤ 1000000000) :
    Calls Try.prog 12 #[.pointer (some ⟨C.lb, 0, none⟩), .int .i64 who] w fun e w' => ∃ (C' : CLocks) (v' : Value), e = .returned v' ∧ Turned C w (leaveS C.abs who).1 w' C' ∧ Row etInt w' w.heap.size v' (leaveS C.abs who).2 := by
  have hwt : wt C ≤ 1099511627776 := good_wt hg (by omega)
  have hsp := spots_any C who hw w h hwt
  have hclt := Lib.hid (h.lt)
  have hla : ∀ w1, Below w.heap.size w w1 → Calls Try.prog 31 #[.pointer (some ⟨C.lb, 0, none⟩), .int .i64 who] w1 fun e w' => ∃ C' : CLocks, e = .returned (leavesV (leavesS C.abs who).2) ∧ LocksOk w' C' ∧ C'.lb = C.lb ∧ C'.abs = (leavesS C.abs who).1 ∧ (∀ b, C'.fp b → C.fp b) ∧ Turn C.fp w1 w' := fun w1 hb => leaves_any C who hw w1 (h.below hb) hg.inv.queued
  have hsk : ∀ s, (leavesS C.abs who).2 = some s → spotOk s := by
    intro s hs
    cases hgw : Al.get C.abs.waits who with
    | none => rw [leaves_none hgw] at hs; cases hs
    | some t =>
      obtain ⟨x, hx, _⟩ := (hg.inv.wq who t).1 hgw
      rw [leaves_some hgw hx] at hs
      cases hs
      exact h.waitsOk _ (Al.mem_of_get hgw)
  have hall : Hid (∀ s ∈ allS C.abs who, spotOk s) := by
    intro s hs
    unfold allS at hs
    rcases List.mem_append.1 hs with hs | hs
    · obtain ⟨x, h1, _⟩ := mem_spotsS.1 hs
      obtain ⟨p, hp, e⟩ := List.mem_map.1 h1
      cases e
      exact h.spots.keyOk p hp
    · exact hsk s (by simpa using hs)
  have hsome : Hid (∀ s ∈ allS C.abs who, (Al.get (leavesS C.abs who).1.spots s).isSome = true) := all_some hg who
  have hlen : (allS C.abs who).length ≤ 1000000001 := Nat.le_trans (all_len who) (by have := hg.wt; omega)
  have hslen : (spotsS C.abs who).length ≤ 1000000000 := Nat.le_trans (spotsS_len who) (Nat.le_trans hg.wt hn)
  have Hh := Lib.hid h
  have Hg := Lib.hid hg
  clear h hg
  cases hls : (leavesS C.abs who).2
  case' none =>
    have hae : allS C.abs who = spotsS C.abs who := by unfold allS; rw [hls]; simp
    simp only [hls, leavesV, spotV] at hla
    have Hae := Lib.hid hae
    have Hla := Lib.hid hla
    clear hls hsk hae hla
    go_enter Try.func12, Try.ntmps12
    go_upto_region 7 with (first | (go_at_call 17; refine hsp.mono ?_; rintro e w1 ⟨v6, rfl, hv6, hb1⟩; have Hv6 := Lib.hid hv6; have Hb1 := Lib.hid hb1; clear hv6 hb1) | (go_at_call 31; refine (Hla.out w1 Hb1.out).mono ?_; rintro e w2 ⟨C1, rfl, ho1, hl1, ha1, hf1, ht1⟩; have Ho1 := Lib.hid ho1; have Ht1 := Lib.hid ht1; have Ha1 := Lib.hid ha1; have Hl1 := Lib.hid hl1; have Hf1 := Lib.hid hf1; clear ho1 ht1 ha1 hl1 hf1) | fail "no arm")
    have bz := below_box (w := w2) (.cells #[.int .i64 0, .bool false, .int .i64 0] 26)
    have HTT : Hid (Turn C.fp w (w2.alloc (.cells #[.int .i64 0, .bool false, .int .i64 0] 26))) := ((Turn.of_below Hb1.out).trans Ht1.out).trans (Turn.of_below bz)
    have HvX : Hid (Row etSpot (w2.alloc (.cells #[.int .i64 0, .bool false, .int .i64 0] 26)) w.heap.size v6 (allS C.abs who)) := by
      show Row _ _ _ _ _
      rw [Hae.out]
      exact (Hv6.out.append_base Ht1.out hclt.out).append_base (fp := C.fp) (Turn.of_below bz) hclt.out
    have HT : Hid (LocksOk (w2.alloc (.cells #[.int .i64 0, .bool false, .int .i64 0] 26)) C1) := Ho1.out.below bz
    clear bz Hv6
    have Hv6 := HvX
    clear HvX
    generalize w2.alloc (.cells #[.int .i64 0, .bool false, .int .i64 0] 26) = w4 at HTT Hv6 HT ⊢
  case' some s =>
    have hae : allS C.abs who = spotsS C.abs who ++ [s] := by unfold allS; rw [hls]; simp
    have hs := hsk s hls
    simp only [hls, leavesV, spotV] at hla
    have Hae := Lib.hid hae
    have Hla := Lib.hid hla
    clear hls hsk hae hla
    go_enter Try.func12, Try.ntmps12
    go_upto_region 6 with (first | (go_at_call 17; refine hsp.mono ?_; rintro e w1 ⟨v5, rfl, hv5, hb1⟩; have Hv5 := Lib.hid hv5; have Hb1 := Lib.hid hb1; clear hv5 hb1) | (go_at_call 31; refine (Hla.out w1 Hb1.out).mono ?_; rintro e w2 ⟨C1, rfl, ho1, hl1, ha1, hf1, ht1⟩; have Ho1 := Lib.hid ho1; have Ht1 := Lib.hid ht1; have Ha1 := Lib.hid ha1; have Hl1 := Lib.hid hl1; have Hf1 := Lib.hid hf1; clear ho1 ht1 ha1 hl1 hf1) | fail "no arm")
    have bz := below_box (w := w2) (.cells #[.int .i64 s.1, .bool s.2.1, .int .i64 s.2.2] 26)
    have nz := heap_alloc_new w2 (.cells #[.int .i64 s.1, .bool s.2.1, .int .i64 s.2.2] 26)
    have HTT0 : Hid (Turn C.fp w (w2.alloc (.cells #[.int .i64 s.1, .bool s.2.1, .int .i64 s.2.2] 26))) := ((Turn.of_below Hb1.out).trans Ht1.out).trans (Turn.of_below bz)
    have hrow := (Hv5.out.append_base Ht1.out hclt.out).append_base (fp := C.fp) (Turn.of_below bz) hclt.out
    have HT0 : Hid (LocksOk (w2.alloc (.cells #[.int .i64 s.1, .bool s.2.1, .int .i64 s.2.2] 26)) C1) := Ho1.out.below bz
    have hzz : w.heap.size ≤ w2.heap.size := ((Turn.of_below Hb1.out).trans Ht1.out).size
    clear bz Hv5
    generalize w2.alloc (.cells #[.int .i64 s.1, .bool s.2.1, .int .i64 s.2.2] 26) = w3 at HTT0 hrow HT0 nz ⊢
    have g0 : w3.cell? ⟨w2.heap.size, 0, none⟩ = some (.int .i64 s.1) := cell_of_blk nz 0
    have g1 : w3.cell? ⟨w2.heap.size, 1, none⟩ = some (.bool s.2.1) := cell_of_blk nz 1
    have g2 : w3.cell? ⟨w2.heap.size, 2, none⟩ = some (.int .i64 s.2.2) := cell_of_blk nz 2
    have hz3 : w.heap.size ≤ w3.heap.size := HTT0.out.size
    have bz3 := below_box (w := w3) (.cells #[.int .i64 s.1, .bool s.2.1, .int .i64 s.2.2] 26)
    have hrow3 := hrow.append_base (fp := C.fp) (Turn.of_below bz3) hclt.out
    have Hrow3 := Lib.hid hrow3
    have Bz3 := Lib.hid bz3
    have K1 : Hid (∀ j u, ([s].flatMap etSpot.enc)[j]? = some u → (w3.alloc (.cells #[.int .i64 s.1, .bool s.2.1, .int .i64 s.2.2] 26)).cell? ((⟨w3.heap.size, 0, none⟩ : Addr).add j) = some u) := fun j u hj => news_at [.int .i64 s.1, .bool s.2.1, .int .i64 s.2.2] _ _ rfl j u hj
    have K2 : Hid (((spotsS C.abs who).length + 1) * etSpot.bytes ≤ 140737488355328) := by show ((spotsS C.abs who).length + 1) * 24 ≤ _; omega
    have K3 : Hid ((spotsS C.abs who).length + 1 ≤ maxLen) := by show _ ≤ _; unfold maxLen; omega
    have K4 : Hid (w.heap.size ≤ (w3.alloc (.cells #[.int .i64 s.1, .bool s.2.1, .int .i64 s.2.2] 26)).heap.size) := by show _ ≤ _; simp; omega
    clear nz hrow hrow3 bz3
    go_upto_region 7 with (at_builtin; refine wpList_append_row etSpot _ rfl _ _ 46 rfl Try.underlying46 w.heap.size v5 (spotsS C.abs who) rfl Hrow3.out ⟨w3.heap.size, 0, none⟩ 1 [s] 1 rfl rfl K1.out K2.out K3.out K4.out ?_; intro v6 w4 hr6 hg6 hb6; have Hr6 := Lib.hid hr6; have Hg6 := Lib.hid hg6; clear hr6 hg6 hb6)
    have hown : ∀ b, v5.ownBlock = some b → w.heap.size ≤ b := fun b hb => (Hrow3.out.lt b hb).1
    have HTT : Hid (Turn C.fp w w4) := (HTT0.out.trans (Turn.of_below Bz3.out)).then (fp2 := fun b => v5.ownBlock = some b) (Turn.of_grown Hg6.out (fun b e => e)) (fun b hb e => by have := hown b e; omega)
    have Hv6 : Hid (Row etSpot w4 w.heap.size v6 (allS C.abs who)) := by
      show Row _ _ _ _ _
      rw [Hae.out]
      exact Hr6.out
    have HT : Hid (LocksOk w4 C1) := (HT0.out.below Bz3.out).of_blocks (fun b hb => by
      have h1 := hclt.out b (Hf1.out b hb)
      exact Hg6.out.block b (by simp; omega) (fun e => by have := hown b e.symm; omega))
    clear Hr6 Hg6 Hrow3 HTT0 HT0 K1 K2 K3 K4 hown Bz3 g0 g1 g2
  all_goals
    have E : Hid (leaveS C.abs who = wokenS ((allS C.abs who).foldl (fun T s => dropS T who s) (leavesS C.abs who).1) (onceS (sortS (allS C.abs who)))) := rfl
    have Hinv : Hid (wtS ((allS C.abs who).foldl (fun T s => dropS T who s) (leavesS C.abs who).1) ≤ 1099511627776) := by
      have h1 := (Inv.lessDrops (allS C.abs who) (Hg.out.inv.leaves who).1 (Hg.out.inv.leaves who).2).wt
      have h2 := (Hg.out.inv.lessLeaves who).wt
      have h3 := Hg.out.wt
      show _ ≤ _
      omega
    have lv6 := Hv6.out.len_run Try.underlying46
    clear Hae hsp Hla hslen Ho1 Ht1 Hb1
    generalize allS C.abs who = A at *
    go_wp2_with fail
    go_loopw [28] (fun i wr => ∃ (k : Nat) (C2 : CLocks), k ≤ A.length ∧ i = .int .i64 k ∧ Hid (LocksOk wr C2) ∧ Hid (C2.lb = C.lb) ∧ Hid (C2.abs = (A.take k).foldl (fun T s => dropS T who s) (leavesS C.abs who).1) ∧ Hid (∀ b, C2.fp b → C.fp b) ∧ Hid (Turn C.fp w wr) ∧ Hid (Row etSpot wr w.heap.size v6 A)) (fun i _ => A.length - (intOf i).toNat)
    case atStart => exact ⟨0, C1, Nat.zero_le _, rfl, HT, Hl1, Ha1, Hf1, HTT, Hv6⟩
    case round =>
      obtain ⟨k, C2, hk, rfl, hok, hlb, hab, hfp, htt, hv⟩ := hrel
      clear HT Hl1 Ha1 Hf1 HTT Hv6
      by_cases hlt : k < A.length
      · obtain ⟨g, cap, rfl⟩ := ownsRow_shape hv.out (by omega)
        have k0 : wr.cell? ⟨g, k * 3, none⟩ = some (.int .i64 A[k].1) := hv.out.at k 0 hlt (by decide)
        have k1 : wr.cell? ⟨g, k * 3 + 1, none⟩ = some (.bool A[k].2.1) := hv.out.at k 1 hlt (by decide)
        have k2 : wr.cell? ⟨g, k * 3 + 2, none⟩ = some (.int .i64 A[k].2.2) := hv.out.at k 2 hlt (by decide)
        have hsk := hall.out _ (List.getElem_mem hlt)
        have hss := hsome.out _ (List.getElem_mem hlt)
        have htk := Lib.hid (List.take_succ_eq_append_getElem hlt)
        generalize A[k] = s at k0 k1 k2 hsk hss htk
        have hcs := drops_some (who := who) (A.take k) hss
        rw [← hab.out, get_abs] at hcs
        obtain ⟨c, hgs⟩ : ∃ c, Al.get C2.spots s = some c := by
          cases hgs : Al.get C2.spots s with
          | none => rw [hgs] at hcs; cases hcs
          | some c => exact ⟨c, rfl⟩
        have Hgs := Lib.hid hgs
        have bz := below_box (w := wr) (.cells #[.int .i64 s.1, .bool s.2.1, .int .i64 s.2.2] 26)
        have nz := heap_alloc_new wr (.cells #[.int .i64 s.1, .bool s.2.1, .int .i64 s.2.2] 26)
        have htt3 := Lib.hid (htt.out.trans (Turn.of_below bz))
        have hv3 := Lib.hid (hv.out.append_base (fp := C.fp) (Turn.of_below bz) hclt.out)
        have hok3 := hok.out.below bz
        clear bz hcs hgs hss
        go_upto_region 10 with fail
        clear k0 k1 k2
        generalize wr.alloc (.cells #[.int .i64 s.1, .bool s.2.1, .int .i64 s.2.2] 26) = w3 at htt3 hv3 hok3 nz ⊢
        have d0 : w3.cell? ⟨wr.heap.size, 0, none⟩ = some (.int .i64 s.1) := cell_of_blk nz 0
        have d1 : w3.cell? ⟨wr.heap.size, 1, none⟩ = some (.bool s.2.1) := cell_of_blk nz 1
        have d2 : w3.cell? ⟨wr.heap.size, 2, none⟩ = some (.int .i64 s.2.2) := cell_of_blk nz 2
        have k1 : w3.cell? ⟨C.lb, 1, none⟩ = some (.map (some C2.sb)) := by have := cell_of_blk hok3.blk 1; rwa [hlb.out] at this
        have hl3 := (show MapAt mtSpots w3.drew C2.sb C2.spots from hok3.spots).look hsk
        rw [Hgs.out] at hl3
        simp only [mtSpots, spotV] at hl3
        have hc3 := hok3.each _ (Al.mem_of_get Hgs.out)
        simp only at hc3
        have p0 : w3.cell? ⟨c.p, 0, none⟩ = some (.map (some c.hb)) := cell_of_blk hc3.blk 0
        obtain ⟨w4, hrun, hm4, ht4⟩ := (show MapAt mtHolds w3.drew c.hb c.holds from hc3.holds).drop hw 0
        simp only [mtHolds] at hrun
        have h4 := Lib.hid (hok3.dropped Hgs.out ((Turn.of_below (Below.refl w3.heap.size w3).drew).trans (mapTurned_turn ht4)) who hm4)
        have hT4 : Hid (Turn C.fp w3 w4) := (Turn.of_below (Below.refl w3.heap.size w3).drew).trans ((mapTurned_turn ht4).mono (fun b _ e => hfp.out b (fp_spot Hgs.out b (Or.inr (Or.inl e)))))
        clear hok3 hc3 hm4 ht4 nz
        refine wp_tail 10 (by kernel_rfl) (by kernel_rfl) ?_
        simp only [List.take_succ_cons, List.take_zero, List.drop_succ_cons, List.drop_zero]
        repeat still_step
        refine wpStill_nil ?_
        go_wp2
        go_roundw
        case rel =>
          refine ⟨k + 1, _, by omega, by go_num, h4, hlb, ?_, ?_, htt3.out.trans hT4.out, hv3.out.append_base hT4.out hclt.out⟩
          · show _ = _
            rw [htk.out, drops_snoc, ← hab.out]
            exact abs_dropped Hgs.out who
          · exact fun b hb => hfp.out b (fp_put (c' := { c with holds := Al.del c.holds who }) Hgs.out (fun _ h => h) b hb)
        case measure => simp [intOf]; omega
      · obtain rfl : k = A.length := by omega
        rw [List.take_length] at hab
        go_wp2_with fail
        refine Calls.mono (sort_any _ _ A _ hv.out (by omega)) ?_
        rintro e w5 ⟨rfl, hv5, hg5⟩
        have hown : ∀ b, v6.ownBlock = some b → w.heap.size ≤ b := fun b hb => (hv.out.lt b hb).1
        have htt5 : Hid (Turn C.fp w w5) := htt.out.then (fp2 := fun b => v6.ownBlock = some b) (Turn.of_grown hg5 (fun b e => e)) (fun b hb e => by have := hown b e; omega)
        have hok5 : Hid (LocksOk w5 C2) := hok.out.of_blocks (fun b hb => by
          have h1 := hclt.out b (hfp.out b hb)
          exact hg5.block b (by have := htt.out.size; omega) (fun e => by have := hown b e.symm; omega))
        have Hv5 := Lib.hid hv5
        clear hv5 hg5
        go_wp2_with fail
        refine Calls.mono (compactS_any _ _ _ _ Hv5.out) ?_
        rintro e w6 ⟨v7, rfl, hv7, hg7, he7⟩
        have htt6 : Hid (Turn C.fp w w6) := htt5.out.then (fp2 := fun b => v6.ownBlock = some b) (Turn.of_grown hg7 (fun b e => e)) (fun b hb e => by have := hown b e; omega)
        have hok6 : Hid (LocksOk w6 C2) := hok5.out.of_blocks (fun b hb => by
          have h1 := hclt.out b (hfp.out b hb)
          exact hg7.block b (by have := htt5.out.size; omega) (fun e => by have := hown b e.symm; omega))
        have hwk := woken_any C2 w6 hok6.out v7 _ _ hv7 (fun b hb e => by
          have h1 := hclt.out b (hfp.out b e)
          have h2 := hown b (he7 ▸ hb)
          omega) (fun s hs => hall.out s (sortS_mem.1 (onceS_mem.1 hs))) (by rw [wt_abs, hab.out]; exact Hinv.out)
        rw [hlb.out, hab.out] at hwk
        have Hwk := Lib.hid hwk
        clear hv7 hg7 he7 hwk
        go_wp2_with fail
        refine Calls.mono Hwk.out ?_
        rintro e w7 ⟨C', v', rfl, ho7, hl7, ha7, hf7, ht7, hr7⟩
        go_wp2
        go_ret
        refine ⟨C', v', rfl, ⟨ho7, hl7, by rw [E.out]; exact ha7, fun b hb => Or.inl (hfp.out b (hf7 b hb)), htt6.out.trans (ht7.mono (fun b _ e => hfp.out b e))⟩, ?_⟩
        rw [E.out]
        exact hr7.mono htt6.out.size
end Go.Proofs.Ytmolmeamnmefeaa
