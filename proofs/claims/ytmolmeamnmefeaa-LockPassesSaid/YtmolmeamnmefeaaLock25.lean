/- Asking. -/
import Derived.Test.YtmolmeamnmefeaaLock24b
namespace Go.Proofs.Ytmolmeamnmefeaa
open Go.RowKit Go.Shelf Go.Proofs Go.Sort

theorem Al.put_put {κ α : Type} [DecidableEq κ] (m : List (κ × α)) (k : κ) (u v : α) : Al.put (Al.put m k u) k v = Al.put m k v := by
  have hs : (Al.get (Al.put m k u) k).isSome = true := by rw [Al.get_put]; simp
  have h1 : Al.put (Al.put m k u) k v = (Al.put m k u).map (fun p => if p.1 = k then (k, v) else p) := by
    conv => lhs; rw [Al.put.eq_1, if_pos hs]
  rw [h1]
  unfold Al.put
  split
  · rw [List.map_map]
    refine List.map_congr_left (fun p _ => ?_)
    simp only [Function.comp]
    by_cases e : p.1 = k
    · simp [e]
    · simp [e]
  · rename_i hn
    have hno : ∀ p ∈ m, p.1 ≠ k := by
      intro p hp e
      exact hn (Al.find_some.2 (List.mem_map.2 ⟨p, hp, e⟩))
    rw [List.map_append]
    congr 1
    · conv => rhs; rw [← List.map_id m]
      refine List.map_congr_left (fun p hp => ?_)
      rw [if_neg (hno p hp)]
      rfl
    · simp

/-- the spot is there -/
structure Spotted (C : CLocks) (s : Spot) (w wx : World) (C1 : CLocks) (c1 : CSpot) : Prop where
  ok : LocksOk wx C1
  lb : C1.lb = C.lb
  get : Al.get C1.spots s = some c1
  abs : c1.abs = (Al.get C.abs.spots s).getD sp0
  put : ∀ y, Al.put C1.abs.spots s y = Al.put C.abs.spots s y
  waits : C1.waits = C.waits
  most : C1.most = C.most
  wb : C1.wb = C.wb
  fp : ∀ b, C1.fp b → C.fp b ∨ w.heap.size < b
  turn : Turn C.fp w wx
  box : wx.heap[w.heap.size]? = some (.cells #[.int .i64 s.1, .bool s.2.1, .int .i64 s.2.2] 26)

theorem Spotted.below {C C1 : CLocks} {s : Spot} {w wx wy : World} {c1 : CSpot} (h : Spotted C s w wx C1 c1) (hb : Below wx.heap.size wx wy) : Spotted C s w wy C1 c1 :=
  ⟨h.ok.below hb, h.lb, h.get, h.abs, h.put, h.waits, h.most, h.wb, h.fp, h.turn.trans (Turn.of_below hb), (hb.block _ (Array.getElem?_eq_some_iff.1 h.box).1).trans h.box⟩

set_option maxRecDepth 100000 in
set_option maxHeartbeats 16000000 in
theorem ask_any (C : CLocks) (who : Int) (s : Spot) (m : Int) (hw : i64 who) (hs : spotOk s) (_ : u8 m) (w : World) (h : LocksOk w C) (n : Nat) (hg : Good C.abs n) (hn : n ≤ 1000000000) :
    Calls Try.prog 9 #[.pointer (some ⟨C.lb, 0, none⟩), .int .i64 who, .agg #[.int .i64 s.1, .bool s.2.1, .int .i64 s.2.2], .int .u8 m] w fun e w' => ∃ C' : CLocks, e = .returned (.tuple #[.bool (askS C.abs who s m).2.1, .int .i64 (askS C.abs who s m).2.2]) ∧ Turned C w (askS C.abs who s m).1 w' C' := by
  have hbx := below_box (w := w) (.cells #[.int .i64 s.1, .bool s.2.1, .int .i64 s.2.2] 26)
  have nS := heap_alloc_new w (.cells #[.int .i64 s.1, .bool s.2.1, .int .i64 s.2.2] 26)
  have hz1 : (w.alloc (.cells #[.int .i64 s.1, .bool s.2.1, .int .i64 s.2.2] 26)).heap.size = w.heap.size + 1 := by simp
  have h1 := h.below hbx
  have Hh := Lib.hid h
  have hgh := hg.held who s
  clear h
  go_enter Try.func9, Try.ntmps9
  go_upto_region 3 with fail
  generalize w.alloc (.cells #[.int .i64 s.1, .bool s.2.1, .int .i64 s.2.2] 26) = w1 at hbx h1 nS hz1 ⊢
  have e0 : w1.cell? ⟨w.heap.size, 0, none⟩ = some (.int .i64 s.1) := cell_of_blk nS 0
  have e1 : w1.cell? ⟨w.heap.size, 1, none⟩ = some (.bool s.2.1) := cell_of_blk nS 1
  have e2 : w1.cell? ⟨w.heap.size, 2, none⟩ = some (.int .i64 s.2.2) := cell_of_blk nS 2
  have hha := held_any C who s hw hs w1 h1
  rw [held_abs] at hha
  have H1 := Lib.hid h1
  have NS := Lib.hid nS
  have Hbx := Lib.hid hbx
  clear h1 nS hbx
  generalize hhe : heldS C.abs who s = hv at hha hgh
  have Hhe := Lib.hid hhe
  clear hhe
  go_upto_region 4 with (go_at_call 13; refine hha.mono ?_; rintro e w2 ⟨rfl, hb2⟩)
  have h2 := H1.out.below hb2
  have n2 := (hb2.block _ (by omega)).trans NS.out
  have hbx2 := Hbx.out.trans (hb2.mono (B' := w.heap.size) (by omega))
  have hz2 : w.heap.size + 1 ≤ w2.heap.size := by have := hb2.size; omega
  have c2 : w2.cell? ⟨C.lb, 2, none⟩ = some (.map (some C.wb)) := cell_of_blk h2.blk 2
  have hl := h2.waits.lookOk hw
  simp only [mtWaits, spotV] at hl
  have H2 := Lib.hid h2
  have N2 := Lib.hid n2
  have Hbx2 := Lib.hid hbx2
  clear h2 n2 hbx2 hb2 hha e0 e1 e2 H1 NS Hbx
  cases hgw : Al.get C.waits who with
  | some t =>
    rw [hgw] at hl
    have Hgw := Lib.hid hgw
    clear hgw
    go_upto_region 5 with fail
    have bz := below_box (w := w2) (.cells #[.int .i64 t.1, .bool t.2.1, .int .i64 t.2.2] 26)
    have n3 := (heap_alloc_old w2 (.cells #[.int .i64 t.1, .bool t.2.1, .int .i64 t.2.2] 26) (r := w.heap.size) (by omega)).trans N2.out
    have h3 := Lib.hid (H2.out.below bz)
    have hbx3 := Lib.hid (Hbx2.out.trans (bz.mono (B' := w.heap.size) (by omega)))
    have hz3 : w.heap.size + 1 ≤ (w2.alloc (.cells #[.int .i64 t.1, .bool t.2.1, .int .i64 t.2.2] 26)).heap.size := by simp; omega
    clear bz hl c2 H2 N2 Hbx2
    generalize w2.alloc (.cells #[.int .i64 t.1, .bool t.2.1, .int .i64 t.2.2] 26) = w3 at n3 h3 hbx3 hz3 ⊢
    have e0 : w3.cell? ⟨w.heap.size, 0, none⟩ = some (.int .i64 s.1) := cell_of_blk n3 0
    have e1 : w3.cell? ⟨w.heap.size, 1, none⟩ = some (.bool s.2.1) := cell_of_blk n3 1
    have e2 : w3.cell? ⟨w.heap.size, 2, none⟩ = some (.int .i64 s.2.2) := cell_of_blk n3 2
    have hmc := may_any s m w3
    have N3 := Lib.hid n3
    clear n3
    cases hmy : mayS s m with
    | false =>
      rw [hmy] at hmc
      have E : Hid (askS C.abs who s m = (C.abs, false, 2)) := by
        show _ = _
        unfold askS
        rw [hmy]
        rfl
      clear hmy
      go_wp2_with (go_at_call 26; refine hmc.mono ?_; rintro e w4 ⟨rfl, hb4⟩; have Hb4 := Lib.hid hb4; clear hb4)
      go_ret2
      refine ⟨C, by rw [E.out]; rfl, ?_⟩
      rw [E.out]
      exact Turned.same Hh.out (hbx3.out.trans (Hb4.out.mono (B' := w.heap.size) (by omega)))
    | true =>
      rw [hmy] at hmc
      have E : Hid (askS C.abs who s m = (C.abs, false, 4)) := by
        show _ = _
        unfold askS
        rw [hmy, show Al.get C.abs.waits who = some t from Hgw.out]
        rfl
      clear hmy
      go_wp2_with (go_at_call 26; refine hmc.mono ?_; rintro e w4 ⟨rfl, hb4⟩; have Hb4 := Lib.hid hb4; clear hb4)
      go_ret2
      refine ⟨C, by rw [E.out]; rfl, ?_⟩
      rw [E.out]
      exact Turned.same Hh.out (hbx3.out.trans (Hb4.out.mono (B' := w.heap.size) (by omega)))
  | none =>
    rw [hgw] at hl
    have Hgw := Lib.hid hgw
    clear hgw
    go_upto_region 5 with fail
    have bz := below_box (w := w2) (.cells #[.int .i64 0, .bool false, .int .i64 0] 26)
    have n3 := (heap_alloc_old w2 (.cells #[.int .i64 0, .bool false, .int .i64 0] 26) (r := w.heap.size) (by omega)).trans N2.out
    have h3 := Lib.hid (H2.out.below bz)
    have hbx3 := Lib.hid (Hbx2.out.trans (bz.mono (B' := w.heap.size) (by omega)))
    have hz3 : w.heap.size + 1 ≤ (w2.alloc (.cells #[.int .i64 0, .bool false, .int .i64 0] 26)).heap.size := by simp; omega
    clear bz hl c2 H2 N2 Hbx2
    generalize w2.alloc (.cells #[.int .i64 0, .bool false, .int .i64 0] 26) = w3 at n3 h3 hbx3 hz3 ⊢
    have e0 : w3.cell? ⟨w.heap.size, 0, none⟩ = some (.int .i64 s.1) := cell_of_blk n3 0
    have e1 : w3.cell? ⟨w.heap.size, 1, none⟩ = some (.bool s.2.1) := cell_of_blk n3 1
    have e2 : w3.cell? ⟨w.heap.size, 2, none⟩ = some (.int .i64 s.2.2) := cell_of_blk n3 2
    have hmc := may_any s m w3
    have N3 := Lib.hid n3
    clear n3
    cases hmy : mayS s m with
    | false =>
      rw [hmy] at hmc
      have E : Hid (askS C.abs who s m = (C.abs, false, 2)) := by
        show _ = _
        unfold askS
        rw [hmy]
        rfl
      clear hmy
      go_wp2_with (go_at_call 26; refine hmc.mono ?_; rintro e w4 ⟨rfl, hb4⟩; have Hb4 := Lib.hid hb4; clear hb4)
      go_ret2
      refine ⟨C, by rw [E.out]; rfl, ?_⟩
      rw [E.out]
      exact Turned.same Hh.out (hbx3.out.trans (Hb4.out.mono (B' := w.heap.size) (by omega)))
    | true =>
      rw [hmy] at hmc
      have hcc := covers_any hv m
      cases hcv : Md.cov (Md.n hv) (Md.n m) with
      | true =>
        rw [hcv] at hcc
        have E : Hid (askS C.abs who s m = (C.abs, true, 0)) := by
          show _ = _
          unfold askS
          rw [hmy, show Al.get C.abs.waits who = none from Hgw.out, Hhe.out]
          simp [coversI, hcv]
        clear hmy hcv
        go_wp2_with (first | (go_at_call 26; refine hmc.mono ?_; rintro e w4 ⟨rfl, hb4⟩; have Hb4 := Lib.hid hb4; clear hb4) | (go_at_call 27; refine (hcc _).mono ?_; rintro e w5 ⟨rfl, rfl⟩) | fail "no arm")
        go_ret2
        refine ⟨C, by rw [E.out]; rfl, ?_⟩
        rw [E.out]
        exact Turned.same Hh.out (hbx3.out.trans (Hb4.out.mono (B' := w.heap.size) (by omega)))
      | false =>
        rw [hcv] at hcc
        have Hmy := Lib.hid hmy
        have Hcv := Lib.hid hcv
        clear hmy hcv
        go_upto_region 11 with (first | (go_at_call 26; refine hmc.mono ?_; rintro e w4 ⟨rfl, hb4⟩; have Hb4 := Lib.hid hb4; clear hb4) | (go_at_call 27; refine (hcc _).mono ?_; rintro e w5 ⟨rfl, rfl⟩) | fail "no arm")
        have h4 := Lib.hid (h3.out.below Hb4.out)
        have hbx4 := Lib.hid (hbx3.out.trans (Hb4.out.mono (B' := w.heap.size) (by omega)))
        have n4 := Lib.hid ((Hb4.out.block _ (by omega)).trans N3.out)
        have hz4 : w.heap.size + 1 ≤ w4.heap.size := by have := Hb4.out.size; omega
        have hwt := good_wt hg (by omega)
        have hus : ∀ wq, LocksOk wq C → Calls Try.prog 24 #[.pointer (some ⟨C.lb, 0, none⟩)] wq fun e w' => e = .returned (.int .i64 (usedN C.spots)) ∧ Below wq.heap.size wq w' := fun wq hq => used_any C wq hq hwt
        have c4 : w4.cell? ⟨C.lb, 0, none⟩ = some (.int .i64 C.most) := cell_of_blk h4.out.blk 0
        clear e0 e1 e2 hmc hcc N3 h3 hbx3 Hb4 hz3 hwt
        go_cut [42] from 42 to 53 (fun b wx => b = .bool (decide (hv = 0) && decide (C.most ≤ (usedN C.spots : Int))) ∧ Below w4.heap.size w4 wx)
        case first =>
          by_cases h0 : hv = 0
          · subst h0
            have hne : ((0 : Int) == 0) = true := rfl
            have hcell : ∀ wx, Below w4.heap.size w4 wx → wx.cell? ⟨C.lb, 0, none⟩ = some (.int .i64 C.most) := fun wx hx => cell_of_blk (h4.out.below hx).blk 0
            go_region_held3 (fun w' => w'.cell? ⟨C.lb, 0, none⟩ = some (.int .i64 C.most)) (first | exact c4 | exact c5 | go_keep) ((go_at_call 24; refine Calls.mono (hus _ (h4.out.of_blocks (fun _ _ => rfl))) ?_; rintro e w5 ⟨rfl, hb5⟩; have hb5' : Below w4.heap.size w4 w5 := ((Below.refl w4.heap.size w4).drew).trans hb5; have c5 := hcell w5 hb5'))
            all_goals (go_wp2_with fail; go_meet; exact ⟨by simp, hb5'⟩)
          · have hne : (hv == 0) = false := by simpa using h0
            go_quiet (fail)
            go_wp2_with fail
            go_meet
            exact ⟨by simp [h0], bdn (Below.refl _ _) _⟩
        case rest =>
        obtain ⟨rfl, hbx⟩ := hcut
        rename World => w5
        have h5 := Lib.hid (h4.out.below hbx)
        have hbx5 := Lib.hid (hbx4.out.trans (hbx.mono (B' := w.heap.size) (by omega)))
        have n5 := (hbx.block _ (by omega)).trans n4.out
        have hz5 : w.heap.size + 1 ≤ w5.heap.size := by have := hbx.size; omega
        clear hbx h4 hbx4 n4 hz4 c4 hus
        cases hf : (decide (hv = 0) && decide (C.most ≤ (usedN C.spots : Int))) with
        | true =>
          have E : Hid (askS C.abs who s m = (C.abs, false, 3)) := by
            show _ = _
            unfold askS
            rw [Hmy.out, show Al.get C.abs.waits who = none from Hgw.out, Hhe.out, ← used_abs]
            simp only [Bool.and_eq_true, decide_eq_true_eq] at hf
            simp only [coversI, Hcv.out]
            rw [if_neg (by simp), if_neg (by simp), if_neg (by simp), if_pos ⟨hf.1, hf.2⟩]
          clear hf n5
          go_wp2
          go_ret2
          refine ⟨C, by rw [E.out]; rfl, ?_⟩
          rw [E.out]
          exact Turned.same Hh.out hbx5.out
        | false =>
          have E : Hid (askS C.abs who s m = wishS C.abs who s (joinI hv m) (hv != 0)) := by
            show _ = _
            unfold askS
            rw [Hmy.out, show Al.get C.abs.waits who = none from Hgw.out, Hhe.out, ← used_abs]
            simp only [Bool.and_eq_false_iff, decide_eq_false_iff_not] at hf
            simp only [coversI, Hcv.out]
            rw [if_neg (by simp), if_neg (by simp), if_neg (by simp), if_neg (fun e => by rcases hf with hf | hf; exact hf e.1; exact hf e.2)]
          have e0 : w5.cell? ⟨w.heap.size, 0, none⟩ = some (.int .i64 s.1) := cell_of_blk n5 0
          have e1 : w5.cell? ⟨w.heap.size, 1, none⟩ = some (.bool s.2.1) := cell_of_blk n5 1
          have e2 : w5.cell? ⟨w.heap.size, 2, none⟩ = some (.int .i64 s.2.2) := cell_of_blk n5 2
          have c1 : w5.cell? ⟨C.lb, 1, none⟩ = some (.map (some C.sb)) := cell_of_blk h5.out.blk 1
          have N5 := Lib.hid n5
          clear hf n5
          go_upto_region 13 with fail
          go_cut [60] from 54 to 60 (fun b wx => ∃ b60 q, b = .bool b60 ∧ Hid (b60 = (Al.get C.spots s).isNone) ∧ wx = w5.drewN q)
          case first =>
            cases hgs : Al.get C.spots s with
            | some c =>
              have hl := h5.out.spots.look_some hs hgs
              simp only [mtSpots, spotV] at hl
              have Hgs := Lib.hid hgs
              clear hgs
              go_quiet (fail)
              go_wp2_with fail
              go_meet
              exact ⟨_, _, rfl, by show _ = _; rw [Hgs.out]; rfl, rfl⟩
            | none =>
              have hl := h5.out.spots.look_none hs hgs
              simp only [mtSpots, spotV] at hl
              have Hgs := Lib.hid hgs
              clear hgs
              go_quiet (fail)
              go_wp2_with fail
              go_meet
              exact ⟨_, _, rfl, by show _ = _; rw [Hgs.out]; rfl, rfl⟩
          case rest =>
          obtain ⟨b60, nq, rfl, hb60, rfl⟩ := hcut
          go_upto_if 60 with fail
          go_cut [] from 61 to 68 (fun wx => ∃ C1 c1, Hid (Spotted C s w wx C1 c1))
          case first =>
            cases b60 with
            | false =>
              obtain ⟨c, hgs⟩ : ∃ c, Al.get C.spots s = some c := by
                have := hb60.out
                cases hgs : Al.get C.spots s with
                | none => rw [hgs] at this; cases this
                | some c => exact ⟨c, rfl⟩
              have Hgs := Lib.hid hgs
              clear hgs
              go_wp2_with fail
              go_meet
              have hS5 : Spotted C s w w5 C c := ⟨h5.out, rfl, Hgs.out, by rw [get_abs, Hgs.out]; rfl, fun _ => rfl, rfl, rfl, rfl, fun _ h => Or.inl h, Turn.of_below hbx5.out, N5.out⟩
              exact ⟨C, c, hS5.below (bdn (Below.refl _ _) _)⟩
            | true =>
              have hgs : Al.get C.spots s = none := by
                have := hb60.out
                cases hgs : Al.get C.spots s with
                | none => rfl
                | some c => rw [hgs] at this; cases this
              have Hgs := Lib.hid hgs
              clear hgs
              have hq5 : Below w5.heap.size w5 (w5.drewN nq) := bdn (Below.refl _ _) _
              have h6 := Lib.hid (h5.out.below hq5)
              have N6 : Hid ((w5.drewN nq).heap[w.heap.size]? = some (.cells #[.int .i64 s.1, .bool s.2.1, .int .i64 s.2.2] 26)) := N5.out
              have hz6 : (w5.drewN nq).heap.size = w5.heap.size := rfl
              have e0' : (w5.drewN nq).cell? ⟨w.heap.size, 0, none⟩ = some (.int .i64 s.1) := e0
              have e1' : (w5.drewN nq).cell? ⟨w.heap.size, 1, none⟩ = some (.bool s.2.1) := e1
              have e2' : (w5.drewN nq).cell? ⟨w.heap.size, 2, none⟩ = some (.int .i64 s.2.2) := e2
              have c1' : (w5.drewN nq).cell? ⟨C.lb, 1, none⟩ = some (.map (some C.sb)) := c1
              have hbx6 : Hid (Below w.heap.size w (w5.drewN nq)) := hbx5.out.trans (hq5.mono (B' := w.heap.size) (by omega))
              clear e0 e1 e2 c1 hq5
              generalize w5.drewN nq = w6 at h6 N6 hz6 e0' e1' e2' c1' hbx6 ⊢
              go_upto_region 14 with fail
              have hb7 : Below w6.heap.size w6 ((w6.alloc (.map #[] 0)).alloc (.cells #[.map (some w5.heap.size), .slice none 0 0, .slice none 0 0] 68)).drew := (((Below.refl _ w6).alloc (Nat.le_refl _) _).alloc (by simp) _).drew
              have h7 := h6.out.below hb7
              have a7 : ((w6.alloc (.map #[] 0)).alloc (.cells #[.map (some w5.heap.size), .slice none 0 0, .slice none 0 0] 68)).drew.heap[w5.heap.size + 1]? = some (.cells #[.map (some w5.heap.size), .slice none 0 0, .slice none 0 0] 68 (0, 0)) := by
                have := heap_alloc_new (w6.alloc (.map #[] 0)) (.cells #[.map (some w5.heap.size), .slice none 0 0, .slice none 0 0] 68)
                rw [World.size_alloc, hz6] at this
                exact this
              have b7 : MapAt mtHolds ((w6.alloc (.map #[] 0)).alloc (.cells #[.map (some w5.heap.size), .slice none 0 0, .slice none 0 0] 68)).drew w5.heap.size [] := by
                have := (MapAt.made mtHolds w6).of_block (w' := ((w6.alloc (.map #[] 0)).alloc (.cells #[.map (some w5.heap.size), .slice none 0 0, .slice none 0 0] 68)).drew) (heap_alloc_old _ _ (by simp))
                rw [hz6] at this
                exact this
              obtain ⟨w8, hst, hm8, ht8⟩ := h7.spots.store hs (⟨w5.heap.size + 1, w5.heap.size, .slice none 0 0, .slice none 0 0, [], [], []⟩ : CSpot)
              simp only [mtSpots, spotV] at hst
              have hfr : ∀ b, w5.heap.size ≤ b → ¬ C.fp b := fun b hb e => by have := h5.out.lt b e; omega
              have hsbl := h5.out.spots.lt
              have hT8 := mapTurned_turn ht8
              have hz7 : ((w6.alloc (.map #[] 0)).alloc (.cells #[.map (some w5.heap.size), .slice none 0 0, .slice none 0 0] 68)).drew.heap.size = w5.heap.size + 2 := by simp [hz6]
              have hsp8 : SpotOk w8 (⟨w5.heap.size + 1, w5.heap.size, .slice none 0 0, .slice none 0 0, [], [], []⟩ : CSpot) :=
                ⟨(hT8.block (w5.heap.size + 1) (by omega) (fun e => by omega)).trans a7, b7.of_block (hT8.block w5.heap.size (by omega) (fun e => by omega)), Row.nil _ _ _, Row.nil _ _ _, fun b hb => by simp [Value.ownBlock] at hb, by simp, by simp, by simp⟩
              have h8 := h7.added hT8 s (⟨w5.heap.size + 1, w5.heap.size, .slice none 0 0, .slice none 0 0, [], [], []⟩ : CSpot) Hgs.out hm8 hsp8 (fun b hb => by
                rcases hb with rfl | rfl | hb | hb
                · exact hfr _ (by simp)
                · exact hfr _ (Nat.le_refl _)
                · simp [Value.ownBlock] at hb
                · simp [Value.ownBlock] at hb)
              have hS8 : Hid (Spotted C s w w8 { C with spots := Al.put C.spots s (⟨w5.heap.size + 1, w5.heap.size, .slice none 0 0, .slice none 0 0, [], [], []⟩ : CSpot) } ⟨w5.heap.size + 1, w5.heap.size, .slice none 0 0, .slice none 0 0, [], [], []⟩) := by
                refine ⟨h8, rfl, by rw [Al.get_put, if_pos rfl], by rw [get_abs, Hgs.out]; rfl, fun y => ?_, rfl, rfl, rfl, fun b hb => ?_, ?_, ?_⟩
                · show Al.put ((Al.put C.spots s _).map (fun x => (x.1, x.2.abs))) s y = _
                  rw [← Al.put_map, Al.put_put]
                  rfl
                · rcases hb with rfl | rfl | rfl | ⟨x, hx, hb⟩
                  · exact Or.inl (Or.inl rfl)
                  · exact Or.inl (Or.inr (Or.inl rfl))
                  · exact Or.inl (Or.inr (Or.inr (Or.inl rfl)))
                  · rcases Al.mem_put hx with rfl | ⟨hx', _⟩
                    · refine Or.inr ?_
                      rcases hb with rfl | rfl | hb | hb
                      · simp; omega
                      · simp; omega
                      · simp [Value.ownBlock] at hb
                      · simp [Value.ownBlock] at hb
                    · exact Or.inl (Or.inr (Or.inr (Or.inr ⟨x, hx', hb⟩)))
                · exact ((Turn.of_below hbx6.out).trans (Turn.of_below hb7)).trans (hT8.mono (fun b _ e => Or.inr (Or.inl e)))
                · exact (hT8.block w.heap.size (by omega) (fun e => by have h9 := Hh.out.spots.lt; omega)).trans ((hb7.block _ (by omega)).trans N6.out)
              have n8 := hS8.out.box
              have c8 : w8.cell? ⟨C.lb, 1, none⟩ = some (.map (some C.sb)) := cell_of_blk h8.blk 1
              have e08 : w8.cell? ⟨w.heap.size, 0, none⟩ = some (.int .i64 s.1) := cell_of_blk n8 0
              have e18 : w8.cell? ⟨w.heap.size, 1, none⟩ = some (.bool s.2.1) := cell_of_blk n8 1
              have e28 : w8.cell? ⟨w.heap.size, 2, none⟩ = some (.int .i64 s.2.2) := cell_of_blk n8 2
              clear hb7 h7 a7 b7 hm8 ht8 hfr hsbl hT8 hz7 hsp8 h8 n8
              have m1 : ∀ W : World, (Instr.makeMap 66 none).run Try.prog W = .ok (.map (some W.heap.size)) (W.alloc (.map #[] 0)) := fun W => by kernel_rfl
              go_region_held3 (fun w' => w'.cell? ⟨C.lb, 1, none⟩ = some (.map (some C.sb)) ∧ w'.cell? ⟨w.heap.size, 0, none⟩ = some (.int .i64 s.1) ∧ w'.cell? ⟨w.heap.size, 1, none⟩ = some (.bool s.2.1) ∧ w'.cell? ⟨w.heap.size, 2, none⟩ = some (.int .i64 s.2.2)) (first | exact ⟨c1', e0', e1', e2'⟩ | exact ⟨c8, e08, e18, e28⟩ | exact ⟨cell_kept1 _ c1', cell_kept1 _ e0', cell_kept1 _ e1', cell_kept1 _ e2'⟩ | exact ⟨cell_kept1 _ (cell_kept1 _ c1'), cell_kept1 _ (cell_kept1 _ e0'), cell_kept1 _ (cell_kept1 _ e1'), cell_kept1 _ (cell_kept1 _ e2')⟩ | go_keep) (fail)
              all_goals (go_wp2_with fail; go_meet; exact ⟨_, _, hS8⟩)
          case rest =>
          clear e0 e1 e2 c1 h5 hbx5 N5 hz5
          obtain ⟨C1, c1, hS⟩ := hcut
          rename World => wx
          have hwx : w.heap.size < wx.heap.size := (Array.getElem?_eq_some_iff.1 hS.out.box).1
          have hkeep : ∀ w', Below wx.heap.size wx w' → w'.cell? ⟨C.lb, 1, none⟩ = some (.map (some C1.sb)) ∧ w'.cell? ⟨w.heap.size, 0, none⟩ = some (.int .i64 s.1) ∧ w'.cell? ⟨w.heap.size, 1, none⟩ = some (.bool s.2.1) ∧ w'.cell? ⟨w.heap.size, 2, none⟩ = some (.int .i64 s.2.2) ∧ (Instr.lookup 59 (.map (some C1.sb)) (.agg #[.int .i64 s.1, .bool s.2.1, .int .i64 s.2.2]) false).run Try.prog w' = .ok (.pointer (some ⟨c1.p, 0, none⟩)) w' := by
            intro w' hb
            have h' := hS.out.below hb
            have c := cell_of_blk h'.ok.blk 1
            rw [h'.lb] at c
            have hl := h'.ok.spots.look hs
            rw [h'.get] at hl
            exact ⟨c, cell_of_blk h'.box 0, cell_of_blk h'.box 1, cell_of_blk h'.box 2, hl⟩
          have HK := Lib.hid hkeep
          have hst := hkeep wx (Below.refl _ _)
          obtain ⟨x1, x2, x3, x4, x5⟩ := hst
          have hj : ∀ (k : Nat) (W : World), W.cell? ⟨k, 0, none⟩ = some (.int .u8 hv) → W.cell? ⟨k, 1, none⟩ = some (.int .u8 m) → Calls Try.prog 28 #[.slice (some ⟨k, 0, none⟩) 2 2] W fun e w' => e = .returned (.int .u8 (joinI hv m)) ∧ W = w' := fun k W h0 h1 => join_any hv m k W h0 h1
          clear hkeep
          generalize hjj : joinI hv m = j at hj E
          have Hjj := Lib.hid hjj
          have fA : Hid (((wx.alloc (.cells #[.int .u8 hv, .int .u8 m] 22)).alloc (.cells #[.int .i64 who, .int .u8 j] 33)).drew.heap[wx.heap.size + 1]? = some (.cells #[.int .i64 who, .int .u8 j] 33 (0, 0)) ∧ Below wx.heap.size wx ((wx.alloc (.cells #[.int .u8 hv, .int .u8 m] 22)).alloc (.cells #[.int .i64 who, .int .u8 j] 33)).drew) := by
            refine ⟨?_, (((Below.refl _ wx).alloc (Nat.le_refl _) _).alloc (by simp) _).drew⟩
            have := heap_alloc_new (wx.alloc (.cells #[.int .u8 hv, .int .u8 m] 22)) (.cells #[.int .i64 who, .int .u8 j] 33)
            rw [World.size_alloc] at this
            exact this
          have fB : Hid (((wx.alloc (.cells #[.int .i64 who, .int .u8 j] 33)).alloc (.cells #[.int .u8 hv, .int .u8 m] 22)).drew.heap[wx.heap.size]? = some (.cells #[.int .i64 who, .int .u8 j] 33 (0, 0)) ∧ Below wx.heap.size wx ((wx.alloc (.cells #[.int .i64 who, .int .u8 j] 33)).alloc (.cells #[.int .u8 hv, .int .u8 m] 22)).drew) := by
            refine ⟨?_, (((Below.refl _ wx).alloc (Nat.le_refl _) _).alloc (by simp) _).drew⟩
            exact (heap_alloc_old (wx.alloc (.cells #[.int .i64 who, .int .u8 j] 33)) _ (by simp)).trans (heap_alloc_new wx (.cells #[.int .i64 who, .int .u8 j] 33))
          clear hjj
          go_upto_region 15 with fail
          go_cut [13, 14] from 69 to 80 (fun a b wy => ∃ B, a = .pointer (some ⟨c1.p, 0, none⟩) ∧ b = .pointer (some ⟨B, 0, none⟩) ∧ Hid (wy.heap[B]? = some (.cells #[.int .i64 who, .int .u8 j] 33 (0, 0))) ∧ Hid (wx.heap.size ≤ B) ∧ Hid (Below wx.heap.size wx wy))
          case first =>
            go_region_held3 (fun w' => w'.cell? ⟨C.lb, 1, none⟩ = some (.map (some C1.sb)) ∧ w'.cell? ⟨w.heap.size, 0, none⟩ = some (.int .i64 s.1) ∧ w'.cell? ⟨w.heap.size, 1, none⟩ = some (.bool s.2.1) ∧ w'.cell? ⟨w.heap.size, 2, none⟩ = some (.int .i64 s.2.2) ∧ (Instr.lookup 59 (.map (some C1.sb)) (.agg #[.int .i64 s.1, .bool s.2.1, .int .i64 s.2.2]) false).run Try.prog w' = .ok (.pointer (some ⟨c1.p, 0, none⟩)) w') (refine HK.out _ ?_ <;> (repeat (first | exact Below.refl _ _ | refine Below.drew ?_ | refine Below.alloc ?_ (by simp) _ | refine Below.alloc ?_ (by simp; omega) _ | refine Below.setCell ?_ (by simp) _))) ((go_at_call 28; refine Calls.mono (hj _ _ (by first | exact (World.cell?_alloc_at _ _ _ 0 (by simp)) | exact cell_kept1 _ (World.cell?_alloc_at _ _ _ 0 (by simp))) (by first | exact (World.cell?_alloc_at _ _ _ 1 (by simp)) | exact cell_kept1 _ (World.cell?_alloc_at _ _ _ 1 (by simp)))) ?_; rintro e w' ⟨rfl, rfl⟩))
            all_goals (go_wp2_with fail; go_meet; first | exact ⟨_, rfl, rfl, fA.out.1, Nat.le_succ _, fA.out.2⟩ | exact ⟨_, rfl, rfl, fB.out.1, Nat.le_refl _, fB.out.2⟩)
          case rest =>
          obtain ⟨B, rfl, rfl, hB, hBx, hbw⟩ := hcut
          rename World => wy
          clear x1 x2 x3 x4 x5 hj fA fB HK
          have hS' := Lib.hid (hS.out.below hbw.out)
          have hsp := hS'.out.ok.each _ (Al.mem_of_get hS'.out.get)
          simp only at hsp
          have hql : c1.up.length + c1.rest.length ≤ 1000000000 := by
            have h1 := hS'.out.abs
            have h2 : c1.abs.up.length + c1.abs.rest.length ≤ wtS C.abs := by
              rw [h1]
              cases hgx : Al.get C.abs.spots s with
              | none => simp [sp0]
              | some x =>
                have := queue_le (Al.mem_of_get hgx)
                have := qS_le C.abs
                simp only [Option.getD_some]
                have h3 := queue_le (Al.mem_of_get hgx)
                simp only [Sp.queue, List.length_append] at h3
                omega
            have h4 : c1.abs.up = c1.up := rfl
            have h5 : c1.abs.rest = c1.rest := rfl
            rw [h4, h5] at h2
            have := hg.wt
            omega
          have p1 : wy.cell? ⟨c1.p, 1, none⟩ = some c1.vu := cell_of_blk hsp.blk 1
          have p2 : wy.cell? ⟨c1.p, 2, none⟩ = some c1.vr := cell_of_blk hsp.blk 2
          have lu := hsp.up.len_run Try.underlying30
          have lr := hsp.rest.len_run Try.underlying30
          have hwr : IntKind.i64.wrap ((c1.up.length : Int) + (c1.rest.length : Int)) = (c1.up.length : Int) + (c1.rest.length : Int) := IntWalk.i64_in _ (by omega)
          have Hsp := Lib.hid hsp
          clear hsp
          have hfr : (((c1.up.length : Int) + (c1.rest.length : Int)) == 0) = decide (c1.abs.queue = []) := by
            rw [Bool.eq_iff_iff]
            simp only [beq_iff_eq, decide_eq_true_eq, Sp.queue, CSpot.abs, List.append_eq_nil_iff]
            constructor
            · intro e
              exact ⟨List.eq_nil_of_length_eq_zero (by omega), List.eq_nil_of_length_eq_zero (by omega)⟩
            · rintro ⟨e1, e2⟩
              rw [e1, e2]
              rfl
          generalize hfe : decide (c1.abs.queue = []) = fr at hfr
          have Hfe := Lib.hid hfe
          clear hfe
          go_wp2_with fail
          go_quiet (fail)
          have hS2 : Hid (Spotted C s w (wy.drewN nq) C1 c1) := hS'.out.below (bdn (Below.refl _ _) _)
          have hB2 : Hid ((wy.drewN nq).heap[B]? = some (.cells #[.int .i64 who, .int .u8 j] 33 (0, 0))) := hB.out
          have hBl : B < (wy.drewN nq).heap.size := (Array.getElem?_eq_some_iff.1 hB.out).1
          clear lu lr p1 p2 hwr hfr hS' Hsp hB hbw
          generalize wy.drewN nq = wz at hS2 hB2 hBl ⊢
          have b0 : wz.cell? ⟨B, 0, none⟩ = some (.int .i64 who) := cell_of_blk hB2.out 0
          have b1 : wz.cell? ⟨B, 1, none⟩ = some (.int .u8 j) := cell_of_blk hB2.out 1
          have hcan := can_any c1 who j wz (hS2.out.ok.each _ (Al.mem_of_get hS2.out.get))
          go_upto_region 18 with fail
          go_cut [103] from 103 to 113 (fun b wq => b = .bool (canG c1.holds who j && (fr || (hv != 0))) ∧ Hid (Below wz.heap.size wz wq))
          case first =>
            cases hcb : canG c1.holds who j with
            | false =>
              rw [hcb] at hcan
              have Hcb := Lib.hid hcb
              clear hcb
              go_wp2_with (go_at_call 29; refine hcan.mono ?_; rintro e w7 ⟨rfl, hb7⟩; have Hb7 := Lib.hid hb7; clear hb7)
              go_meet
              exact ⟨by rw [Hcb.out]; simp, Hb7⟩
            | true =>
              rw [hcb] at hcan
              have Hcb := Lib.hid hcb
              clear hcb
              cases fr with
              | true =>
                go_wp2_with (go_at_call 29; refine hcan.mono ?_; rintro e w7 ⟨rfl, hb7⟩; have Hb7 := Lib.hid hb7; clear hb7)
                go_meet
                exact ⟨by rw [Hcb.out]; simp, Hb7⟩
              | false =>
                go_wp2_with (go_at_call 29; refine hcan.mono ?_; rintro e w7 ⟨rfl, hb7⟩; have Hb7 := Lib.hid hb7; clear hb7)
                go_meet
                exact ⟨by rw [Hcb.out]; simp, Hb7⟩
          case rest =>
          obtain ⟨rfl, hbq⟩ := hcut
          rename World => wq
          have hS3 := Lib.hid (hS2.out.below hbq.out)
          have hB3 := Lib.hid ((hbq.out.block B hBl).trans hB2.out)
          have hBl3 : B < wq.heap.size := Nat.lt_of_lt_of_le hBl hbq.out.size
          clear hcan b0 b1 hS2 hB2 hBl hbq
          have b0 : wq.cell? ⟨B, 0, none⟩ = some (.int .i64 who) := cell_of_blk hB3.out 0
          have b1 : wq.cell? ⟨B, 1, none⟩ = some (.int .u8 j) := cell_of_blk hB3.out 1
          have hsp3 := Lib.hid (hS3.out.ok.each _ (Al.mem_of_get hS3.out.get))
          have p0 : wq.cell? ⟨c1.p, 0, none⟩ = some (.map (some c1.hb)) := cell_of_blk hsp3.out.blk 0
          have p1 : wq.cell? ⟨c1.p, 1, none⟩ = some c1.vu := cell_of_blk hsp3.out.blk 1
          have p2 : wq.cell? ⟨c1.p, 2, none⟩ = some c1.vr := cell_of_blk hsp3.out.blk 2
          have hjr : 1 ≤ j ∧ j ≤ 5 := by
            rw [← Hjj.out]
            exact ⟨joinI_pos (by unfold coversI; exact Hcv.out), (joinI_range _ _).2⟩
          have habs := hS3.out.abs
          have hE : Hid (askS C.abs who s m = (if canG c1.holds who j && (fr || (hv != 0)) then ({ C.abs with spots := Al.put C.abs.spots s ⟨Al.put c1.holds who j, c1.up, c1.rest⟩ }, true, 0) else if (hv != 0) = true then ({ C.abs with spots := Al.put C.abs.spots s ⟨c1.holds, c1.up ++ [(who, j)], c1.rest⟩, waits := Al.put C.abs.waits who s }, false, 0) else ({ C.abs with spots := Al.put C.abs.spots s ⟨c1.holds, c1.up, c1.rest ++ [(who, j)]⟩, waits := Al.put C.abs.waits who s }, false, 0))) := by
            show _ = _
            rw [E.out]
            unfold wishS
            rw [← habs, ← Hfe.out]
            rfl
          clear habs
          have hcf : ∀ b, c1.fp b → C1.fp b := fp_spot hS3.out.get
          have hcl : ∀ b, c1.fp b → b < wx.heap.size := fun b hb => hS.out.ok.lt b (fp_spot hS.out.get b hb)
          have hBf : ¬ c1.fp B := fun e => by have := hcl B e; have := hBx.out; omega
          have hwq : wx.heap.size ≤ wq.heap.size := by have := hBx.out; omega
          have Hcf := Lib.hid hcf
          have hfin : ∀ (w9 : World) (C9 : CLocks), LocksOk w9 C9 → C9.lb = C.lb → (∀ b, C9.fp b → C1.fp b ∨ wq.heap.size ≤ b) → Turn C1.fp wq w9 → Turned C w C9.abs w9 C9 := by
            intro w9 C9 hok hlb hfp ht
            have hzq := hS3.out.turn.size
            refine ⟨hok, hlb, rfl, fun b hb => ?_, hS3.out.turn.then ht (fun b hb e => ?_)⟩
            · rcases hfp b hb with e | e
              · rcases hS3.out.fp b e with e | e
                · exact Or.inl e
                · exact Or.inr (Nat.le_of_lt e)
              · exact Or.inr (by omega)
            · rcases hS3.out.fp b e with e | e
              · exact e
              · omega
          have Hfin := Lib.hid hfin
          clear hfin hcf hcl
          cases hgo : (canG c1.holds who j && (fr || (hv != 0))) with
          | true =>
            rw [hgo, if_pos rfl] at hE
            clear hgo
            obtain ⟨w8, hst, hm8, ht8⟩ := (show MapAt mtHolds wq.drew c1.hb c1.holds from hsp3.out.holds).store hw j
            simp only [mtHolds] at hst
            have hT8 : Turn (fun b => b = c1.hb) wq w8 := (Turn.of_below (Below.refl wq.heap.size wq).drew).trans (mapTurned_turn ht8)
            have h8 := hS3.out.ok.turned (c' := { c1 with holds := Al.put c1.holds who j }) hS3.out.get (hT8.mono (fun b _ e => Or.inr (Or.inl e))) (hsp3.out.held hT8 _ hm8 (fun x hx => by
              rcases Al.mem_put hx with rfl | ⟨hx', _⟩
              · exact hjr
              · exact hsp3.out.modes x hx')) rfl (fun _ h => h)
            have hT : Turned C w _ w8 _ := Hfin.out w8 _ h8 hS3.out.lb (fun b hb => Or.inl (fp_put (c' := { c1 with holds := Al.put c1.holds who j }) hS3.out.get (fun _ h => h) b hb)) (hT8.mono (fun b _ e => Hcf.out b (Or.inr (Or.inl e))))
            have HT := Lib.hid hT
            clear hm8 ht8 hT8 h8 hT
            go_upto_region 19 with fail
            refine wp_tail 7 (by kernel_rfl) (by kernel_rfl) ?_
            simp only [List.take_succ_cons, List.take_zero, List.drop_succ_cons, List.drop_zero]
            repeat still_step
            refine wpStill_nil ?_
            go_wp2
            go_ret2
            refine ⟨by rw [hE.out]; rfl, { C1 with spots := Al.put C1.spots s { c1 with holds := Al.put c1.holds who j } }, ?_⟩
            rw [hE.out]
            have hq := HT.out
            refine ⟨hq.ok, hq.lb, ?_, hq.fp, hq.turn⟩
            have h1 := hS3.out.put (⟨Al.put c1.holds who j, c1.up, c1.rest⟩ : Sp)
            show St.mk C1.most _ C1.waits = St.mk C.most _ C.waits
            rw [hS3.out.most, hS3.out.waits, ← Al.put_map]
            exact congrArg (fun x => St.mk C.most x C.waits) h1
          | false =>
            rw [hgo, if_neg (by simp)] at hE
            clear hgo p0
            have hbz := below_box (w := wq) (.cells #[.int .i64 who, .int .u8 j] 33)
            have b0' := (hbz.cell (p := ⟨B, 0, none⟩) hBl3).trans b0
            have b1' := (hbz.cell (p := ⟨B, 1, none⟩) hBl3).trans b1
            have hpl : c1.p < wq.heap.size := hsp3.out.lt _ (Or.inl rfl)
            have hBp : B ≠ c1.p := fun e => hBf (Or.inl e)
            have p1' := (hbz.cell (p := ⟨c1.p, 1, none⟩) hpl).trans p1
            have p2' := (hbz.cell (p := ⟨c1.p, 2, none⟩) hpl).trans p2
            have f1 := frozen_of_blk hsp3.out.blk 1
            have f2 := frozen_of_blk hsp3.out.blk 2
            have Hbz := Lib.hid hbz
            have hul : Hid (∀ b, c1.vu.ownBlock = some b → b < wq.heap.size) := fun b hb => (hsp3.out.up.lt b hb).2
            have hrl : Hid (∀ b, c1.vr.ownBlock = some b → b < wq.heap.size) := fun b hb => (hsp3.out.rest.lt b hb).2
            have hBu : some B ≠ c1.vu.ownBlock := fun e => hBf (Or.inr (Or.inr (Or.inl e.symm)))
            have hBr : some B ≠ c1.vr.ownBlock := fun e => hBf (Or.inr (Or.inr (Or.inr e.symm)))
            have hpu : some c1.p ≠ c1.vu.ownBlock := fun e => (hsp3.out.ne.2 _ (Or.inl e.symm)).1 rfl
            have hpr : some c1.p ≠ c1.vr.ownBlock := fun e => (hsp3.out.ne.2 _ (Or.inr e.symm)).1 rfl
            have hrowu : Hid (∀ ww : World, ww.heap = (wq.alloc (.cells #[.int .i64 who, .int .u8 j] 33)).heap → Row etHold ww 0 c1.vu c1.up) := fun ww he => (hsp3.out.up.of_block (fun b hb => heap_alloc_old wq _ (hul.out b hb))).of_block (fun b hb => by rw [he])
            have hrowr : Hid (∀ ww : World, ww.heap = (wq.alloc (.cells #[.int .i64 who, .int .u8 j] 33)).heap → Row etHold ww 0 c1.vr c1.rest) := fun ww he => (hsp3.out.rest.of_block (fun b hb => heap_alloc_old wq _ (hrl.out b hb))).of_block (fun b hb => by rw [he])
            have hblk' : (wq.alloc (.cells #[.int .i64 who, .int .u8 j] 33)).heap[c1.p]? = some (.cells #[.map (some c1.hb), c1.vu, c1.vr] 68 (0, 0)) := (heap_alloc_old wq _ hpl).trans hsp3.out.blk
            clear hbz
            cases hne : (hv != 0)
            case' true =>
              clear p2 p2' f2
              go_upto_region 22 with fail
              go_region_law ((refine step_append_row etHold (by rfl) _ _ 30 (by rfl) Try.underlying30 0 c1.vu c1.up (by rfl) (hrowu.out _ (by rfl)) ⟨wq.heap.size, 0, none⟩ 1 [(who, j)] 1 rfl (by rfl) (fun j' u hj => news_at (w := wq) [.int .i64 who, .int .u8 j] _ _ rfl j' u hj) (by show (c1.up.length + 1) * 16 ≤ _; omega) (by unfold maxLen; omega) (Nat.zero_le _) ?_; intro v6 w6 hr6 hg6 ho6; have hblk6 : w6.heap[c1.p]? = some (.cells #[.map (some c1.hb), c1.vu, c1.vr] 68 (0, 0)) := (hg6.block c1.p (by simp; omega) hpu).trans hblk'; have f6 := frozen_of_blk hblk6 1; have c6 : w6.cell? ⟨c1.p, 1, none⟩ = some c1.vu := cell_of_blk hblk6 1; obtain ⟨g6, cap6, rfl⟩ := ownsRow_shape hr6 (by simp)))
              all_goals (
                obtain ⟨hs7, ht7, hf7⟩ := hsp3.out.upped (h0 := (who, j)) hr6 ((Turn.of_below Hbz.out.drew).trans (Turn.of_grown hg6 (fun b e => e))) (ho6.elim Or.inl (fun e => Or.inr (fun b hb => by rw [e] at hb; cases hb; simp))) ⟨hw, hjr⟩
                have hok7 := hS3.out.ok.turnedNew hS3.out.get ht7 hs7 rfl hf7
                rw [hne] at hE
                have HAB : Hid (askS C.abs who s m = ({ C.abs with spots := Al.put C.abs.spots s ({ c1 with vu := .slice (some ⟨g6, 0, none⟩) (c1.up ++ [(who, j)]).length cap6, up := c1.up ++ [(who, j)] } : CSpot).abs, waits := Al.put C.abs.waits who s }, false, 0)) := hE.out
                have HOK7 := Lib.hid hok7
                have HT7 := Lib.hid ht7
                have HF7 := Lib.hid hf7
                clear hs7 ht7 hf7 hok7 hr6 hg6 ho6 hblk6 f6 c6 hE
                simp only [List.length_append, List.length_singleton] at HAB HOK7 HT7 HF7
                generalize hc2 : ({ c1 with vu := .slice (some ⟨g6, 0, none⟩) (c1.up.length + 1) cap6, up := c1.up ++ [(who, j)] } : CSpot) = c2 at HAB HOK7 HF7
                generalize w6.setCell ⟨c1.p, 1, none⟩ (.slice (some ⟨g6, 0, none⟩) (c1.up.length + 1) cap6) = w7 at HOK7 HT7 ⊢
                clear hc2)
            case' false =>
              clear p1 p1' f1
              go_upto_region 17 with fail
              go_region_law ((refine step_append_row etHold (by rfl) _ _ 30 (by rfl) Try.underlying30 0 c1.vr c1.rest (by rfl) (hrowr.out _ (by rfl)) ⟨wq.heap.size, 0, none⟩ 1 [(who, j)] 1 rfl (by rfl) (fun j' u hj => news_at (w := wq) [.int .i64 who, .int .u8 j] _ _ rfl j' u hj) (by show (c1.rest.length + 1) * 16 ≤ _; omega) (by unfold maxLen; omega) (Nat.zero_le _) ?_; intro v6 w6 hr6 hg6 ho6; have hblk6 : w6.heap[c1.p]? = some (.cells #[.map (some c1.hb), c1.vu, c1.vr] 68 (0, 0)) := (hg6.block c1.p (by simp; omega) hpr).trans hblk'; have f6 := frozen_of_blk hblk6 2; have c6 : w6.cell? ⟨c1.p, 2, none⟩ = some c1.vr := cell_of_blk hblk6 2; obtain ⟨g6, cap6, rfl⟩ := ownsRow_shape hr6 (by simp)))
              all_goals (
                obtain ⟨hs7, ht7, hf7⟩ := hsp3.out.rested (h0 := (who, j)) hr6 ((Turn.of_below Hbz.out.drew).trans (Turn.of_grown hg6 (fun b e => e))) (ho6.elim Or.inl (fun e => Or.inr (fun b hb => by rw [e] at hb; cases hb; simp))) ⟨hw, hjr⟩
                have hok7 := hS3.out.ok.turnedNew hS3.out.get ht7 hs7 rfl hf7
                rw [hne] at hE
                have HAB : Hid (askS C.abs who s m = ({ C.abs with spots := Al.put C.abs.spots s ({ c1 with vr := .slice (some ⟨g6, 0, none⟩) (c1.rest ++ [(who, j)]).length cap6, rest := c1.rest ++ [(who, j)] } : CSpot).abs, waits := Al.put C.abs.waits who s }, false, 0)) := hE.out
                have HOK7 := Lib.hid hok7
                have HT7 := Lib.hid ht7
                have HF7 := Lib.hid hf7
                clear hs7 ht7 hf7 hok7 hr6 hg6 ho6 hblk6 f6 c6 hE
                simp only [List.length_append, List.length_singleton] at HAB HOK7 HT7 HF7
                generalize hc2 : ({ c1 with vr := .slice (some ⟨g6, 0, none⟩) (c1.rest.length + 1) cap6, rest := c1.rest ++ [(who, j)] } : CSpot) = c2 at HAB HOK7 HF7
                generalize w6.setCell ⟨c1.p, 2, none⟩ (.slice (some ⟨g6, 0, none⟩) (c1.rest.length + 1) cap6) = w7 at HOK7 HT7 ⊢
                clear hc2)
            all_goals
              have hCw : C1.waits = C.waits := hS3.out.waits
              have hwn : w.heap.size < wq.heap.size := by have := hS3.out.box; exact (Array.getElem?_eq_some_iff.1 this).1
              have hwf : ¬ c1.fp w.heap.size := fun e => by
                rcases hS3.out.fp _ (Hcf.out _ e) with e | e
                · have := Hh.out.lt _ e; omega
                · omega
              have n7 := (HT7.out.block _ hwn hwf).trans hS3.out.box
              have d0 : w7.cell? ⟨w.heap.size, 0, none⟩ = some (.int .i64 s.1) := cell_of_blk n7 0
              have d1 : w7.cell? ⟨w.heap.size, 1, none⟩ = some (.bool s.2.1) := cell_of_blk n7 1
              have d2 : w7.cell? ⟨w.heap.size, 2, none⟩ = some (.int .i64 s.2.2) := cell_of_blk n7 2
              have k2 : w7.cell? ⟨C.lb, 2, none⟩ = some (.map (some C1.wb)) := by
                have := cell_of_blk HOK7.out.blk 2
                rwa [show ({ C1 with spots := Al.put C1.spots s c2 } : CLocks).lb = C.lb from hS3.out.lb] at this
              obtain ⟨w9, hst, hm9, ht9⟩ := (show MapAt mtWaits w7.drew C1.wb C1.waits from HOK7.out.waits).store hw s
              simp only [mtWaits, spotV] at hst
              have hT9 : Turn (fun b => b = C1.wb) w7 w9 := (Turn.of_below (Below.refl w7.heap.size w7).drew).trans (mapTurned_turn ht9)
              have hok9 := HOK7.out.waited hT9 _ hm9 (fun x hx => by
                rcases Al.mem_put hx with rfl | ⟨hx', _⟩
                · exact hs
                · exact HOK7.out.waitsOk x hx')
              have hT : Turned C w _ w9 _ := Hfin.out w9 _ hok9 hS3.out.lb (fun b hb => by
                have := fp_putNew (n := wq.heap.size) hS3.out.get HF7.out b hb
                exact this) ((HT7.out.mono (fun b _ e => Hcf.out b e)).trans (hT9.mono (fun b _ e => Or.inr (Or.inr (Or.inl e)))))
              have HT := Lib.hid hT
              clear hm9 ht9 hT9 hok9 hT n7
              go_upto_region 23 with fail
              refine wp_tail 6 (by kernel_rfl) (by kernel_rfl) ?_
              simp only [List.take_succ_cons, List.take_zero, List.drop_succ_cons, List.drop_zero]
              repeat still_step
              refine wpStill_nil ?_
              go_wp2
              go_ret2
              refine ⟨by rw [HAB.out]; rfl, { C1 with spots := Al.put C1.spots s c2, waits := Al.put C1.waits who s }, ?_⟩
              rw [HAB.out]
              have hq := HT.out
              refine ⟨hq.ok, hq.lb, ?_, hq.fp, hq.turn⟩
              have h1 := hS3.out.put c2.abs
              show St.mk C1.most _ (Al.put C1.waits who s) = St.mk C.most _ (Al.put C.waits who s)
              rw [hS3.out.most, hS3.out.waits, ← Al.put_map]
              exact congrArg (fun x => St.mk C.most x (Al.put C.waits who s)) h1
end Go.Proofs.Ytmolmeamnmefeaa
