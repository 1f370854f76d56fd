/- Waking: the walk. -/
import Derived.Test.YtmolmeamnmefeaaLock19
namespace Go.Proofs.Ytmolmeamnmefeaa
open Go.RowKit Go.Shelf Go.Proofs Go.Sort
attribute [local go_sem] Oper.semAt_some

set_option maxRecDepth 100000 in
set_option maxHeartbeats 3200000 in
theorem woken_any (C : CLocks) (w : World) (h : LocksOk w C) (v : Value) (L : List Spot) (base : Nat) (hv : Row etSpot w base v L) (hsep : ∀ b, v.ownBlock = some b → ¬ C.fp b) (hso : ∀ s ∈ L, spotOk s) (hwt : wt C ≤ 1099511627776) :
    Calls Try.prog 34 #[.pointer (some ⟨C.lb, 0, none⟩), v] w fun e w' => ∃ (C' : CLocks) (v' : Value), e = .returned v' ∧ LocksOk w' C' ∧ C'.lb = C.lb ∧ C'.abs = (wokenS C.abs L).1 ∧ (∀ b, C'.fp b → C.fp b) ∧ Turn C.fp w w' ∧ Row etInt w' w.heap.size v' (wokenS C.abs L).2 := by
  have lv := hv.len_run Try.underlying46
  refine (callsIn_wide (n := 5)).1 ?_
  refine callsIn_of_wp_marks Try.func34 rfl trivial ?_ rfl
  refine wpIn_wide.2 ?_
  simp only [Try.ntmps34, List.size_toArray, List.length_cons, List.length_nil, Nat.reduceAdd, Nat.reduceSub, Array.replicate_succ, Array.replicate_zero, List.push_toArray, List.append_toArray, List.nil_append, List.cons_append]
  go_wp2_with fail
  refine wp_loop (fun a wr => ∃ (k : Nat) (ds : List Deferred) (x7 x8 x13 x14 x15 x16 x17 x18 x19 x20 x21 x22 x23 x24 x25 x36 x37 x38 x39 x40 x41 x42 x43 x44 x45 x46 x47 x48 x49 x50 x51 x52 x53 : Value), a = { tmps := #[.pointer (some ⟨C.lb, 0, none⟩), v, .pointer (some ⟨w.heap.size, 0, none⟩), undef, .slice none 0 0, .pointer (some ⟨w.heap.size + 1, 0, none⟩), undef, x7, x8, undef, v, .int .i64 L.length, .int .i64 k, x13, x14, x15, x16, x17, x18, x19, x20, x21, x22, x23, x24, x25, undef, undef, undef, undef, undef, undef, undef, undef, undef, undef, x36, x37, x38, x39, x40, x41, x42, x43, x44, x45, x46, x47, x48, x49, x50, x51, x52, x53, undef], defers := ds } ∧ k ≤ L.length ∧ Marks (w.heap.size + 2) wr ds ∧ ∃ C' v', Woke C L w k wr C' v') (fun a _ => L.length - (intOf (a.tmps.getD 12 undef)).toNat) ?_ ?_
  · refine ⟨0, [], _, _, _, _, _, _, _, _, _, _, _, _, _, _, _, _, _, _, _, _, _, _, _, _, _, _, _, _, _, _, _, _, _, rfl, Nat.zero_le _, ⟨[], by simp, by simp, rfl⟩, C, .slice none 0 0, ?_⟩
    have hb := ((Below.refl _ w).alloc (Nat.le_refl _) (.cells #[.pointer (some ⟨C.lb, 0, none⟩)] 23)).alloc (by simp) (.cells #[.slice none 0 0] 35)
    have n2 := heap_alloc_new (w.alloc (.cells #[.pointer (some ⟨C.lb, 0, none⟩)] 23)) (.cells #[.slice none 0 0] 35)
    rw [World.size_alloc] at n2
    exact ⟨h.below hb, rfl, rfl, fun _ h => h, Lib.cell?_alloc_some _ (cell_new w _ _ 0), n2, Row.nil _ _ _, Turn.of_below hb, by simp⟩
  · rintro a wr ⟨k, ds, x7, x8, x13, x14, x15, x16, x17, x18, x19, x20, x21, x22, x23, x24, x25, x36, x37, x38, x39, x40, x41, x42, x43, x44, x45, x46, x47, x48, x49, x50, x51, x52, x53, rfl, hk, hm, C', v', hw⟩
    by_cases hlt : k < L.length
    · obtain ⟨g, cap, rfl⟩ := ownsRow_shape hv (by omega)
      have hgl := (hv.lt g rfl).2
      have hgn := hsep g rfl
      have k0 : wr.cell? ⟨g, k * 3, none⟩ = some (.int .i64 L[k].1) := (hw.turn.cell (p := ⟨g, k * 3, none⟩) hgl hgn).trans (hv.at k 0 hlt (by decide))
      have k1 : wr.cell? ⟨g, k * 3 + 1, none⟩ = some (.bool L[k].2.1) := (hw.turn.cell (p := ⟨g, k * 3 + 1, none⟩) hgl hgn).trans (hv.at k 1 hlt (by decide))
      have k2 : wr.cell? ⟨g, k * 3 + 2, none⟩ = some (.int .i64 L[k].2.2) := (hw.turn.cell (p := ⟨g, k * 3 + 2, none⟩) hgl hgn).trans (hv.at k 2 hlt (by decide))
      have hsk := hso _ (List.getElem_mem hlt)
      have hmax := hv.len_le
      unfold maxLen at hmax
      have htk := Lib.hid (List.take_succ_eq_append_getElem hlt)
      generalize L[k] = s at k0 k1 k2 hsk htk
      have hbx := below_box (w := wr) (.cells #[.int .i64 s.1, .bool s.2.1, .int .i64 s.2.2] 26)
      have nS := heap_alloc_new wr (.cells #[.int .i64 s.1, .bool s.2.1, .int .i64 s.2.2] 26)
      have Hw := Lib.hid hw
      clear hw
      go_upto_region 5 with fail
      have Hrw := Lib.hid (fun b hb => (Hw.out.row.lt b hb).2)
      have Hw2 := Lib.hid (Hw.out.below hbx)
      have Hm2 := Lib.hid (hm.below hbx)
      have hz2 : (wr.alloc (.cells #[.int .i64 s.1, .bool s.2.1, .int .i64 s.2.2] 26)).heap.size = wr.heap.size + 1 := by simp
      have hzw := Hw.out.size
      clear hbx k0 k1 k2 hm Hw
      generalize wr.alloc (.cells #[.int .i64 s.1, .bool s.2.1, .int .i64 s.2.2] 26) = w2 at nS hz2 Hw2 Hm2 ⊢
      have s0 : w2.cell? ⟨wr.heap.size, 0, none⟩ = some (.int .i64 s.1) := cell_of_blk nS 0
      have s1 : w2.cell? ⟨wr.heap.size, 1, none⟩ = some (.bool s.2.1) := cell_of_blk nS 1
      have s2 : w2.cell? ⟨wr.heap.size, 2, none⟩ = some (.int .i64 s.2.2) := cell_of_blk nS 2
      have bq := Hw2.out.box
      have c1 : w2.cell? ⟨C.lb, 1, none⟩ = some (.map (some C'.sb)) := by have := cell_of_blk Hw2.out.ok.blk 1; rwa [Hw2.out.lb] at this
      cases hgs : Al.get C'.spots s with
      | none =>
        have hl := fun n => (show MapAt mtSpots (w2.drewN n) C'.sb C'.spots from Hw2.out.ok.spots).look hsk
        rw [hgs] at hl
        simp only [mtSpots, spotV] at hl
        have hwk : wokenS C.abs (L.take (k + 1)) = wokenS C.abs (L.take k) := by
          rw [htk.out, wokenS_snoc]
          have h1 : wakeS (wokenS C.abs (L.take k)).1 s = ((wokenS C.abs (L.take k)).1, []) := by
            unfold wakeS
            rw [← Hw2.out.abs, get_abs, hgs]
            rfl
          rw [h1]
          simp
        have Hwk := Lib.hid hwk
        clear hwk hgs
        go_quiet (fail)
        go_wp2
        have hk1 : ((k : Int) + 1) = ((k + 1 : Nat) : Int) := by omega
        rw [hk1]
        have hw' := (Hw2.out.below (w2 := w2) (Below.refl _ _))
        refine ⟨⟨k + 1, ds, _, _, _, _, _, _, _, _, _, _, _, _, _, _, _, _, _, _, _, _, _, _, _, _, _, _, _, _, _, _, _, _, _, rfl, by omega, Hm2.out, C', v', ⟨hw'.ok.of_blocks (fun _ _ => rfl), hw'.lb, by rw [Hwk.out]; exact hw'.abs, hw'.fp, hw'.box, hw'.out, by rw [Hwk.out]; exact hw'.row.of_block (fun _ _ => rfl), hw'.turn.trans ⟨rfl, rfl, rfl, Nat.le_refl _, fun _ _ _ => rfl⟩, hw'.size⟩⟩, ?_⟩
        simp [intOf]
        omega
      | some c =>
        have hl := fun n => (show MapAt mtSpots (w2.drewN n) C'.sb C'.spots from Hw2.out.ok.spots).look hsk
        rw [hgs] at hl
        simp only [mtSpots, spotV] at hl
        have Hgs := Lib.hid hgs
        clear hgs
        go_quiet (fail)
        go_wp2_with (go_at_call 58; refine (regrant_any c.p _).mono ?_; rintro e w3 ⟨rfl, rfl⟩)
        have hsp := Hw2.out.ok.each _ (Al.mem_of_get Hgs.out)
        simp only at hsp
        have hb3 : Below w2.heap.size w2 ((w2.drewN nq).alloc (.cells #[.pointer (some ⟨c.p, 0, none⟩)] 65)) := (bdn (Below.refl w2.heap.size w2) nq).alloc (Nat.le_refl _) _
        have n3 := heap_alloc_new (w2.drewN nq) (.cells #[.pointer (some ⟨c.p, 0, none⟩)] 65)
        have hz3 : ((w2.drewN nq).alloc (.cells #[.pointer (some ⟨c.p, 0, none⟩)] 65)).heap.size = wr.heap.size + 2 := by simp [hz2]
        have n3' : ((w2.drewN nq).alloc (.cells #[.pointer (some ⟨c.p, 0, none⟩)] 65)).heap[wr.heap.size + 1]? = some (.cells #[.pointer (some ⟨c.p, 0, none⟩)] 65) := by
          have e : (w2.drewN nq).heap.size = wr.heap.size + 1 := hz2
          rw [e] at n3
          exact n3
        generalize (w2.drewN nq).alloc (.cells #[.pointer (some ⟨c.p, 0, none⟩)] 65) = w3 at hb3 n3' hz3 ⊢
        clear n3
        have Hw3 := Lib.hid (Hw2.out.below hb3)
        have Hm3 := Lib.hid (Hm2.out.below hb3)
        have hcf : ∀ b, c.fp b → C.fp b := fun b hb => Hw3.out.fp b (fp_spot Hgs.out b hb)
        have hclt : ∀ b, c.fp b → b < w.heap.size := fun b hb => h.lt b (hcf b hb)
        have hsp3 := Lib.hid (hsp.below hb3)
        have hbdc : Hid (c.up.length + c.rest.length ≤ 1099511627776) := by
          show _ ≤ _
          have hwl := woken_len (L.take k) (S := C.abs) (by
            have := h.spots.nodup
            simpa [CLocks.abs, List.map_map, Function.comp_def] using this)
          have hql := qS_le C.abs
          rw [← wt_abs] at hql
          rw [← Hw2.out.abs] at hwl
          have hg' : Al.get C'.abs.spots s = some c.abs := by rw [get_abs, Hgs.out]; rfl
          have := queue_le (Al.mem_of_get hg')
          have e : c.abs.queue.length = c.up.length + c.rest.length := by simp [Sp.queue, CSpot.abs]
          omega
        refine range_grants (m := 3) c (wr.heap.size + 1) rfl rfl hsp3.out ?hbd (cell_of_blk n3' 0) (fun e => by have := hclt _ e; omega) (by omega) (Inner C' c (w.heap.size + 1) v' (wokenS C.abs (L.take k)).2 w3) ?hI ?h0 ?a1 ?hassign ?hbody ?hdone
        case hassign =>
          intro l x W K hK
          gi_wp2
          exact hK
        case hI =>
          intro pre A B hp _ ht
          exact hp.turned ht (by have := h.waits.lt; have := Hw3.out.ok.waits.lt; omega) (Hw3.out.ok.own _ (Al.mem_of_get Hgs.out)).2.2 (by omega) (fun b hb => by have := hclt b hb; omega) (fun b hb => by have := (Hw2.out.row.lt b hb).2; omega)
        case h0 =>
          exact ⟨Hw3.out.ok.waits, ⟨v', Hw3.out.out, by rw [List.append_nil]; exact Hw3.out.row, Or.inl rfl⟩, Turn.refl _ _⟩
        case hbody =>
          intro l pre x W hpre hp hx hz
          have hwbl : C'.wb < w.heap.size := h.lt _ (Hw3.out.fp _ (Or.inr (Or.inr (Or.inl rfl))))
          have hlbl : C.lb < w.heap.size := h.lt _ (Or.inl rfl)
          have hown := Hw3.out.ok.own _ (Al.mem_of_get Hgs.out)
          have hrl : ∀ b, v'.ownBlock = some b → w.heap.size + 2 ≤ b := fun b hb => (Hw2.out.row.lt b hb).1
          have t0 : W.cell? ⟨w.heap.size, 0, none⟩ = some (.pointer (some ⟨C.lb, 0, none⟩)) := (hp.turn.cell (p := ⟨w.heap.size, 0, none⟩) (by simp; omega) (fun e => by
            rcases e with e | e | e | e | e | e
            · have := hclt _ e; simp at this
            · simp at e; omega
            · simp at e
            · have := hrl _ e; simp at this; omega
            · simp at e; omega
            · simp at e; omega)).trans Hw3.out.box
          have t1 : W.cell? ⟨C.lb, 2, none⟩ = some (.map (some C'.wb)) := (hp.turn.cell (p := ⟨C.lb, 2, none⟩) (by simp; omega) (fun e => by
            rcases e with e | e | e | e | e | e
            · exact hown.1 (by rw [Hw3.out.lb]; exact e)
            · exact Hw3.out.ok.lb_ne.2 (by rw [Hw3.out.lb]; exact e)
            · simp at e; omega
            · have := hrl _ e; simp at this; omega
            · simp at e; omega
            · simp at e; omega)).trans (by have := cell_of_blk Hw3.out.ok.blk 2; rwa [Hw3.out.lb] at this)
          obtain ⟨v1, o1, o2, o3⟩ := hp.out
          have hn := Hw3.out.ok.spots.nodup
          refine woken_round l C.lb C'.wb (w.heap.size + 1) w.heap.size (pre.foldl Al.del C'.waits) v1 ((wokenS C.abs (L.take k)).2 ++ pre) x W _ _ _ _ _ _ _ _ _ _ _ _ _ _ _ _ _ _ _ _ _ _ _ _ _ _ _ _ _ _ _ _ _ _ _ _ _ _ _ _ _ _ _ _ _ _ _ _ _ _ _ _ _ t0 t1 hp.waits hx o1 o2 ?_ ?_
          · have hwl := woken_len (L.take (k + 1)) (S := C.abs) (by
              have := h.spots.nodup
              simpa [CLocks.abs, List.map_map, Function.comp_def] using this)
            have hql := qS_le C.abs
            rw [← wt_abs] at hql
            rw [htk.out, wokenS_snoc] at hwl
            have hwk : (wakeS (wokenS C.abs (L.take k)).1 s).2 = (grantS c.abs).2 := by
              unfold wakeS
              rw [← Hw2.out.abs, get_abs, Hgs.out]
              rfl
            simp only [hwk] at hwl
            obtain ⟨t, ht⟩ := hpre
            rw [ht] at hwl
            simp only [List.length_append, List.length_cons] at hwl ⊢
            omega
          · intro W' v2 hT hm ho hr hb
            have hzW := hp.turn.size
            have hv0 : ∀ b, v'.ownBlock = some b → w.heap.size + 2 ≤ b ∧ b < wr.heap.size + 1 := fun b hb => by have := Hw2.out.row.lt b hb; omega
            have hown1 : ∀ b, v1.ownBlock = some b → v'.ownBlock = some b ∨ w3.heap.size + 2 ≤ b := by
              intro b hb
              rcases o3 with e | e
              · exact Or.inl (e ▸ hb)
              · exact Or.inr (e b hb)
            refine ⟨⟨by rw [List.foldl_append]; exact hm, ⟨v2, ho, by rw [← List.append_assoc]; exact hr, ?_⟩, hp.turn.then hT (fun b hb e => ?_)⟩, hT.mono (fun b _ e => ?_)⟩
            · rcases hb with e | e
              · rw [e]
                exact o3
              · exact Or.inr (fun b hb => by have := e b hb; omega)
            · rcases e with e | e | e
              · exact Or.inr (Or.inl e)
              · exact Or.inr (Or.inr (Or.inl e))
              · rcases hown1 b e with e | e
                · exact Or.inr (Or.inr (Or.inr (Or.inl e)))
                · omega
            · have hlo : b = C'.wb ∨ b = w.heap.size + 1 ∨ (w.heap.size + 2 ≤ b ∧ b < wr.heap.size + 1) ∨ w3.heap.size + 2 ≤ b := by
                rcases e with e | e | e
                · exact Or.inl e
                · exact Or.inr (Or.inl e)
                · rcases hown1 b e with e | e
                  · exact Or.inr (Or.inr (Or.inl (hv0 b e)))
                  · exact Or.inr (Or.inr (Or.inr e))
              intro h'
              rcases h' with h' | h' | h' | h'
              · have := hclt b h'
                rcases hlo with e | e | e | e
                · exact hown.2.2 (e ▸ h')
                · omega
                · omega
                · omega
              · rcases hlo with e | e | e | e <;> omega
              · rcases hlo with e | e | e | e <;> omega
              · rcases hlo with e | e | e | e <;> omega
        case hbd => exact hbdc.out
        case hdone =>
          intro W c' hc' ha hp hf hI hK hzW
          have hok := Hw3.out.ok.both (F := fun b => b = w.heap.size + 1 ∨ v'.ownBlock = some b ∨ b = w3.heap.size ∨ b = w3.heap.size + 1) Hgs.out hI.turn (fun b hb e => by
            have h1 := h.lt b (Hw3.out.fp b hb)
            rcases e with e | e | e | e
            · omega
            · have := (Hw2.out.row.lt b e).1; omega
            · omega
            · omega) hc' hp hf hI.waits (fun x hx => Hw3.out.ok.waitsOk x (foldl_del_mem _ _ x hx))
          have hfp : ∀ b, ({ C' with spots := Al.put C'.spots s c', waits := (grantS c.abs).2.foldl Al.del C'.waits } : CLocks).fp b → C.fp b := fun b hb => Hw3.out.fp b (fp_put Hgs.out hf b hb)
          have hwk : wokenS C.abs (L.take (k + 1)) = ({ C'.abs with spots := if c'.holds = [] ∧ c'.up ++ c'.rest = [] then Al.del C'.abs.spots s else Al.put C'.abs.spots s c'.abs, waits := (grantS c.abs).2.foldl Al.del C'.waits }, (wokenS C.abs (L.take k)).2 ++ (grantS c.abs).2) := by
            rw [htk.out, wokenS_snoc, ← Hw2.out.abs]
            unfold wakeS
            rw [get_abs, Hgs.out]
            simp only [Option.map_some]
            rw [← ha]
            rfl
          have hq := queue_any c' W hc' (by
            have h1 := grantS_len c.abs
            rw [← ha] at h1
            have h2 : c'.abs.queue.length = c'.up.length + c'.rest.length := by simp [Sp.queue, CSpot.abs]
            have h3 : c.abs.queue.length = c.up.length + c.rest.length := by simp [Sp.queue, CSpot.abs]
            have := hbdc.out
            omega)
          rw [hp] at hq
          have Hok := Lib.hid hok
          have Hfp := Lib.hid hfp
          have Hwk := Lib.hid hwk
          have HI := Lib.hid hI
          have HK := Lib.hid hK
          have Hq := Lib.hid hq
          have Hc' := Lib.hid hc'
          have d0 : W.cell? ⟨c.p, 0, none⟩ = some (.map (some c'.hb)) := by have := cell_of_blk hc'.blk 0; rwa [hp] at this
          have hml := fun ty => hc'.holds.len ty
          have Hp := Lib.hid hp
          have hlt' := Lib.hid (h.lt)
          have Hcf := Lib.hid hcf
          have hk1 : ((k : Int) + 1) = ((k + 1 : Nat) : Int) := by omega
          have Hk1 := Lib.hid hk1
          have hnS : ∀ w5, Turn C.fp W w5 → w5.heap[wr.heap.size]? = some (.cells #[.int .i64 s.1, .bool s.2.1, .int .i64 s.2.2] 26) := by
            intro w5 ht5
            refine (ht5.block _ (by omega) (fun e => by have := h.lt _ e; omega)).trans ((hI.turn.block _ (by omega) (fun e => ?_)).trans ((hb3.block _ (by omega)).trans nS))
            rcases e with e | e | e | e | e | e
            · have := hclt _ e; omega
            · have := h.lt _ (Hw3.out.fp _ (Or.inr (Or.inr (Or.inl rfl)))); omega
            · omega
            · have := Hrw.out _ e; omega
            · omega
            · omega
          have HnS := Lib.hid hnS
          have hq5 : ∀ w5, Turn C.fp W w5 → w5.cell? ⟨w.heap.size, 0, none⟩ = some (.pointer (some ⟨C.lb, 0, none⟩)) := by
            intro w5 ht5
            refine (ht5.cell (p := ⟨w.heap.size, 0, none⟩) (by simp; omega) (fun e => by have := h.lt _ e; simp at this)).trans ((hI.turn.cell (p := ⟨w.heap.size, 0, none⟩) (by simp; omega) (fun e => ?_)).trans Hw3.out.box)
            rcases e with e | e | e | e | e | e
            · have := hclt _ e; simp at this
            · have := h.lt _ (Hw3.out.fp _ (Or.inr (Or.inr (Or.inl rfl)))); simp at e; omega
            · simp at e
            · have := (Hw3.out.row.lt _ e).1; simp at this; omega
            · simp at e; omega
            · simp at e; omega
          have Hq5 := Lib.hid hq5
          clear hnS hq5
          by_cases he : c'.holds = []
          · have hml0 : ∀ ty, (Builtin.len_ #[66] ty #[.map (some c'.hb)]).run Try.prog W = .ok (.int .i64 0) W := by
              intro ty
              have := hml ty
              rw [he] at this
              exact this
            have He := Lib.hid he
            by_cases hq0 : c'.up ++ c'.rest = []
            · have Hq0 := Lib.hid hq0
              clear hml he hk1 hok hfp hwk hI hK hq hc' hp hf ha hcf hclt hzw hz2 hz3 nS s0 s1 s2 bq c1 hl hsp hb3 n3' hq0
              go_wp2_with (go_at_call 30; refine Hq.out.mono ?_; rintro e w5 ⟨vq, rfl, hvq, hbq⟩; have lvq := hvq.len_run Try.underlying30; rw [Hq0.out] at lvq; have Hbq := Lib.hid hbq; clear hvq hbq)
              have n5 : w5.heap[wr.heap.size]? = some (.cells #[.int .i64 s.1, .bool s.2.1, .int .i64 s.2.2] 26) := HnS.out w5 (Turn.of_below Hbq.out)
              have q5 : w5.cell? ⟨w.heap.size, 0, none⟩ = some (.pointer (some ⟨C.lb, 0, none⟩)) := Hq5.out w5 (Turn.of_below Hbq.out)
              have hok5 := Hok.out.below Hbq.out
              have c5 : w5.cell? ⟨C.lb, 1, none⟩ = some (.map (some C'.sb)) := by
                have := cell_of_blk hok5.blk 1
                rwa [show ({ C' with spots := Al.put C'.spots s c', waits := (grantS c.abs).2.foldl Al.del C'.waits } : CLocks).lb = C.lb from Hw3.out.lb] at this
              have e0 : w5.cell? ⟨wr.heap.size, 0, none⟩ = some (.int .i64 s.1) := cell_of_blk n5 0
              have e1 : w5.cell? ⟨wr.heap.size, 1, none⟩ = some (.bool s.2.1) := cell_of_blk n5 1
              have e2 : w5.cell? ⟨wr.heap.size, 2, none⟩ = some (.int .i64 s.2.2) := cell_of_blk n5 2
              obtain ⟨w6, hrun, hm6, ht6⟩ := (show MapAt mtSpots w5.drew C'.sb (Al.put C'.spots s c') from hok5.spots).drop hsk 0
              simp only [mtSpots, spotV] at hrun
              have Hok5 := Lib.hid hok5
              have Hm6 := Lib.hid hm6
              have Ht6 := Lib.hid ht6
              clear n5 hok5 hm6 ht6 hml0 lvq d0
              refine wp_tail 5 (by kernel_rfl) (by kernel_rfl) ?_
              simp only [List.take_succ_cons, List.take_zero, List.drop_succ_cons, List.drop_zero]
              repeat still_step
              refine wpStill_nil ?_
              go_wp2_with fail
              rw [Hk1.out]
              have hst := Hok5.out.struck (w' := w6) ((Turn.of_below (Below.refl w5.heap.size w5).drew).trans (mapTurned_turn Ht6.out)) s Hm6.out
              have hT6 : Turn C.fp w5 w6 := (Turn.of_below (Below.refl w5.heap.size w5).drew).trans ((mapTurned_turn Ht6.out).mono (fun b _ e => Hw3.out.fp b (Or.inr (Or.inl e))))
              have hT : Turn C.fp W w6 := (Turn.of_below Hbq.out).trans hT6
              refine ⟨⟨k + 1, _, _, _, _, _, _, _, _, _, _, _, _, _, _, _, _, _, _, _, _, _, _, _, _, _, _, _, _, _, _, _, _, _, _, rfl, by omega, Marks.next Hw3.out Hm3.out hlt'.out Hcf.out HI.out HK.out hT, _, Woke.next Hw3.out hlt'.out Hcf.out HI.out hT hst Hw3.out.lb ?_ (fun b hb => Hfp.out b (fp_del b hb))⟩, ?_⟩
              · rw [Hwk.out, if_pos ⟨He.out, Hq0.out⟩]
                refine Prod.ext ?_ rfl
                simp only [CLocks.abs, Al.del_put, Al.del_map]
              · simp [intOf]
                omega
            · have hqn : (((c'.up ++ c'.rest).length : Int) == 0) = false := by
                have : (c'.up ++ c'.rest).length ≠ 0 := fun e => hq0 (List.eq_nil_of_length_eq_zero e)
                simp only [beq_eq_false_iff_ne, ne_eq]
                omega
              have Hq0 := Lib.hid hq0
              generalize hln : (c'.up ++ c'.rest).length = ln at hqn
              have Hln := Lib.hid hln
              clear hml he hk1 hok hfp hwk hI hK hq hc' hp hf ha hcf hclt hzw hz2 hz3 nS s0 s1 s2 bq c1 hl hsp hb3 n3' hq0 hln
              go_wp2_with (go_at_call 30; refine Hq.out.mono ?_; rintro e w5 ⟨vq, rfl, hvq, hbq⟩; have lvq := hvq.len_run Try.underlying30; rw [Hln.out] at lvq; have Hbq := Lib.hid hbq; clear hvq hbq)
              rw [Hk1.out]
              have hT : Turn C.fp W w5 := Turn.of_below Hbq.out
              refine ⟨⟨k + 1, _, _, _, _, _, _, _, _, _, _, _, _, _, _, _, _, _, _, _, _, _, _, _, _, _, _, _, _, _, _, _, _, _, _, rfl, by omega, Marks.next Hw3.out Hm3.out hlt'.out Hcf.out HI.out HK.out hT, _, Woke.next Hw3.out hlt'.out Hcf.out HI.out hT (Hok.out.below Hbq.out) Hw3.out.lb ?_ Hfp.out⟩, ?_⟩
              · rw [Hwk.out, if_neg (fun e => Hq0.out e.2)]
                refine Prod.ext ?_ rfl
                simp only [CLocks.abs, Al.put_map]
              · simp [intOf]
                omega
          · have hne : ((c'.holds.length : Int) == 0) = false := by
              have : c'.holds.length ≠ 0 := fun e => he (List.eq_nil_of_length_eq_zero e)
              simp
              omega
            have He := Lib.hid he
            clear hk1 hok hfp hwk hI hK hq hc' hp hf ha hcf hclt hzw hz2 hz3 he nS s0 s1 s2 bq c1 hl hsp hb3 n3'
            go_wp2_with fail
            rw [Hk1.out]
            have hT : Turn C.fp W W := Turn.refl _ _
            refine ⟨⟨k + 1, _, ⟨rfl, rfl⟩, by omega, Marks.next Hw3.out Hm3.out hlt'.out Hcf.out HI.out HK.out hT, _, Woke.next Hw3.out hlt'.out Hcf.out HI.out hT Hok.out Hw3.out.lb ?_ Hfp.out⟩, by simp [intOf]; omega⟩
            rw [Hwk.out, if_neg (fun e => He.out e.1)]
            refine Prod.ext ?_ rfl
            simp only [CLocks.abs, Al.put_map]
    · obtain rfl : k = L.length := by omega
      obtain ⟨rs, hn, hr, rfl⟩ := hm
      have ho : wr.cell? ⟨w.heap.size + 1, 0, none⟩ = some v' := cell_of_blk hw.out 0
      have Hw := Lib.hid hw
      clear hw
      go_wp2
      refine leaves_marks rs _ hn (fun r h => (hr r h).2) (fun w' ht => ⟨_, results_tmp rfl _ _ _, C', v', rfl, ?_⟩)
      have hw := Hw.out
      have ha := hw.abs
      have hro := hw.row
      rw [List.take_length] at ha hro
      refine ⟨hw.ok.of_blocks (fun b hb => ht.block b (hw.ok.lt b hb) (fun e => ?_)), hw.lb, ha, hw.fp, ?_, (hro.of_block (fun b hb => ht.block b (hro.lt b hb).2 (fun e => ?_))).mono (by omega)⟩
      · have h1 := h.lt b (hw.fp b hb)
        have h2 := (hr b e).1
        omega
      · have hz := hw.size
        exact ⟨ht.os.trans hw.turn.os, ht.tape.trans hw.turn.tape, ht.output.trans hw.turn.output, Nat.le_trans hw.turn.size ht.size, fun b hb hn => (ht.block b (by omega) (fun e => by have := (hr b e).1; omega)).trans (hw.turn.block b hb hn)⟩
      · obtain ⟨cur, hc⟩ := hro.blk hb
        have := (hr b e).2
        rw [hc] at this
        cases this
end Go.Proofs.Ytmolmeamnmefeaa
