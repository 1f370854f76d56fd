/- Who holds a spot. -/
import Derived.Test.YtmolmeamnmefeaaLock10
import Derived.Deep.CutRange
namespace Go.Proofs.Ytmolmeamnmefeaa
open Go.RowKit Go.Shelf Go.Proofs Go.Sort

/-- append at a step of a region that draws -/
theorem step_append_row {P : Program} {e : TypeId} {α : Type} (E : ET P e α) {w : World} {ops : Array Oper} {o : Oper} {a : Act} {K : Act → World → Prop} {Q : Exit → Act → World → Prop} {Ex : Prop} (hgd : o.guard = none) (s x : Operand) (t : TypeId)
    (ho : o.op = .call { callee := .builtin .append, args := #[s, x], argTypes := #[t, t] }) (ht : P.underlying t = some (.slice e))
    (base : Nat) (v : Value) (L : List α) (hs : a.eval s = v) (hown : Row E w base v L)
    (ad : Addr) (c : Nat) (M : List α) (m : Nat) (hm : M.length = m) (hx : a.eval x = .slice (some ad) m c) (hnews : ∀ j u, (M.flatMap E.enc)[j]? = some u → w.cell? (ad.add j) = some u)
    (hbytes : (L.length + m) * E.bytes ≤ 140737488355328) (h63 : L.length + m ≤ maxLen) (hbase : base ≤ w.heap.size)
    (h : ∀ v' w', Row E w' base v' (L ++ M) → w.grownBy w' v.ownBlock → (v'.ownBlock = v.ownBlock ∨ v'.ownBlock = some w.heap.size) → K (a.put o.dst v') w') :
    if Region.wanted o (yielded ops a.tmps) = true then Oper.wp P o a w K Q else Ex := by
  subst hm
  have hw : Region.wanted o (yielded ops a.tmps) = true := by simp [Region.wanted, hgd]
  rw [if_pos hw]
  obtain ⟨v', w', hr, h2, h3, _, h5⟩ := run_append_own_at (P := P) w base t o.type e E.i E.z E.k E.bytes ht E.hi E.hz E.hsize E.hby E.hzs E.hk v L.length (L.flatMap E.enc) hown ad M.length c (M.flatMap E.enc) (flat_length E.len M) hnews (fun u hu => by
    obtain ⟨y, _, hy⟩ := List.mem_flatMap.1 hu
    exact E.one y u hy) h63 hbytes hbase
  unfold Oper.wp execOp
  simp only [ho, resolve, invoke, builtin, Sem.run_bind, Sem.run_pure, Result.andThen_ok, List.map_toArray, List.map_cons, List.map_nil, hs, hx, hr]
  refine h v' w' ?_ h3 h5
  unfold Row
  rw [List.length_append, List.flatMap_append]
  exact h2

def holdersOf (holds : List Hold) : List Hold := (sortI (holds.map (·.1))).map (fun x => (x, (Al.get holds x).getD 0))
def holdersS (S : St) (s : Spot) : List Hold := match Al.get S.spots s with | none => [] | some c => holdersOf c.holds

set_option maxRecDepth 100000 in
set_option maxHeartbeats 3200000 in
theorem holders_any (C : CLocks) (s : Spot) (hs : spotOk s) (w : World) (h : LocksOk w C) (hwt : wt C ≤ 1099511627776) :
    Calls Try.prog 21 #[.pointer (some ⟨C.lb, 0, none⟩), .agg #[.int .i64 s.1, .bool s.2.1, .int .i64 s.2.2]] w fun e w' => ∃ v, e = .returned v ∧ Row etHold w' w.heap.size v (holdersS C.abs s) ∧ Below w.heap.size w w' := by
  have hbx := below_box (w := w) (.cells #[.int .i64 s.1, .bool s.2.1, .int .i64 s.2.2] 26)
  have s0 := cell_new w #[.int .i64 s.1, .bool s.2.1, .int .i64 s.2.2] 26 0
  have s1 := cell_new w #[.int .i64 s.1, .bool s.2.1, .int .i64 s.2.2] 26 1
  have s2 := cell_new w #[.int .i64 s.1, .bool s.2.1, .int .i64 s.2.2] 26 2
  have h1 := h.below hbx
  have Hh := Lib.hid h
  have hsw : w.heap.size < (w.alloc (.cells #[.int .i64 s.1, .bool s.2.1, .int .i64 s.2.2] 26)).heap.size := by simp
  clear h
  go_enter Try.func21, Try.ntmps21
  go_wp2_with fail
  generalize w.alloc (.cells #[.int .i64 s.1, .bool s.2.1, .int .i64 s.2.2] 26) = w1 at hbx h1 s0 s1 s2 hsw ⊢
  simp only [List.getElem?_toArray, List.getElem?_cons_zero, List.getElem?_cons_succ] at s0 s1 s2
  have c1 : w1.cell? ⟨C.lb, 1, none⟩ = some (.map (some C.sb)) := cell_of_blk h1.blk 1
  cases hg : Al.get C.spots s with
  | none =>
    have hl := h1.spots.look_none hs hg
    simp only [mtSpots, spotV] at hl
    have e : holdersS C.abs s = [] := by simp [holdersS, get_abs, hg]
    have E := Lib.hid e
    clear e h1 hg
    go_quiet (fail)
    go_wp2
    go_ret
    exact ⟨_, rfl, by rw [E.out]; exact Row.nil _ _ _, bdn hbx _⟩
  | some c =>
    have hl := h1.spots.look_some hs hg
    simp only [mtSpots, spotV] at hl
    have hc := h1.each _ (Al.mem_of_get hg)
    have hbd := wt_mem (Al.mem_of_get hg)
    unfold wt at hwt
    simp only at hc hbd
    have hbd : c.holds.length ≤ 1099511627776 := by omega
    have d0 : w1.cell? ⟨c.p, 0, none⟩ = some (.map (some c.hb)) := cell_of_blk hc.blk 0
    have e : holdersS C.abs s = holdersOf c.holds := by simp [holdersS, get_abs, hg, CSpot.abs]
    have E := Lib.hid e
    have Hc := Lib.hid hc
    have Hm1 := Lib.hid h1
    have Hg := Lib.hid hg
    clear e h1 hg hc hwt
    go_quiet (fail)
    go_wp2_with fail
    have hl1 := fun n => (show MapAt mtSpots (w1.drewN n) C.sb C.spots from Hm1.out.spots).look hs
    rw [Hg.out] at hl1
    simp only [mtSpots, spotV] at hl1
    rename Nat => nq
    go_cut [29, 30, 31] from 19 to 31 (fun v n i wx => n = .int .i64 (sortI (c.holds.map (·.1))).length ∧ i = .int .i64 0 ∧ Row etInt wx w1.heap.size v (sortI (c.holds.map (·.1))) ∧ Below w1.heap.size w1 wx)
    case first =>
      go_region_with (first | (go_at_call 43; refine (keys_any _ _).mono ?_; rintro e w2 ⟨rfl, rfl⟩) | (go_at_call 42; go_must (refine Calls.mono (sorted_any c.hb w1.heap.size c.holds _ (Hc.out.holds.of_block (heap_alloc_old (w1.drewN _) _ Hc.out.holds.lt)) hbd (cell_new _ _ _ _) (by simp)) ?_); rintro e w3 ⟨v3, rfl, hv3, hb3⟩; have lv3 := hv3.len_run Try.underlying35; have hb3' : Below w1.heap.size w1 w3 := ((bdn (Below.refl w1.heap.size w1) (nq + 1)).alloc (Nat.le_refl _) (.cells #[.map (some c.hb)] 66)).trans (hb3.mono (B' := w1.heap.size) (by simp))))
      all_goals (go_wp2_with fail; go_meet; exact ⟨rfl, rfl, hv3.mono (by simp), hb3'⟩)
    case rest =>
      obtain ⟨rfl, rfl, hks, hbc⟩ := hcut
      have hLk : ∀ x ∈ sortI (c.holds.map (·.1)), i64 x ∧ ∃ m, Al.get c.holds x = some m := by
        intro x hx
        obtain ⟨p, hp, rfl⟩ := List.mem_map.1 (sortI_mem.1 hx)
        exact ⟨Hc.out.holds.keyOk p hp, p.2, Al.get_some Hc.out.holds.nodup hp⟩
      have hLl : (sortI (c.holds.map (·.1))).length ≤ 1099511627776 := by rw [sortI_length]; simpa using hbd
      have hE : holdersS C.abs s = (sortI (c.holds.map (·.1))).map (fun x => (x, (Al.get c.holds x).getD 0)) := E.out
      have Hmc := Lib.hid (Hm1.out.below hbc)
      have c1c : wc.cell? ⟨C.lb, 1, none⟩ = some (.map (some C.sb)) := cell_of_blk Hmc.out.blk 1
      have hcc := Hmc.out.each _ (Al.mem_of_get Hg.out)
      simp only at hcc
      have d0c : wc.cell? ⟨c.p, 0, none⟩ = some (.map (some c.hb)) := cell_of_blk hcc.blk 0
      have s0c := (hbc.cell (p := ⟨w.heap.size, 0, none⟩) hsw).trans s0
      have s1c := (hbc.cell (p := ⟨w.heap.size, 1, none⟩) hsw).trans s1
      have s2c := (hbc.cell (p := ⟨w.heap.size, 2, none⟩) hsw).trans s2
      have hbw : Below w.heap.size w wc := hbx.trans (hbc.mono (by omega))
      have lc1 := Hmc.out.lt C.lb (Or.inl rfl)
      have lcp := hcc.lt c.p (Or.inl rfl)
      have lsb := Hmc.out.spots.lt
      have lhb := hcc.holds.lt
      have Hgm := Lib.hid Hmc.out.spots
      have Hhm := Lib.hid hcc.holds
      have lw : w.heap.size < wc.heap.size := Nat.lt_of_lt_of_le hsw hbc.size
      clear s0 s1 s2 c1 d0 hl hl1 hcc hbc hbd
      generalize sortI (c.holds.map (·.1)) = L at hks hLk hLl hE ⊢
      rcases hks.shape with ⟨rfl, rfl⟩ | ⟨g, cap, rfl, hgb, hgl, hlc, hcm, hkc, _⟩
      · have E' := Lib.hid (show holdersS C.abs s = [] from hE)
        clear hE
        go_wp2_with fail
        refine wp_loop_rounds 1 ?_
        rw [rounds_succ]
        go_wp2
        go_ret
        exact ⟨_, rfl, by rw [E'.out]; exact Row.nil _ _ _, hbw⟩
      · have HE := Lib.hid hE
        have Hkc := Lib.hid hkc
        have HLk := Lib.hid hLk
        clear hE hkc hLk hks
        go_wp2_with fail
        go_loopw [5, 7, 31] (fun v _ i wr => ∃ k : Nat, k ≤ L.length ∧ i = .int .i64 k ∧ Row etHold wr wc.heap.size v ((L.take k).map (fun x => (x, (Al.get c.holds x).getD 0))) ∧ Below wc.heap.size wc wr) (fun _ _ i _ => L.length - (intOf i).toNat)
        case atStart => exact ⟨0, Nat.zero_le _, rfl, Row.nil _ _ _, Below.refl _ _⟩
        case round =>
          obtain ⟨k, hk, rfl, hv, hbr⟩ := hrel
          by_cases hlt : k < L.length
          · have hLk' := HLk.out L[k] (List.getElem_mem hlt)
            obtain ⟨hLi, m, hgm⟩ := hLk'
            have kc : wr.cell? ⟨g, k, none⟩ = some (.int .i64 L[k]) := (hbr.cell (p := ⟨g, k, none⟩) hgl).trans (by simpa [etInt] using Hkc.out k 0 hlt (by decide))
            have c1r := (hbr.cell (p := ⟨C.lb, 1, none⟩) lc1).trans c1c
            have d0r := (hbr.cell (p := ⟨c.p, 0, none⟩) lcp).trans d0c
            have s0r := (hbr.cell (p := ⟨w.heap.size, 0, none⟩) lw).trans s0c
            have s1r := (hbr.cell (p := ⟨w.heap.size, 1, none⟩) lw).trans s1c
            have s2r := (hbr.cell (p := ⟨w.heap.size, 2, none⟩) lw).trans s2c
            have hl := (show MapAt mtSpots wr.drew C.sb C.spots from Hgm.out.of_block (hbr.block _ lsb)).look hs
            rw [Hg.out] at hl
            simp only [mtSpots, spotV] at hl
            have hl2 := (show MapAt mtHolds wr.drew c.hb c.holds from Hhm.out.of_block (hbr.block _ lhb)).look hLi
            rw [hgm] at hl2
            simp only [mtHolds] at hl2
            have htk : (L.take (k + 1)).map (fun x => (x, (Al.get c.holds x).getD 0)) = (L.take k).map (fun x => (x, (Al.get c.holds x).getD 0)) ++ [(L[k], m)] := by
              rw [List.take_succ_eq_append_getElem hlt, List.map_append]
              simp [hgm]
            have Htk := Lib.hid htk
            have hvl : ((L.take k).map (fun x => (x, (Al.get c.holds x).getD 0))).length = k := by simp; omega
            have Hvl := Lib.hid hvl
            have hkb : k + 1 ≤ 1099511627776 := by omega
            clear c1c d0c s0c s1c s2c htk hgm hvl
            go_wp2_with fail
            go_region_held3 (fun w' => w'.cell? ⟨C.lb, 1, none⟩ = some (.map (some C.sb)) ∧ w'.cell? ⟨c.p, 0, none⟩ = some (.map (some c.hb)) ∧ w'.cell? ⟨w.heap.size, 0, none⟩ = some (.int .i64 s.1) ∧ w'.cell? ⟨w.heap.size, 1, none⟩ = some (.bool s.2.1) ∧ w'.cell? ⟨w.heap.size, 2, none⟩ = some (.int .i64 s.2.2)) (first | exact ⟨c1r, d0r, s0r, s1r, s2r⟩ | exact ⟨cell_kept1 _ c1r, cell_kept1 _ d0r, cell_kept1 _ s0r, cell_kept1 _ s1r, cell_kept1 _ s2r⟩ | exact ⟨(hg3.cell (cell_kept1 _ c1r) (hnb _ lc1)), (hg3.cell (cell_kept1 _ d0r) (hnb _ lcp)), (hg3.cell (cell_kept1 _ s0r) (hnb _ lw)), (hg3.cell (cell_kept1 _ s1r) (hnb _ lw)), (hg3.cell (cell_kept1 _ s2r) (hnb _ lw))⟩)
              ((refine step_append_row etHold (by rfl) _ _ 30 (by rfl) Try.underlying30 wc.heap.size _ _ (by rfl) (hv.of_block (fun b hb => heap_alloc_old wr _ (hv.lt b hb).2)) ⟨wr.heap.size, 0, none⟩ 1 [(L[k], m)] 1 rfl (by rfl) (fun j u hj => news_at (w := wr) _ _ _ rfl j u hj) (by rw [Hvl.out]; show (k + 1) * 16 ≤ _; omega) (by rw [Hvl.out]; unfold maxLen; omega) (Nat.le_trans hbr.size (by simp)) ?_; intro v3 w3 hv3 hg3 ho3; have hnb : ∀ b, b < wc.heap.size → some b ≠ Value.ownBlock _ := fun b hb e => by have := (hv.lt b e.symm).1; omega))
            all_goals (
              go_wp2
              go_roundw
              case rel =>
                refine ⟨k + 1, by omega, by go_num, ?_, ((hbr.alloc hbr.size (.cells #[.int .i64 L[k], .int .u8 m] 33)).drew).grown hg3 (Nat.le_trans hbr.size (by simp)) (fun b e => (hv.lt b e).1)⟩
                rw [Htk.out]
                exact hv3
              case measure => simp [intOf]; omega)
          · obtain rfl : k = L.length := by omega
            have hfin : (L.take L.length).map (fun x => (x, (Al.get c.holds x).getD 0)) = holdersS C.abs s := by rw [List.take_length, HE.out]
            have Hfin := Lib.hid hfin
            clear hfin
            go_wp2
            go_ret
            exact ⟨_, rfl, by rw [← Hfin.out]; exact hv.mono (by omega), hbw.trans (hbr.mono (by omega))⟩
end Go.Proofs.Ytmolmeamnmefeaa
