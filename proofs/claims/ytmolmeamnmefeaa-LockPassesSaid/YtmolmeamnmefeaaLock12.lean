/- Whom one waits for. -/
import Derived.Test.YtmolmeamnmefeaaLock11
namespace Go.Proofs.Ytmolmeamnmefeaa
open Go.RowKit Go.Shelf Go.Proofs Go.Sort

def forRaw (S : St) (who : Int) (s : Spot) (m : Int) : List Int :=
  ((holdersS S s).filter (fun h => decide (h.1 ≠ who) && !Md.bes (Md.n m) (Md.n h.2))).map (·.1) ++ ((queueS S s).takeWhile (fun h => decide (h.1 ≠ who))).map (·.1)
def forS (S : St) (who : Int) : List Int := match waitsS S who with | none => [] | some (s, m) => dedupI (sortI (forRaw S who s m))

theorem waitsS_get {S : St} {who : Int} {s : Spot} {m : Int} (h : waitsS S who = some (s, m)) : Al.get S.waits who = some s := by
  unfold waitsS at h
  cases hg : Al.get S.waits who with
  | none => rw [hg] at h; simp at h
  | some s' =>
    rw [hg] at h
    simp at h
    obtain ⟨_, _, rfl, _⟩ := h
    rfl

theorem holders_len (C : CLocks) (s : Spot) (hwt : wt C ≤ 1099511627776) : (holdersS C.abs s).length + (queueS C.abs s).length ≤ 1099511627776 := by
  unfold holdersS queueS
  rw [get_abs]
  cases hg : Al.get C.spots s with
  | none => simp
  | some c =>
    have := wt_mem (Al.mem_of_get hg)
    unfold wt at hwt
    simp only [Option.map_some, holdersOf, List.length_map, sortI_length, CSpot.abs, List.length_append]
    simp only at this
    omega

theorem takeWhile_all {α : Type} (p : α → Bool) : ∀ (L : List α), (∀ x ∈ L, p x = true) → L.takeWhile p = L
  | [], _ => rfl
  | x :: L, h => by
    rw [List.takeWhile_cons_of_pos (h x (by simp)), takeWhile_all p L (fun y hy => h y (by simp [hy]))]
theorem takeWhile_stop {α : Type} (p : α → Bool) : ∀ (L : List α) (k : Nat) (h : k < L.length), (∀ x ∈ L.take k, p x = true) → p L[k] = false → L.takeWhile p = L.take k
  | [], _, h, _, _ => by simp at h
  | x :: L, 0, _, _, hp => by
    simp at hp
    simp [hp]
  | x :: L, k + 1, h, ha, hp => by
    rw [List.takeWhile_cons_of_pos (ha x (by simp)), List.take_succ_cons, takeWhile_stop p L k (by simpa using h) (fun y hy => ha y (by simp [hy])) (by simpa using hp)]

set_option maxRecDepth 100000 in
set_option maxHeartbeats 3200000 in
theorem for_any (C : CLocks) (who : Int) (hw : i64 who) (w : World) (h : LocksOk w C) (hwt : wt C ≤ 1099511627776) (hq : Queued C.abs) :
    Calls Try.prog 18 #[.pointer (some ⟨C.lb, 0, none⟩), .int .i64 who] w fun e w' => ∃ v, e = .returned v ∧ Row etInt w' w.heap.size v (forS C.abs who) ∧ Below w.heap.size w w' := by
  have hwc := waits_any C who hw w h hwt hq
  have hln := fun s => holders_len C s hwt
  cases hws : waitsS C.abs who with
  | none =>
    rw [hws] at hwc
    have E := Lib.hid (show forS C.abs who = [] by simp [forS, hws])
    clear hws h hq hln
    go_enter Try.func18, Try.ntmps18
    go_wp2_with (go_at_call 25; refine hwc.mono ?_; rintro e w1 ⟨rfl, hb1⟩; simp only [waitsV, spotV])
    go_ret
    exact ⟨_, rfl, by rw [E.out]; exact Row.nil _ _ _, hb1.alloc hb1.size _⟩
  | some sm =>
    obtain ⟨s, m⟩ := sm
    rw [hws] at hwc
    have hso : spotOk s := h.waitsOk _ (Al.mem_of_get (waitsS_get hws))
    have E := Lib.hid (show forS C.abs who = dedupI (sortI (forRaw C.abs who s m)) by simp [forS, hws])
    have hln := hln s
    have Hh := Lib.hid h
    clear hws h hq
    go_enter Try.func18, Try.ntmps18
    go_wp2_with (first | (go_at_call 25; refine hwc.mono ?_; rintro e w1 ⟨rfl, hb1⟩; simp only [waitsV, spotV]) | (go_at_call 21; refine Calls.mono (holders_any C s hso _ ((Hh.out.below hb1).below (below_box _)) hwt) ?_; rintro e w2 ⟨v2, rfl, hv2, hb2⟩; have lv2 := hv2.len_run Try.underlying30))
    have hq0 := (Below.refl w1.heap.size w1).alloc (Nat.le_refl _) (.cells #[.int .i64 s.1, .bool s.2.1, .int .i64 s.2.2] 26)
    have hz1 : (w1.alloc (.cells #[.int .i64 s.1, .bool s.2.1, .int .i64 s.2.2] 26)).heap.size = w1.heap.size + 1 := by simp
    have s0 := (hb2.cell (p := ⟨w1.heap.size, 0, none⟩) (by simp)).trans (cell_new w1 #[.int .i64 s.1, .bool s.2.1, .int .i64 s.2.2] 26 0)
    have s1 := (hb2.cell (p := ⟨w1.heap.size, 1, none⟩) (by simp)).trans (cell_new w1 #[.int .i64 s.1, .bool s.2.1, .int .i64 s.2.2] 26 1)
    have s2 := (hb2.cell (p := ⟨w1.heap.size, 2, none⟩) (by simp)).trans (cell_new w1 #[.int .i64 s.1, .bool s.2.1, .int .i64 s.2.2] 26 2)
    simp only [List.getElem?_toArray, List.getElem?_cons_zero, List.getElem?_cons_succ] at s0 s1 s2
    have hB2 : Below w.heap.size w w2 := hb1.trans ((hq0.mono hb1.size).trans (hb2.mono (by rw [hz1]; have := hb1.size; omega)))
    have lq : w1.heap.size < w2.heap.size := by have := hb2.size; rw [hz1] at this; omega
    have lw : w.heap.size ≤ w1.heap.size := hb1.size
    have hL : Hid (holdersS C.abs s = holdersS C.abs s) := rfl
    have hRaw : Hid (forRaw C.abs who s m = ((holdersS C.abs s).filter (fun h => decide (h.1 ≠ who) && !Md.bes (Md.n m) (Md.n h.2))).map (·.1) ++ ((queueS C.abs s).takeWhile (fun h => decide (h.1 ≠ who))).map (·.1)) := rfl
    have hQe := Lib.hid (queue_abs C s)
    have Hm2 := Lib.hid (Hh.out.below hB2)
    clear hq0 hb2 hwc hb1 hL
    generalize holdersS C.abs s = L1 at hv2 lv2 hln hRaw
    generalize hL2 : queueS C.abs s = L2 at hln hRaw hQe
    clear hL2
    have hv2 := hv2.mono (base' := w1.heap.size) (by rw [hz1]; omega)
    clear hz1
    go_loopw [8, 10, 26] (fun v _ i wr => ∃ k : Nat, k ≤ L1.length ∧ i = .int .i64 k ∧ Row etInt wr w2.heap.size v (((L1.take k).filter (fun h => decide (h.1 ≠ who) && !Md.bes (Md.n m) (Md.n h.2))).map (·.1)) ∧ Below w2.heap.size w2 wr) (fun _ _ i _ => L1.length - (intOf i).toNat)
    case atStart => exact ⟨0, Nat.zero_le _, rfl, Row.nil _ _ _, Below.refl _ _⟩
    case round =>
      obtain ⟨k, hk, rfl, hv, hbr⟩ := hrel
      by_cases hlt : k < L1.length
      · obtain ⟨g, cap, hve⟩ := ownsRow_shape hv2 (by omega)
        have hv2' := hv2
        rw [hve] at hv2'
        have hgl := (hv2'.lt g rfl).2
        have k0 : wr.cell? ⟨g, k * 2, none⟩ = some (.int .i64 L1[k].1) := (hbr.cell (p := ⟨g, k * 2, none⟩) hgl).trans (hv2'.at k 0 hlt (by decide))
        have k1 : wr.cell? ⟨g, k * 2 + 1, none⟩ = some (.int .u8 L1[k].2) := (hbr.cell (p := ⟨g, k * 2 + 1, none⟩) hgl).trans (hv2'.at k 1 hlt (by decide))
        have htk := Lib.hid (List.take_succ_eq_append_getElem hlt)
        have hfl := List.length_filter_le (fun h : Hold => decide (h.1 ≠ who) && !Md.bes (Md.n m) (Md.n h.2)) (L1.take k)
        rw [List.length_take] at hfl
        have Hfl := Lib.hid (show (((L1.take k).filter (fun h => decide (h.1 ≠ who) && !Md.bes (Md.n m) (Md.n h.2))).map (·.1)).length ≤ 1099511627776 by rw [List.length_map]; omega)
        have hbx := hbr.alloc hbr.size (.cells #[.int .i64 L1[k].1, .int .u8 L1[k].2] 33)
        clear hfl hv2'
        rw [hve]
        rw [hve] at lv2
        rcases can_case L1[k] who m with hpb | ⟨hpb, hbe⟩ | ⟨hpb, hbe⟩
        · have hf : (decide (L1[k].1 ≠ who) && !Md.bes (Md.n m) (Md.n L1[k].2)) = false := by
            have : L1[k].1 = who := by simpa using hpb
            simp [this]
          have Hf := Lib.hid hf
          clear hf
          go_wp2_with fail
          go_roundw
          case rel =>
            refine ⟨k + 1, by omega, by go_num, ?_, hbx⟩
            rw [htk.out, List.filter_append, List.filter_cons_of_neg (by rw [Hf.out]; simp), List.filter_nil, List.append_nil]
            exact hv.of_block (fun b hb => heap_alloc_old _ _ (hv.lt b hb).2)
          case measure => simp [intOf]; omega
        · have hf : (decide (L1[k].1 ≠ who) && !Md.bes (Md.n m) (Md.n L1[k].2)) = false := by rw [hbe]; simp
          have Hf := Lib.hid hf
          clear hf
          go_wp2_with (go_at_call 37; refine (beside_any _ _ _).mono ?_; rintro e w' ⟨rfl, rfl⟩)
          go_roundw
          case rel =>
            refine ⟨k + 1, by omega, by go_num, ?_, hbx⟩
            rw [htk.out, List.filter_append, List.filter_cons_of_neg (by rw [Hf.out]; simp), List.filter_nil, List.append_nil]
            exact hv.of_block (fun b hb => heap_alloc_old _ _ (hv.lt b hb).2)
          case measure => simp [intOf]; omega
        · have hf : (decide (L1[k].1 ≠ who) && !Md.bes (Md.n m) (Md.n L1[k].2)) = true := by
            have : L1[k].1 ≠ who := by simpa using hpb
            rw [hbe]; simp [this]
          have Hf := Lib.hid hf
          clear hf
          go_wp2_with (first | (go_at_call 37; refine (beside_any _ _ _).mono ?_; rintro e w' ⟨rfl, rfl⟩) | (at_builtin; refine wpList_append_row etInt _ rfl _ _ 35 rfl Try.underlying35 w2.heap.size _ _ rfl (hv.of_block (fun b hb => by have := (hv.lt b hb).2; rw [heap_alloc_old _ _ (by simp; omega), heap_alloc_old _ _ this])) ⟨wr.heap.size + 1, 0, none⟩ 1 [L1[k].1] 1 rfl rfl ?hnews ?hbytes ?h63 ?hbase ?hk; rotate_right; intro v3 w3 hv3 hg3 ho3))
          · go_roundw
            case rel =>
              refine ⟨k + 1, by omega, by go_num, ?_, (hbx.alloc (Nat.le_trans hbr.size (by simp)) (.cells #[.int .i64 L1[k].1] 2)).grown hg3 (Nat.le_trans hbr.size (by simp; omega)) (fun b e => (hv.lt b e).1)⟩
              rw [htk.out, List.filter_append, List.filter_cons_of_pos (by rw [Hf.out]), List.filter_nil, List.map_append]
              exact hv3
            case measure => simp [intOf]; omega
          · exact news_at _ _ _ (by simp)
          · have := Hfl.out
            show (_ + 1) * 8 ≤ _
            omega
          · have := Hfl.out
            unfold maxLen
            omega
          · exact Nat.le_trans hbr.size (by simp; omega)
      · obtain rfl : k = L1.length := by omega
        rename World => wa
        rw [List.take_length] at hv
        have s0r := (hbr.cell (p := ⟨w1.heap.size, 0, none⟩) lq).trans s0
        have s1r := (hbr.cell (p := ⟨w1.heap.size, 1, none⟩) lq).trans s1
        have s2r := (hbr.cell (p := ⟨w1.heap.size, 2, none⟩) lq).trans s2
        have hfl := List.length_filter_le (fun h : Hold => decide (h.1 ≠ who) && !Md.bes (Md.n m) (Md.n h.2)) L1
        generalize hA : (L1.filter (fun h => decide (h.1 ≠ who) && !Md.bes (Md.n m) (Md.n h.2))).map (·.1) = A at hv hRaw
        have hAl : A.length + L2.length ≤ 1099511627776 := by rw [← hA, List.length_map]; omega
        clear hA hfl s0 s1 s2 lv2 hv2
        have hsm := small_of_wt hwt
        go_wp2_with (go_at_call 10; refine Calls.mono (Queue_any C s hso _ (Hm2.out.below hbr) hsm) ?_; rintro e w3 ⟨v3, rfl, hv3, hb3⟩; rw [hQe.out] at hv3; have lv3 := hv3.len_run Try.underlying30)
        rename_i vA _ _ _ _
        have hvA : Row etInt w3 w2.heap.size _ A := hv.of_block (fun b hb => hb3.block b (hv.lt b hb).2)
        have hAlt : ∀ b, Value.ownBlock _ = some b → b < wa.heap.size := fun b hb => (hv.lt b hb).2
        have hz3 := hb3.size
        have hz2 := hbr.size
        have hB3 : Below w.heap.size w w3 := hB2.trans ((hbr.mono (by omega)).trans (hb3.mono (by omega)))
        clear s0r s1r s2r hb3 hv hbr
        go_loopw [8, 12, 51] (fun v _ i wr => ∃ k : Nat, k ≤ L2.length ∧ i = .int .i64 k ∧ Row etInt wr w2.heap.size v (A ++ (L2.take k).map (·.1)) ∧ Hid (∀ b, v.ownBlock = some b → b < wa.heap.size ∨ w3.heap.size ≤ b) ∧ Row etHold wr wa.heap.size v3 L2 ∧ Hid (∀ x ∈ L2.take k, x.1 ≠ who) ∧ Below w.heap.size w wr ∧ w3.heap.size ≤ wr.heap.size) (fun _ _ i _ => L2.length - (intOf i).toNat)
        case atStart => exact ⟨0, Nat.zero_le _, rfl, by simpa using hvA, fun b hb => Or.inl (hAlt b hb), hv3, by simp [Hid], hB3, Nat.le_refl _⟩
        case round =>
          obtain ⟨k, hk, rfl, hv, hob, hq, hall, hbq, hzq⟩ := hrel
          clear hvA hAlt hB3
          by_cases hlt : k < L2.length
          · obtain ⟨g, cap, hve⟩ := ownsRow_shape hq (by omega)
            have hq' := hq
            rw [hve] at hq'
            have k0 : wr.cell? ⟨g, k * 2, none⟩ = some (.int .i64 L2[k].1) := hq'.at k 0 hlt (by decide)
            have k1 : wr.cell? ⟨g, k * 2 + 1, none⟩ = some (.int .u8 L2[k].2) := hq'.at k 1 hlt (by decide)
            have htk := Lib.hid (List.take_succ_eq_append_getElem hlt)
            have Hkl := Lib.hid (show (A ++ (L2.take k).map (·.1)).length + 1 ≤ 1099511627776 by simp; omega)
            have hbx := hbq.alloc (by have := hbq.size; omega) (.cells #[.int .i64 L2[k].1, .int .u8 L2[k].2] 33)
            have hqx : Row etHold (wr.alloc (.cells #[.int .i64 L2[k].1, .int .u8 L2[k].2] 33)) wa.heap.size v3 L2 := hq.of_block (fun b hb => heap_alloc_old _ _ (hq.lt b hb).2)
            have hqlt : ∀ b, v3.ownBlock = some b → wa.heap.size ≤ b ∧ b < w3.heap.size := fun b hb => ⟨(hv3.lt b hb).1, (hv3.lt b hb).2⟩
            clear hq'
            rw [hve]
            rw [hve] at lv3
            by_cases he : L2[k].1 = who
            · have heb : (L2[k].1 == who) = true := by simpa using he
              have hfin := takeWhile_stop (fun h : Hold => decide (h.1 ≠ who)) L2 k hlt (fun x hx => by simpa using hall.out x hx) (by simpa using he)
              have hRw := hRaw.out
              rw [hfin] at hRw
              have HRw := Lib.hid hRw
              clear he hfin hRw
              have Hsl := Lib.hid (show (A ++ (L2.take k).map (·.1)).length ≤ 1099511627776 by have := Hkl.out; omega)
              go_wp2_with (first | (go_at_call 38; refine Calls.mono (sortI_any w2.heap.size _ _ _ (hv.of_block (fun b hb => heap_alloc_old _ _ (hv.lt b hb).2)) Hsl.out) ?_; rintro e w4 ⟨rfl, hv4, hg4⟩) | (go_at_call 39; refine Calls.mono (compactI_any w2.heap.size _ _ _ hv4) ?_; rintro e w5 ⟨v5, rfl, hv5, hg5, ho5⟩))
              go_ret
              refine ⟨_, rfl, by rw [E.out, HRw.out]; exact hv5.mono (by omega), ?_⟩
              have hsz4 := hg4.size
              exact (hbx.grown hg4 (by simp; have := hbq.size; omega) (fun b e => by have := (hv.lt b e).1; omega)).grown hg5 (by simp at hsz4; have := hbq.size; omega) (fun b e => by have := (hv.lt b e).1; omega)
            · have heb : (L2[k].1 == who) = false := by simpa using he
              have Hne := Lib.hid he
              clear he
              go_wp2_with (at_builtin; refine wpList_append_row etInt _ rfl _ _ 35 rfl Try.underlying35 w2.heap.size _ _ rfl (hv.of_block (fun b hb => by have := (hv.lt b hb).2; rw [heap_alloc_old _ _ (by simp; omega), heap_alloc_old _ _ this])) ⟨wr.heap.size + 1, 0, none⟩ 1 [L2[k].1] 1 rfl rfl ?hnews2 ?hbytes2 ?h632 ?hbase2 ?hk2; rotate_right; intro v6 w6 hv6 hg6 ho6)
              · have hown : ∀ b, Value.ownBlock _ = some b → w2.heap.size ≤ b := fun b hb => (hv.lt b hb).1
                go_roundw
                case rel =>
                  rw [← hve]
                  refine ⟨k + 1, by omega, by go_num, ?_, ?_, hqx.of_block (fun b hb => ?_), ?_, ?_, ?_⟩
                  · rw [htk.out, List.map_append, ← List.append_assoc]
                    exact hv6
                  · intro b hb
                    rcases ho6 with h | h
                    · exact hob.out b (h ▸ hb)
                    · rw [h] at hb
                      cases hb
                      right
                      simp
                      omega
                  · have h1 := hqlt b hb
                    rw [hg6.block b (by simp; omega) (fun e => by have := hob.out b e.symm; omega), heap_alloc_old _ _ (by simp; omega)]
                  · intro x hx
                    rw [htk.out] at hx
                    rcases List.mem_append.1 hx with hx | hx
                    · exact hall.out x hx
                    · simp at hx
                      rw [hx]
                      exact Hne.out
                  · have h1 := hbq.size
                    exact (hbx.alloc (by simp; omega) (.cells #[.int .i64 L2[k].1] 2)).grown hg6 (by simp; omega) (fun b e => by have := hown b e; omega)
                  · have := hg6.size
                    simp at this
                    omega
                case measure => simp [intOf]; omega
              · exact news_at _ _ _ (by simp)
              · have := Hkl.out
                show (_ + 1) * 8 ≤ _
                omega
              · have := Hkl.out
                unfold maxLen
                omega
              · simp
                omega
          · obtain rfl : k = L2.length := by omega
            have hfin := takeWhile_all (fun h : Hold => decide (h.1 ≠ who)) L2 (fun x hx => by have := hall.out x (by rwa [List.take_length]); simpa using this)
            have hRw := hRaw.out
            rw [hfin] at hRw
            rw [List.take_length] at hv
            have HRw := Lib.hid hRw
            clear hfin hRw
            have Hsl := Lib.hid (show (A ++ L2.map (·.1)).length ≤ 1099511627776 by simp; omega)
            go_wp2_with (first | (go_at_call 38; refine Calls.mono (sortI_any w2.heap.size _ _ _ hv Hsl.out) ?_; rintro e w4 ⟨rfl, hv4, hg4⟩) | (go_at_call 39; refine Calls.mono (compactI_any w2.heap.size _ _ _ hv4) ?_; rintro e w5 ⟨v5, rfl, hv5, hg5, ho5⟩))
            go_ret
            refine ⟨_, rfl, by rw [E.out, HRw.out]; exact hv5.mono (by omega), ?_⟩
            have hsz4 := hg4.size
            have hsz := hbq.size
            exact (hbq.grown hg4 hsz (fun b e => by have := (hv.lt b e).1; omega)).grown hg5 (by omega) (fun b e => by have := (hv.lt b e).1; omega)
end Go.Proofs.Ytmolmeamnmefeaa
