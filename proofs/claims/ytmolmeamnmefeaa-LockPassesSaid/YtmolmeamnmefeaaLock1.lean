/- Rows of holds: finding, deleting, joining them. -/
import Derived.Test.YtmolmeamnmefeaaLock0
import Derived.Test.YtmolmeamnmefeaaRow
import Derived.Lib.SliceRun
namespace Go.Proofs.Ytmolmeamnmefeaa
open Go.RowKit

theorem isHold : (Try.prog.info? 33).isSome = true := by kernel_rfl
noncomputable def etHold : ET Try.prog 33 Hold where
  k := 2
  hk := by decide
  enc := fun h => [.int .i64 h.1, .int .u8 h.2]
  len := fun _ => rfl
  one := fun x u hu => by simp at hu; rcases hu with rfl | rfl <;> rfl
  i := (Try.prog.info? 33).get isHold
  z := .agg #[.int .i64 0, .int .u8 0]
  bytes := 16
  hi := (Option.some_get isHold).symm
  hz := by kernel_rfl
  hsize := by kernel_rfl
  hby := by kernel_rfl
  hzs := rfl

/-- the closures that ask for a number -/
theorem pred_any (a m who : Int) (q : Nat) (w : World) (c : w.cell? ⟨q, 0, none⟩ = some (.int .i64 who)) (l : q < w.heap.size) :
    Calls Try.prog 66 #[.agg #[.int .i64 a, .int .u8 m], .pointer (some ⟨q, 0, none⟩)] w fun e w' => e = .returned (.bool (a == who)) ∧ w' = w.alloc (.cells #[.int .i64 a, .int .u8 m] 33) := by
  go_enter Try.func66, Try.ntmps66
  go_wp2
  go_ret
  exact ⟨rfl, rfl⟩

/-- IndexFunc by that closure: where the number stands first -/
def fIdx (who : Int) : List Hold → Nat → Int
  | [], _ => -1
  | h :: l, i => if h.1 = who then (i : Int) else fIdx who l (i + 1)
theorem fIdx_skip {who : Int} : ∀ (l : List Hold) (i k : Nat), k ≤ l.length → (∀ h ∈ l.take k, h.1 ≠ who) → fIdx who l i = fIdx who (l.drop k) (i + k)
  | l, i, 0, _, _ => rfl
  | [], i, k + 1, hk, _ => by simp at hk
  | h :: l, i, k + 1, hk, hall => by
    have h1 : h.1 ≠ who := hall h (by simp)
    rw [fIdx, if_neg h1, fIdx_skip l (i + 1) k (by simpa using hk) (fun x hx => hall x (by simp [hx]))]
    simp
    congr 1
    omega

set_option maxHeartbeats 800000 in
theorem indexFunc_any (base : Nat) (v : Value) (L : List Hold) (who : Int) (q : Nat) (w : World) (hr : Row etHold w base v L) (hq : w.cell? ⟨q, 0, none⟩ = some (.int .i64 who)) (lq : q < w.heap.size) :
    Calls Try.prog 45 #[v, .func (.func 66) #[] #[.pointer (some ⟨q, 0, none⟩)]] w fun e w' => e = .returned (.int .i64 (fIdx who L 0)) ∧ Below w.heap.size w w' := by
  have hmax := hr.len_le
  unfold maxLen at hmax
  rcases hr.shape with ⟨rfl, rfl⟩ | ⟨g, cap, rfl, _, hg, hlc, hcm, hc, _⟩
  · go_enter Try.func45, Try.ntmps45
    go_wp2_with fail
    refine wp_loop_rounds 1 ?_
    rw [rounds_succ]
    go_wp2
    go_ret
    exact ⟨rfl, Below.refl _ _⟩
  · have Hc := Lib.hid hc
    clear hc hlc hcm hr
    go_enter Try.func45, Try.ntmps45
    go_wp2_with fail
    go_loopw [8] (fun i wr => ∃ k : Nat, k ≤ L.length ∧ i = .int .i64 k ∧ Hid (∀ h ∈ L.take k, h.1 ≠ who) ∧ Below w.heap.size w wr) (fun i _ => L.length - (intOf i).toNat)
    case atStart => exact ⟨0, Nat.zero_le _, rfl, by simp [Hid], Below.refl _ _⟩
    case round =>
      obtain ⟨k, hk, rfl, hall, hb⟩ := hrel
      by_cases hlt : k < L.length
      · have h0 : wr.cell? ⟨g, k * 2, none⟩ = some (.int .i64 L[k].1) := (hb.cell (p := ⟨g, k * 2, none⟩) hg).trans (Hc.out k 0 hlt (by decide))
        have h1 : wr.cell? ⟨g, k * 2 + 1, none⟩ = some (.int .u8 L[k].2) := (hb.cell (p := ⟨g, k * 2 + 1, none⟩) hg).trans (Hc.out k 1 hlt (by decide))
        have hqr := (hb.cell (p := ⟨q, 0, none⟩) lq).trans hq
        have lqr : q < wr.heap.size := Nat.lt_of_lt_of_le lq hb.size
        have htk : L.take (k + 1) = L.take k ++ [L[k]] := by rw [List.take_succ_eq_append_getElem hlt]
        have Htk := Lib.hid htk
        clear htk
        by_cases he : L[k].1 = who
        · have hfin : fIdx who L 0 = (k : Int) := by
            rw [fIdx_skip L 0 k (by omega) hall.out, List.drop_eq_getElem_cons hlt, fIdx, if_pos he]
            simp
          have Hfin := Lib.hid hfin
          have heb : (L[k].1 == who) = true := by simpa using he
          have Heb := Lib.hid heb
          clear hfin heb he
          go_wp2_with fail
          refine (pred_any _ _ who q _ hqr lqr).mono ?_
          rintro e w' ⟨rfl, rfl⟩
          rw [Heb.out]
          go_wp2
          go_ret
          exact ⟨ret_int Hfin.out.symm, hb.alloc hb.size _⟩
        · have heb : (L[k].1 == who) = false := by simpa using he
          have Heb := Lib.hid heb
          have He := Lib.hid he
          clear heb he
          go_wp2_with fail
          refine (pred_any _ _ who q _ hqr lqr).mono ?_
          rintro e w' ⟨rfl, rfl⟩
          rw [Heb.out]
          go_wp2
          go_roundw
          case rel =>
            refine ⟨k + 1, by omega, by go_num, ?_, hb.alloc hb.size _⟩
            rw [Htk.out]
            intro x hx
            rcases List.mem_append.1 hx with hx | hx
            · exact hall.out x hx
            · simp at hx
              rw [hx]
              exact He.out
          case measure => simp [intOf]; omega
      · have hfin : fIdx who L 0 = -1 := by
          rw [fIdx_skip L 0 k (by omega) hall.out, List.drop_of_length_le (by omega)]
          rfl
        have Hfin := Lib.hid hfin
        clear hfin
        go_wp2
        go_ret
        exact ⟨ret_int Hfin.out.symm, hb⟩

theorem fIdx_cases (who : Int) : ∀ (L : List Hold) (i : Nat), (fIdx who L i = -1 ∧ ∀ h ∈ L, h.1 ≠ who) ∨ ∃ k, k < L.length ∧ fIdx who L i = ((i + k : Nat) : Int) ∧ (∀ h ∈ L.take k, h.1 ≠ who) ∧ ∃ h, L[k]? = some h ∧ h.1 = who
  | [], i => Or.inl ⟨rfl, by simp⟩
  | h :: L, i => by
    by_cases he : h.1 = who
    · refine Or.inr ⟨0, by simp, by simp [fIdx, he], by simp, h, by simp, he⟩
    · rcases fIdx_cases who L (i + 1) with ⟨h1, h2⟩ | ⟨k, h1, h2, h3, h4⟩
      · exact Or.inl ⟨by simp [fIdx, he, h1], fun x hx => by rcases List.mem_cons.1 hx with rfl | hx; exact he; exact h2 x hx⟩
      · refine Or.inr ⟨k + 1, by simpa using h1, by simp only [fIdx, he, if_false, h2]; congr 1; omega, fun x hx => ?_, by simpa using h4⟩
        simp at hx
        rcases hx with rfl | hx
        · exact he
        · exact h3 x hx

def wo (L : List Hold) (who : Int) : List Hold := L.filter (fun h => decide (h.1 ≠ who))

theorem zeroHold (w : World) : (zeroValue 33).run Try.prog w = .ok (.agg #[.int .i64 0, .int .u8 0]) w := by kernel_rfl

theorem zeroHold1 : ∀ u ∈ etHold.z.cells.toList, u.oneCell' = true := by
  intro u hu
  have h : u ∈ [Value.int .i64 0, .int .u8 0] := hu
  simp at h
  rcases h with rfl | rfl <;> rfl

set_option maxRecDepth 100000 in
set_option maxHeartbeats 1600000 in
theorem deleteFunc_any (base : Nat) (v : Value) (L : List Hold) (who : Int) (q : Nat) (w : World) (hr : Row etHold w base v L) (hq : w.cell? ⟨q, 0, none⟩ = some (.int .i64 who)) (lq : q < w.heap.size) (hqv : ∀ b, v.ownBlock = some b → b ≠ q) :
    Calls Try.prog 65 #[v, .func (.func 66) #[] #[.pointer (some ⟨q, 0, none⟩)]] w fun e w' => ∃ v', e = .returned v' ∧ Row etHold w' base v' (wo L who) ∧ w.grownBy w' v.ownBlock ∧ v'.ownBlock = v.ownBlock := by
  have hmax := hr.len_le
  unfold maxLen at hmax
  rcases fIdx_cases who L 0 with ⟨hi, hno⟩ | ⟨i0, hi0, hi, hpre, h0, hget, hwho⟩
  · have hfil : wo L who = L := List.filter_eq_self.2 (fun h hh => by simpa using hno h hh)
    rw [hfil]
    have Hi := Lib.hid hi
    clear hi hno
    go_enter Try.func65, Try.ntmps65
    go_wp2_with fail
    refine (indexFunc_any base v L who q w hr hq lq).mono ?_
    rintro e w1 ⟨rfl, hb⟩
    rw [Hi.out]
    go_wp2
    go_ret
    exact ⟨v, rfl, hr.of_block (fun b h => hb.block b (hr.lt b h).2), ⟨hb.os, hb.tape, hb.output, hb.size, fun k hk _ => hb.block k hk⟩, rfl⟩
  · obtain ⟨g, cap, rfl⟩ := ownsRow_shape hr (by omega)
    have Hi := Lib.hid hi
    have hin := hi0
    clear hi
    go_enter Try.func65, Try.ntmps65
    go_wp2_with fail
    refine (indexFunc_any base _ L who q w hr hq lq).mono ?_
    rintro e w1 ⟨rfl, hb⟩
    rw [Hi.out]
    have ei : ((0 + i0 : Nat) : Int) = (i0 : Int) := by omega
    rw [ei]
    have hne : ((i0 : Int) == -1) = false := by rw [beq_eq_false_iff_ne]; omega
    go_wp2_with fail
    have hg1 : w.grownBy w1 (some g) := ⟨hb.os, hb.tape, hb.output, hb.size, fun k hk _ => hb.block k hk⟩
    have hr1 : Row etHold w1 base (.slice (some ⟨g, 0, none⟩) L.length cap) L := hr.of_block (fun b h => hb.block b (hr.lt b h).2)
    have hqg : some q ≠ some g := fun e => hqv g rfl (Option.some.inj e).symm
    have hstart : L.take i0 = wo (L.take (i0 + 1)) who := by
      have hg0 : L[i0] = h0 := by rw [List.getElem?_eq_getElem hin] at hget; exact Option.some.inj hget
      rw [List.take_succ_eq_append_getElem hin, wo, List.filter_append, List.filter_eq_self.2 (fun h hh => by simpa using hpre h hh), hg0]
      simp [hwho]
    have Hst := Lib.hid hstart
    have gg := (hr1.lt g rfl).2
    have Hget := Lib.hid hget
    clear hr hb hstart hpre hget hwho hqv
    go_loopw [5, 6] (fun i j wr => ∃ (a b : Nat) (M : List Hold), i = .int .i64 a ∧ j = .int .i64 b ∧ a < b ∧ b ≤ L.length ∧ Hid (M.take a = wo (L.take b) who) ∧ Hid (M.drop b = L.drop b) ∧ Row etHold wr base (.slice (some ⟨g, 0, none⟩) L.length cap) M ∧ w.grownBy wr (some g)) (fun _ j _ => L.length - (intOf j).toNat)
    case atStart => exact ⟨i0, i0 + 1, L, rfl, by go_num, by omega, by omega, Hst.out, rfl, hr1, hg1⟩
    case round =>
      obtain ⟨a, b, M, rfl, rfl, hab, hbn, hta, hdr, hrow, hgw⟩ := hrel
      have hMn : M.length = L.length := hrow.lenN
      have ggr : g < wr.heap.size := (hrow.lt g rfl).2
      have hqr : wr.cell? ⟨q, 0, none⟩ = some (.int .i64 who) := hgw.cell hq hqg
      have lqr : q < wr.heap.size := Nat.lt_of_lt_of_le lq hgw.size
      by_cases hlt : b < L.length
      · have hMb : M[b]'(by omega) = L[b] := by
          have h1 : (M.drop b)[0]? = (L.drop b)[0]? := by rw [hdr.out]
          simp only [List.getElem?_drop, Nat.add_zero] at h1
          rw [List.getElem?_eq_getElem (by omega), List.getElem?_eq_getElem hlt] at h1
          exact Option.some.inj h1
        have hbM : b < M.length := by omega
        have hc0 : wr.cell? ⟨g, b * 2, none⟩ = some (.int .i64 L[b].1) := (hrow.at b 0 hbM (by decide)).trans (by rw [hMb]; rfl)
        have hc1 : wr.cell? ⟨g, b * 2 + 1, none⟩ = some (.int .u8 L[b].2) := (hrow.at b 1 hbM (by decide)).trans (by rw [hMb]; rfl)
        have htk : wo (L.take (b + 1)) who = wo (L.take b) who ++ wo [L[b]] who := by unfold wo; rw [List.take_succ_eq_append_getElem hlt, List.filter_append]
        have hdr1 : M.drop (b + 1) = L.drop (b + 1) := by
          have := congrArg (List.drop 1) hdr.out
          simpa [List.drop_drop, Nat.add_comm] using this
        by_cases he : L[b].1 = who
        · have heb : (L[b].1 == who) = true := by simpa using he
          have Heb := Lib.hid heb
          have hno : wo [L[b]] who = [] := by simp [wo, he]
          have Htk := Lib.hid htk
          have Hno := Lib.hid hno
          have Hdr1 := Lib.hid hdr1
          clear heb he htk hno hdr1 hMb hMn
          go_wp2_with fail
          refine (pred_any _ _ who q _ (Lib.cell?_alloc_some _ hqr) (by simp; omega)).mono ?_
          rintro e w' ⟨rfl, rfl⟩
          rw [Heb.out]
          go_wp2
          go_roundw
          case rel =>
            refine ⟨a, b + 1, M, rfl, by go_num, by omega, by omega, ?_, Hdr1.out, (hrow.of_block ?_), hgw.andThen (World.grownBy_alloc _ _ none) (by simp) |>.andThen (World.grownBy_alloc _ _ none) (by simp)⟩
            · show M.take a = _
              rw [Htk.out, Hno.out, List.append_nil]
              exact hta.out
            · intro b' hb'
              cases hb'
              rw [heap_alloc_old _ _ (by simp; omega), heap_alloc_old _ _ ggr]
          case measure => simp [intOf]; omega
        · have heb : (L[b].1 == who) = false := by simpa using he
          have Heb := Lib.hid heb
          have hyes : wo [L[b]] who = [L[b]] := by simp [wo, he]
          have Htk := Lib.hid htk
          have Hyes := Lib.hid hyes
          have haM : a < M.length := by omega
          have ha0 : wr.cell? ⟨g, a * 2, none⟩ = some (.int .i64 M[a].1) := hrow.at a 0 haM (by decide)
          have ha1 : wr.cell? ⟨g, a * 2 + 1, none⟩ = some (.int .u8 M[a].2) := hrow.at a 1 haM (by decide)
          have f0 := hrow.frozenN (a * 2)
          have f1 := hrow.frozenN (a * 2 + 1)
          obtain ⟨hr2, hg2⟩ := Row.set2 etHold (f := fun h => .int .i64 h.1) (g' := fun h => .int .u8 h.2) rfl hrow a L[b]
          have hta2 : (M.set a L[b]).take (a + 1) = M.take a ++ [L[b]] := by rw [List.take_succ_eq_append_getElem (by simpa using haM)]; simp [List.take_set_of_le]
          have hdr2 : (M.set a L[b]).drop (b + 1) = M.drop (b + 1) := by rw [List.drop_set_of_lt (by omega)]
          have Hta2 := Lib.hid hta2
          have Hdr2 := Lib.hid (hdr2.trans hdr1)
          clear heb he htk hyes hdr1 hMb hMn hta2 hdr2
          go_wp2_with fail
          refine (pred_any _ _ who q _ (Lib.cell?_alloc_some _ hqr) (by simp; omega)).mono ?_
          rintro e w' ⟨rfl, rfl⟩
          rw [Heb.out]
          go_wp2
          go_roundw
          case rel =>
            refine ⟨a + 1, b + 1, M.set a L[b], by go_num, by go_num, by omega, by omega, ?_, Hdr2.out, (hr2.of_block ?_), (hgw.trans hg2).andThen (World.grownBy_alloc _ _ none) (by simp) |>.andThen (World.grownBy_alloc _ _ none) (by simp)⟩
            · show (M.set a L[b]).take (a + 1) = _
              rw [Hta2.out, Htk.out, Hyes.out, hta.out]
            · intro b' hb'
              cases hb'
              rw [heap_alloc_old _ _ (by simp; omega), heap_alloc_old _ _ (by simpa using ggr)]
          case measure => simp [intOf]; omega
      · obtain rfl : b = L.length := by omega
        have hcap : L.length ≤ cap := by
          rcases hrow.shape with ⟨h', _⟩ | ⟨_, _, h', _, _, h, _⟩
          · simp at h'
          · simp only [Value.slice.injEq] at h'
            rw [h'.2.2]
            omega
        have hac : a < cap := by omega
        have hfin : M.take a = wo L who := by have := hta.out; rwa [List.take_length] at this
        have Hfin := Lib.hid hfin
        clear hfin hMn
        go_wp2_with ((with_reducible show wpList _ _ _ (Oper.mk none (Op.call (Call.mk (Callee.builtin Builtin.clear) _ _)) _ _ _ _ :: _) _ _); (refine wpList_clear_row etHold _ rfl _ 30 rfl Try.underlying30 zeroHold zeroHold1 base g cap L.length M a (L.length - a) (cap - a) (a * 2) rfl rfl hrow (by omega) (by omega) ?_); intro w3 hr3 hg3)
        go_ret
        refine ⟨.slice (some ⟨g, 0, none⟩) a cap, rfl, ?_, hgw.trans hg3, rfl⟩
        rw [← Hfin.out]
        exact hr3

theorem without_any (base : Nat) (v : Value) (L : List Hold) (who : Int) (w : World) (hr : Row etHold w base v L) :
    Calls Try.prog 51 #[v, .int .i64 who] w fun e w' => ∃ v', e = .returned v' ∧ Row etHold w' base v' (wo L who) ∧ w.grownBy w' v.ownBlock ∧ v'.ownBlock = v.ownBlock := by
  go_enter Try.func51, Try.ntmps51
  go_wp2_with fail
  refine (deleteFunc_any base v L who w.heap.size _ (hr.of_block (fun b h => heap_alloc_old _ _ (hr.lt b h).2)) (by simp) (by simp) (fun b h e => by have := (hr.lt b h).2; omega)).mono ?_
  rintro e w1 ⟨v', rfl, hr1, hg1, ho⟩
  go_wp2
  go_ret
  exact ⟨v', rfl, hr1, (World.grownBy_alloc w _ _).trans hg1, ho⟩
end Go.Proofs.Ytmolmeamnmefeaa
