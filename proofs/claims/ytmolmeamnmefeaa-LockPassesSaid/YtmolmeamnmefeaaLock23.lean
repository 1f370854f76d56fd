/- Of an ordered row of spots, each once. -/
import Derived.Test.YtmolmeamnmefeaaLock22
import Derived.Laws.StructEq
namespace Go.Proofs.Ytmolmeamnmefeaa
open Go.RowKit Go.Shelf Go.Proofs Go.Sort

theorem onceS_snoc : ∀ (l : List Spot) (y x : Spot), onceS (l ++ [y] ++ [x]) = if y = x then onceS (l ++ [y]) else onceS (l ++ [y]) ++ [x]
  | [], y, x => by
    simp only [List.nil_append, List.cons_append]
    unfold onceS
    split
    · rename_i h; subst h; simp [onceS]
    · simp [onceS]
  | [a], y, x => by
    have h := onceS_snoc [] y x
    simp only [List.nil_append, List.cons_append] at h ⊢
    conv => lhs; unfold onceS
    rw [h]
    rw [show onceS [a, y] = if a = y then onceS [y] else a :: onceS [y] from rfl]
    split <;> split <;> simp
  | a :: b :: l, y, x => by
    have h := onceS_snoc (b :: l) y x
    simp only [List.cons_append] at h ⊢
    conv => lhs; unfold onceS
    rw [h]
    conv => rhs; unfold onceS
    split <;> split <;> simp
theorem onceS_take (L : List Spot) (k : Nat) (hk : k + 1 < L.length) : onceS (L.take (k + 2)) = if L[k] = L[k + 1] then onceS (L.take (k + 1)) else onceS (L.take (k + 1)) ++ [L[k + 1]] := by
  rw [List.take_succ_eq_append_getElem (by omega : k + 1 < L.length), List.take_succ_eq_append_getElem (by omega : k < L.length)]
  exact onceS_snoc _ _ _
theorem onceS_le : ∀ (l : List Spot), (onceS l).length ≤ l.length
  | [] => by simp [onceS]
  | [x] => by simp [onceS]
  | x :: y :: l => by
    have := onceS_le (y :: l)
    unfold onceS
    split <;> simp at * <;> omega
theorem onceS_short {l : List Spot} (h : l.length < 2) : onceS l = l := by
  match l, h with
  | [], _ => rfl
  | [x], _ => rfl

theorem eqInSpot (x y : Spot) (w : World) : (Op.equalIn 10000 26 (.agg #[.int .i64 x.1, .bool x.2.1, .int .i64 x.2.2]) (.agg #[.int .i64 y.1, .bool y.2.1, .int .i64 y.2.2])).run Try.prog w = .ok (decide (x = y)) w := by
  obtain ⟨a, b, c⟩ := x
  obtain ⟨a', b', c'⟩ := y
  have u3 := Try.underlying3
  have a3 := Try.isAgg3
  have z3 := Try.sizeOf3
  have u4 := Try.underlying4
  have a4 := Try.isAgg4
  have z4 := Try.sizeOf4
  have hS : Try.prog.underlying 26 = some (.struct (Try.prog.fieldsOf 26)) := by kernel_rfl
  have hp : Try.prog.stoodInHeld 26 = false := by kernel_rfl
  rw [show (10000 : Nat) = 9999 + 1 from rfl, run_equalIn_agg w 9999 26 _ _ hS hp]
  simp only [Program.fieldsOf, Try.underlying26]
  go_simp
  by_cases h1 : a = a' <;> by_cases h2 : b = b' <;> by_cases h3 : c = c' <;> simp [h1, h2, h3]

theorem zeroSpot1 : ∀ u ∈ etSpot.z.cells.toList, u.oneCell' = true := by
  intro u hu
  have h : u ∈ [Value.int .i64 0, .bool false, .int .i64 0] := hu
  simp at h
  rcases h with rfl | rfl | rfl <;> rfl
/-- storing a whole element of three cells -/
theorem Row.set3 {P : Program} {e : TypeId} {α : Type} (E : ET P e α) {f g' h' : α → Value} (he : E.enc = fun x => [f x, g' x, h' x]) {w : World} {base g n cap : Nat} {L : List α} (h : Row E w base (.slice (some ⟨g, 0, none⟩) n cap) L) (i : Nat) (x : α) :
    Row E (((w.setCell ⟨g, i * 3, none⟩ (f x)).setCell ⟨g, i * 3 + 1, none⟩ (g' x)).setCell ⟨g, i * 3 + 2, none⟩ (h' x)) base (.slice (some ⟨g, 0, none⟩) n cap) (L.set i x) ∧ w.grownBy (((w.setCell ⟨g, i * 3, none⟩ (f x)).setCell ⟨g, i * 3 + 1, none⟩ (g' x)).setCell ⟨g, i * 3 + 2, none⟩ (h' x)) (some g) := by
  have hn : n = L.length := by
    rcases h.shape with ⟨h', _⟩ | ⟨_, _, h', _⟩
    · simp at h'
    · simp only [Value.slice.injEq] at h'
      exact h'.2.1
  subst hn
  obtain ⟨h1, g1⟩ := World.ownsRow.stored h (i * 3) (f x)
  obtain ⟨h2, g2⟩ := World.ownsRow.stored h1 (i * 3 + 1) (g' x)
  obtain ⟨h3, g3⟩ := World.ownsRow.stored h2 (i * 3 + 2) (h' x)
  refine ⟨?_, (g1.trans g2).trans g3⟩
  unfold Row
  rw [List.length_set]
  have e1 := flat_set3 (f := f) (g := g') (h := h') L i x
  rw [he] at h3 ⊢
  rw [← e1]
  exact h3

set_option maxRecDepth 100000 in
set_option maxHeartbeats 3200000 in
theorem compactS_any (base : Nat) (v : Value) (L : List Spot) (w : World) (hr : Row etSpot w base v L) :
    Calls Try.prog 35 #[v] w fun e w' => ∃ v', e = .returned v' ∧ Row etSpot w' base v' (onceS L) ∧ w.grownBy w' v.ownBlock ∧ v'.ownBlock = v.ownBlock := by
  have hmax := hr.len_le
  unfold maxLen at hmax
  have hg0 : ∀ b, w.grownBy w b := fun b => ⟨rfl, rfl, rfl, Nat.le_refl _, fun _ _ _ => rfl⟩
  rcases hr.shape with ⟨rfl, rfl⟩ | ⟨g, cap, rfl, hbg, hg, hlc, hcm, hc, hfz⟩
  · go_enter Try.func35, Try.ntmps35
    go_wp2
    go_ret
    exact ⟨.slice none 0 0, rfl, Row.nil etSpot _ _, hg0 _, rfl⟩
  · unfold maxLen at hcm
    by_cases h2 : L.length < 2
    · have e := onceS_short h2
      have E := Lib.hid e
      have Hr := Lib.hid hr
      clear e hr hc hfz
      go_enter Try.func35, Try.ntmps35
      go_wp2
      go_ret
      exact ⟨_, rfl, by rw [E.out]; exact Hr.out, hg0 _, rfl⟩
    · have Hr := Lib.hid hr
      have Hc := Lib.hid hc
      have Hg0 := Lib.hid hg0
      clear hr hc hfz hg0
      go_enter Try.func35, Try.ntmps35
      go_wp2_with fail
      go_loopw [3] (fun i wr => ∃ kk j : Nat, kk ≤ L.length ∧ i = .int .i64 kk ∧ Hid (kk = j + 1) ∧ Hid (onceS (L.take (j + 1)) = L.take (j + 1)) ∧ ∃ q, wr = w.drewN q) (fun i _ => L.length - (intOf i).toNat)
      case atStart =>
        refine ⟨1, 0, by omega, rfl, rfl, ?_, 0, rfl⟩
        show onceS (L.take 1) = _
        exact onceS_short (by simp; omega)
      case round =>
        obtain ⟨kk, j, hk, rfl, hkj, hon, q, rfl⟩ := hrel
        by_cases hlt : kk < L.length
        · have hj : j + 1 < L.length := by rw [← hkj.out]; exact hlt
          have k0 : w.cell? ⟨g, j * 3, none⟩ = some (.int .i64 L[j].1) := Hc.out j 0 (by omega) (by decide)
          have k1 : w.cell? ⟨g, j * 3 + 1, none⟩ = some (.bool L[j].2.1) := Hc.out j 1 (by omega) (by decide)
          have k2 : w.cell? ⟨g, j * 3 + 2, none⟩ = some (.int .i64 L[j].2.2) := Hc.out j 2 (by omega) (by decide)
          have m0 : w.cell? ⟨g, kk * 3, none⟩ = some (.int .i64 L[kk].1) := Hc.out kk 0 hlt (by decide)
          have m1 : w.cell? ⟨g, kk * 3 + 1, none⟩ = some (.bool L[kk].2.1) := Hc.out kk 1 hlt (by decide)
          have m2 : w.cell? ⟨g, kk * 3 + 2, none⟩ = some (.int .i64 L[kk].2.2) := Hc.out kk 2 hlt (by decide)
          have hot := onceS_take L j hj
          simp only [← hkj.out] at hot
          have Hot := Lib.hid hot
          clear hot
          generalize hx : L[j] = x at k0 k1 k2 Hot
          generalize hy : L[kk] = y at m0 m1 m2 Hot
          have Hx := Lib.hid hx
          have Hy := Lib.hid hy
          clear hx hy
          have b1 : (0 : Int) ≤ (kk : Int) := by omega
          have b2 : (kk : Int) < (L.length : Int) := by omega
          have b3 : IntKind.i64.wrap ((kk : Int) - 1) = (j : Int) := by rw [IntWalk.i64_in _ (by omega)]; have := hkj.out; omega
          have b4 : (0 : Int) ≤ (j : Int) := by omega
          have b5 : (j : Int) < (L.length : Int) := by omega
          by_cases hyx : y = x
          · have hes : ∀ w', (Op.equalIn 10000 26 (.agg #[.int .i64 y.1, .bool y.2.1, .int .i64 y.2.2]) (.agg #[.int .i64 x.1, .bool x.2.1, .int .i64 x.2.2])).run Try.prog w' = .ok true w' := fun w' => by
              rw [eqInSpot y x w']
              simp [hyx]
            have Hyx := Lib.hid hyx
            have b6 : (kk : Int) < (cap : Int) := by omega
            have b7 : ¬ cap = kk := by omega
            clear hyx
            go_wp2_with fail
            go_quiet (fail)
            clear hes k0 k1 k2 m0 m1 m2 b3 b4 b5
            go_wp2_with fail
            have hrow0 : Row etSpot (w.drewN (q + nq)) base (.slice (some ⟨g, 0, none⟩) L.length cap) (onceS (L.take (kk + 1)) ++ L.drop kk) := by
              have h1 := hkj.out
              have e : onceS (L.take (kk + 1)) = L.take kk := by
                subst h1
                show onceS (L.take (j + 2)) = _
                rw [Hot.out, if_pos (Hx.out.symm.trans (by rw [Hx.out]; exact Hyx.out.symm)), hon.out]
              rw [e, List.take_append_drop]
              exact Hr.out.of_block (fun _ _ => rfl)
            have hlen0 : (onceS (L.take (kk + 1))).length = kk := by
              have h1 := hkj.out
              subst h1
              show (onceS (L.take (j + 2))).length = _
              rw [Hot.out, if_pos (Hx.out.symm.trans (by rw [Hx.out]; exact Hyx.out.symm)), hon.out]
              simp
              omega
            have Hrow0 := Lib.hid hrow0
            have Hlen0 := Lib.hid hlen0
            have Hg1 : Hid (w.grownBy (w.drewN (q + nq)) (some g)) := ⟨rfl, rfl, rfl, Nat.le_refl _, fun _ _ _ => rfl⟩
            clear hrow0 hlen0
            generalize w.drewN (q + nq) = wz at Hrow0 Hg1 ⊢
            go_loopw [3, 5] (fun a b wr => ∃ m i : Nat, a = .int .i64 m ∧ b = .int .i64 i ∧ 1 ≤ i ∧ kk + i ≤ L.length ∧ m < kk + i ∧ Hid ((onceS (L.take (kk + i))).length = m) ∧ Hid (Row etSpot wr base (.slice (some ⟨g, 0, none⟩) L.length cap) (onceS (L.take (kk + i)) ++ L.drop m)) ∧ Hid (w.grownBy wr (some g))) (fun _ b _ => L.length - (intOf b).toNat)
            case atStart => exact ⟨kk, 1, rfl, rfl, by omega, by omega, by omega, Hlen0, Hrow0, Hg1⟩
            case round =>
              obtain ⟨m, i, rfl, rfl, hi1, hik, hmk, hlen, hrow, hgr⟩ := hrel
              by_cases hil : kk + i < L.length
              · obtain ⟨i0, hi0⟩ : ∃ i0, Hid (i = i0 + 1) := ⟨i - 1, by show i = i - 1 + 1; omega⟩
                have hsub : (L.take (kk + i)).length = kk + i := by simp; omega
                have hon2 : onceS (L.take (kk + i + 1)) = if L[kk + i0]'(by have := hi0.out; omega) = L[kk + i] then onceS (L.take (kk + i)) else onceS (L.take (kk + i)) ++ [L[kk + i]] := by
                  have h1 := hi0.out
                  subst h1
                  exact onceS_take L (kk + i0) hil
                have hM : ∀ (p : Nat) (hp : p < L.length), m ≤ p → ∃ hp' : p < (onceS (L.take (kk + i)) ++ L.drop m).length, (onceS (L.take (kk + i)) ++ L.drop m)[p]'hp' = L[p] := by
                  intro p hp hmp
                  have h1 := hlen.out
                  refine ⟨by simp; omega, ?_⟩
                  rw [List.getElem_append_right (by omega), List.getElem_drop]
                  congr 1
                  omega
                have hcell : ∀ (p q : Nat) (hp : p < L.length), m ≤ p → q < 3 → wr.cell? ⟨g, p * 3 + q, none⟩ = (etSpot.enc L[p])[q]? := by
                  intro p q hp hmp hq
                  obtain ⟨hp', e⟩ := hM p hp hmp
                  have := hrow.out.at p q hp' hq
                  rw [e] at this
                  exact this
                have hio := hi0.out
                have s1 : kk * 3 + i * 3 = (kk + i) * 3 := by omega
                have s0 : kk * 3 + i0 * 3 = (kk + i0) * 3 := by omega
                have k0 : wr.cell? ⟨g, kk * 3 + i0 * 3, none⟩ = some (.int .i64 (L[kk + i0]'(by omega)).1) := by rw [s0]; exact hcell (kk + i0) 0 (by omega) (by omega) (by decide)
                have k1 : wr.cell? ⟨g, kk * 3 + i0 * 3 + 1, none⟩ = some (.bool (L[kk + i0]'(by omega)).2.1) := by rw [s0]; exact hcell (kk + i0) 1 (by omega) (by omega) (by decide)
                have k2 : wr.cell? ⟨g, kk * 3 + i0 * 3 + 2, none⟩ = some (.int .i64 (L[kk + i0]'(by omega)).2.2) := by rw [s0]; exact hcell (kk + i0) 2 (by omega) (by omega) (by decide)
                have m0 : wr.cell? ⟨g, kk * 3 + i * 3, none⟩ = some (.int .i64 L[kk + i].1) := by rw [s1]; exact hcell (kk + i) 0 hil (by omega) (by decide)
                have m1 : wr.cell? ⟨g, kk * 3 + i * 3 + 1, none⟩ = some (.bool L[kk + i].2.1) := by rw [s1]; exact hcell (kk + i) 1 hil (by omega) (by decide)
                have m2 : wr.cell? ⟨g, kk * 3 + i * 3 + 2, none⟩ = some (.int .i64 L[kk + i].2.2) := by rw [s1]; exact hcell (kk + i) 2 hil (by omega) (by decide)
                generalize hp1 : L[kk + i0]'(by omega) = p1 at k0 k1 k2 hon2
                generalize hp2 : L[kk + i] = p2 at m0 m1 m2 hon2
                have Hon2 := Lib.hid hon2
                have Hst := Lib.hid hcell
                have Hp2 := Lib.hid hp2
                have c1 : (0 : Int) ≤ (i : Int) := by omega
                have c2 : (i : Int) < ((L.length - kk : Nat) : Int) := by omega
                have c3 : IntKind.i64.wrap ((i : Int) - 1) = (i0 : Int) := by rw [IntWalk.i64_in _ (by omega)]; omega
                have c4 : (0 : Int) ≤ (i0 : Int) := by omega
                have c5 : (i0 : Int) < ((L.length - kk : Nat) : Int) := by omega
                clear hon2 hM hcell hio s1 s0 hp1 hp2 hsub
                by_cases hpe : p2 = p1
                · have hes : ∀ w', (Op.equalIn 10000 26 (.agg #[.int .i64 p2.1, .bool p2.2.1, .int .i64 p2.2.2]) (.agg #[.int .i64 p1.1, .bool p1.2.1, .int .i64 p1.2.2])).run Try.prog w' = .ok true w' := fun w' => by
                    rw [eqInSpot p2 p1 w']
                    simp [hpe]
                  have Hpe := Lib.hid hpe
                  clear hpe
                  go_wp2_with fail
                  go_quiet (fail)
                  go_wp2
                  go_roundw
                  case rel =>
                    refine ⟨m, i + 1, rfl, by go_num, by omega, by omega, by omega, ?_, ?_, hgr.out.trans ⟨rfl, rfl, rfl, Nat.le_refl _, fun _ _ _ => rfl⟩⟩
                    · show (onceS (L.take (kk + i + 1))).length = m
                      rw [Hon2.out, if_pos Hpe.out.symm]
                      exact hlen.out
                    · show Row etSpot _ base _ (onceS (L.take (kk + i + 1)) ++ L.drop m)
                      rw [Hon2.out, if_pos Hpe.out.symm]
                      exact hrow.out.of_block (fun _ _ => rfl)
                  case measure => simp [intOf]; omega
                · have hes : ∀ w', (Op.equalIn 10000 26 (.agg #[.int .i64 p2.1, .bool p2.2.1, .int .i64 p2.2.2]) (.agg #[.int .i64 p1.1, .bool p1.2.1, .int .i64 p1.2.2])).run Try.prog w' = .ok false w' := fun w' => by
                    rw [eqInSpot p2 p1 w']
                    simp [hpe]
                  have Hpe := Lib.hid hpe
                  have hml : m < L.length := by omega
                  have q0 := Hst.out m 0 hml (Nat.le_refl _) (by decide)
                  have q1 := Hst.out m 1 hml (Nat.le_refl _) (by decide)
                  have q2 := Hst.out m 2 hml (Nat.le_refl _) (by decide)
                  have r0 : wr.cell? ⟨g, m * 3, none⟩ = some (.int .i64 L[m].1) := q0
                  have r1 : wr.cell? ⟨g, m * 3 + 1, none⟩ = some (.bool L[m].2.1) := q1
                  have r2 : wr.cell? ⟨g, m * 3 + 2, none⟩ = some (.int .i64 L[m].2.2) := q2
                  have f0 := hrow.out.frozenN (m * 3)
                  have f1 := hrow.out.frozenN (m * 3 + 1)
                  have f2 := hrow.out.frozenN (m * 3 + 2)
                  generalize L[m] = pm at r0 r1 r2
                  have d1 : (0 : Int) ≤ (m : Int) := by omega
                  have d2 : (m : Int) < (L.length : Int) := by omega
                  clear hpe q0 q1 q2
                  go_wp2_with fail
                  go_quiet (fail)
                  go_wp2_with fail
                  go_roundw
                  case rel =>
                    have hs3 := Row.set3 etSpot (f := fun s : Spot => .int .i64 s.1) (g' := fun s : Spot => .bool s.2.1) (h' := fun s : Spot => .int .i64 s.2.2) rfl (w := wr.drewN nq) (hrow.out.of_block (fun _ _ => rfl)) m p2
                    have hset : (onceS (L.take (kk + i)) ++ L.drop m).set m p2 = onceS (L.take (kk + i + 1)) ++ L.drop (m + 1) := by
                      rw [Hon2.out, if_neg (fun e => Hpe.out e.symm)]
                      have h1 := hlen.out
                      rw [List.set_append, if_neg (by omega), h1, Nat.sub_self, List.drop_eq_getElem_cons hml, List.set_cons_zero, List.append_assoc]
                      rfl
                    refine ⟨m + 1, i + 1, by go_num, by go_num, by omega, by omega, by omega, ?_, ?_, hgr.out.trans (⟨hs3.2.os, hs3.2.tape, hs3.2.output, hs3.2.size, hs3.2.block⟩)⟩
                    · show (onceS (L.take (kk + i + 1))).length = m + 1
                      rw [Hon2.out, if_neg (fun e => Hpe.out e.symm), List.length_append, hlen.out]
                      rfl
                    · show Row etSpot _ base _ (onceS (L.take (kk + i + 1)) ++ L.drop (m + 1))
                      rw [← hset]
                      exact hs3.1
                  case measure => simp [intOf]; omega
              · have hfull : L.take (kk + i) = L := List.take_of_length_le (by omega)
                rw [hfull] at hlen hrow
                have b8 : (m : Int) < (L.length : Int) := by omega
                have b9 : (0 : Int) ≤ (m : Int) := by omega
                have b10 : (m : Int) ≤ (cap : Int) := by omega
                have b11 : (L.length : Int) ≤ (cap : Int) := by omega
                have b12 : ¬ cap = m := by omega
                have hlenM : (onceS L ++ L.drop m).length = L.length := by
                  have := hlen.out
                  have := onceS_le L
                  simp
                  omega
                obtain ⟨w', hrun, hrow', hgr'⟩ := run_clear_row etSpot hrow.out Try.underlying46 zeroSpot zeroSpot1 m (L.length - m) (cap - m) (by omega) (by omega) 0
                have e3 : etSpot.k = 3 := rfl
                rw [e3] at hrun
                have hrow2 : Row etSpot w' base (.slice (some ⟨g, 0, none⟩) m cap) (onceS L) := by
                  have h1 := hlen.out
                  rw [← h1, List.take_left] at hrow'
                  rw [h1] at hrow'
                  exact hrow'
                have Hrow2 := Lib.hid hrow2
                have Hgr' := Lib.hid hgr'
                clear hfull hrow' hgr' hrow2 e3
                go_wp2
                go_ret
                exact ⟨_, rfl, Hrow2.out, hgr.out.trans Hgr'.out, rfl⟩
          · have hes : ∀ w', (Op.equalIn 10000 26 (.agg #[.int .i64 y.1, .bool y.2.1, .int .i64 y.2.2]) (.agg #[.int .i64 x.1, .bool x.2.1, .int .i64 x.2.2])).run Try.prog w' = .ok false w' := fun w' => by
              rw [eqInSpot y x w']
              simp [hyx]
            have Hyx := Lib.hid hyx
            clear hyx
            go_wp2_with fail
            go_quiet (fail)
            go_wp2
            go_roundw
            case rel =>
              refine ⟨kk + 1, j + 1, by omega, by go_num, by show kk + 1 = _; rw [hkj.out], ?_, q + nq, by simp⟩
              show onceS (L.take (j + 2)) = L.take (j + 2)
              rw [Hot.out, if_neg (fun e => Hyx.out e.symm), List.take_succ_eq_append_getElem hj]
              have h1 := hkj.out
              subst h1
              rw [hon.out, Hy.out]
            case measure => simp [intOf]; omega
        · have e : onceS L = L := by
            have h1 := hkj.out
            have h2 := hon.out
            rw [← h1, List.take_of_length_le (by omega)] at h2
            exact h2
          have E := Lib.hid e
          clear e
          go_wp2
          go_ret
          exact ⟨_, rfl, by rw [E.out]; exact Hr.out.of_block (fun _ _ => rfl), ⟨rfl, rfl, rfl, Nat.le_refl _, fun _ _ _ => rfl⟩, rfl⟩
end Go.Proofs.Ytmolmeamnmefeaa
