/- Rows of numbers: sorted, compacted; who holds a spot. -/
import Derived.Test.YtmolmeamnmefeaaLock9
import Derived.Lib.SlKeysI
import Derived.Lib.OwnBridge
namespace Go.Proofs.Ytmolmeamnmefeaa
open Go.RowKit Go.Shelf Go.Proofs Go.Sort

theorem isInt64 : (Try.prog.info? 2).isSome = true := by kernel_rfl
noncomputable def etInt : ET Try.prog 2 Int where
  k := 1
  hk := by decide
  enc := fun x => [.int .i64 x]
  len := fun _ => rfl
  one := fun x u hu => by simp at hu; rw [hu]; rfl
  i := (Try.prog.info? 2).get isInt64
  z := .int .i64 0
  bytes := 8
  hi := (Option.some_get isInt64).symm
  hz := by kernel_rfl
  hsize := by kernel_rfl
  hby := by kernel_rfl
  hzs := rfl
theorem flat1 (L : List Int) : L.flatMap (fun x => [Value.int .i64 x]) = L.map encZ := by
  induction L with
  | nil => rfl
  | cons x L ih => simp [ih]

theorem rowInt {w : World} {base : Nat} {v : Value} {L : List Int} : Row etInt w base v L ↔ w.ownsRow base 2 1 v L.length (L.map encZ) := by
  unfold Row
  show w.ownsRow base _ 1 v L.length (L.flatMap (fun x => [Value.int .i64 x])) ↔ _
  rw [flat1]

def sortI (L : List Int) : List Int := L.mergeSort (fun x y => decide (x ≤ y))
theorem sortI_length (L : List Int) : (sortI L).length = L.length := by simp [sortI]
theorem sortI_perm (L : List Int) : (sortI L).Perm L := List.mergeSort_perm _ _
theorem sortI_mem {L : List Int} {s : Int} : s ∈ sortI L ↔ s ∈ L := (sortI_perm L).mem_iff
theorem sortI_sorted (L : List Int) : (sortI L).Pairwise (fun x y => x ≤ y) := by
  have := List.pairwise_mergeSort (le := fun x y : Int => decide (x ≤ y)) (fun a b c h1 h2 => by simp at *; omega) (fun a b => by simp; omega) L
  simpa [sortI] using this
theorem sortI_congr {A B : List Int} (h : A.Perm B) : sortI A = sortI B :=
  List.Perm.eq_of_pairwise (le := fun x y => x ≤ y) (fun x y _ _ h1 h2 => by omega) (sortI_sorted A) (sortI_sorted B) ((sortI_perm A).trans (h.trans (sortI_perm B).symm))

set_option maxHeartbeats 800000 in
theorem sortI_any (base : Nat) (v : Value) (L : List Int) (w : World) (hr : Row etInt w base v L) (hL : L.length ≤ 1099511627776) :
    Calls Try.prog 38 #[v] w fun e w' => e = .returned (.tuple #[]) ∧ Row etInt w' base v (sortI L) ∧ w.grownBy w' v.ownBlock := by
  have ho := rowInt.1 hr
  rcases ho.2 with ⟨rfl, h0⟩ | ⟨g, cap, cur, rfl, hb, hg, hn, hm, hs, ht⟩
  · have : L = [] := List.eq_nil_of_length_eq_zero h0
    subst this
    refine (AnyM.slices_Sort_int_none Try.sortInts none 0 w).mono ?_
    rintro e w' ⟨rfl, rfl⟩
    exact ⟨rfl, by simpa [sortI] using Row.nil etInt _ _, ⟨rfl, rfl, rfl, Nat.le_refl _, fun _ _ _ => rfl⟩⟩
  · have := AnyM.slices_Sort_int Try.sortInts g 0 cap L w (holds_of_block_i hg (by simpa using ht)) (Array.getElem?_eq_some_iff.1 hg).1 (by omega)
    refine this.mono ?_
    rintro e w' ⟨rfl, m, os, rfl⟩
    refine ⟨rfl, rowInt.2 ?_, grownBy_sorted_i _⟩
    rw [sortI_length]
    exact ownsRow_sorted_i (by simp) hb hg hn hm hs

/-- a map's keys, as the kit's datum -/
theorem ownsMap_of {w : World} {b : Nat} {m : List Hold} (h : MapAt mtHolds w b m) (hl : m.length ≤ maxLen) : ∃ D : DataW Unit, w.ownsMap Try.prog 2 (fun _ => some (.nil, [])) b m.length D ∧ Maps.size D = m.length ∧ (intKeys D).Perm (m.map (·.1)) := by
  obtain ⟨es, clock, hb, hs, he, hk⟩ := h
  have hsz : es.size = m.length := by have := congrArg List.length he; simpa using this
  have hkey : ∀ x ∈ es.toList, ∃ p ∈ m, x.key = .int .i64 p.1 := by
    intro x hx
    obtain ⟨j, hj⟩ := List.getElem?_of_mem hx
    obtain ⟨p, hp, hpk, _⟩ := map_at (M := mtHolds) he hj
    exact ⟨p, List.mem_of_getElem? hp, hpk⟩
  have hrd : ∀ x ∈ es.toList, ∀ n, x.key = .int .i64 n → i64 n → Go.WideElems.rd Try.prog 2 (fun _ => some ((.nil : DataW Unit), [])) x = some (.int .i64 n, .nil) := by
    intro x _ n hx hn
    unfold Go.WideElems.rd
    rw [hx, Maps.keyOf_int_mk Try.underlying2 hn]
    rfl
  refine ⟨_, ⟨es, clock, hb, ⟨by omega, hs, fun x hx => ?_⟩, by omega, rfl⟩, ?_, ?_⟩
  · obtain ⟨p, hp, hx'⟩ := hkey x hx
    exact ⟨_, hrd x hx p.1 hx' (hk p hp)⟩
  · rw [Maps.size_eq, (Go.WideShapes.sorted_perm _).length_eq]
    simp [hsz]
  · show (List.map _ _).Perm _
    refine ((Go.WideShapes.sorted_perm _).map _).trans ?_
    rw [List.map_map]
    have e : es.toList.map ((fun p : Lit × DataW Unit => _root_.Go.intOf p.1) ∘ Go.WideElems.rg Try.prog 2 (fun _ => some ((.nil : DataW Unit), []))) = m.map (·.1) := by
      have e1 : es.toList.map (fun e => e.key) = m.map (fun p => Value.int .i64 p.1) := by
        have := congrArg (List.map Prod.fst) he
        rw [List.map_map, List.map_map] at this
        exact this
      have e2 : es.toList.map ((fun p : Lit × DataW Unit => _root_.Go.intOf p.1) ∘ Go.WideElems.rg Try.prog 2 (fun _ => some ((.nil : DataW Unit), []))) = (es.toList.map (fun e => e.key)).map (fun v => match v with | .int _ n => n | _ => 0) := by
        rw [List.map_map]
        refine List.map_congr_left (fun x hx => ?_)
        obtain ⟨p, hp, hx'⟩ := hkey x hx
        simp only [Function.comp, Go.WideElems.rg, hrd x hx p.1 hx' (hk p hp), hx']
        rfl
      rw [e2, e1, List.map_map]
      rfl
    rw [e]

def dedupI (L : List Int) : List Int := Lib.compactUpTo L.toArray L.length

theorem dedupI_le (L : List Int) : (dedupI L).length ≤ L.length := by
  unfold dedupI Lib.compactUpTo
  rw [List.length_map]
  exact Nat.le_trans (List.length_filter_le _ _) (by simp)

set_option maxHeartbeats 800000 in
theorem compactI_any (base : Nat) (v : Value) (L : List Int) (w : World) (hr : Row etInt w base v L) :
    Calls Try.prog 39 #[v] w fun e w' => ∃ v', e = .returned v' ∧ Row etInt w' base v' (dedupI L) ∧ w.grownBy w' v.ownBlock ∧ v'.ownBlock = v.ownBlock := by
  have hmax := hr.len_le
  unfold maxLen at hmax
  have ho := rowInt.1 hr
  rcases hr.shape with ⟨rfl, rfl⟩ | ⟨g, cap, rfl, _, hg, hlc, _⟩
  · go_enter Try.func39, Try.ntmps39
    go_wp2
    go_ret
    exact ⟨.slice none 0 0, rfl, Row.nil etInt _ _, ⟨rfl, rfl, rfl, Nat.le_refl _, fun _ _ _ => rfl⟩, rfl⟩
  · have hH : Holds (Value.int .i64) w g 0 L.toArray := by
      obtain ⟨g', cap', e, _, _, _, _, _, h⟩ := Lib.holds_of_ownsRow ho (by simp)
      simp only [Value.slice.injEq, Option.some.injEq, Addr.mk.injEq, and_true] at e
      obtain ⟨rfl, _⟩ := e
      exact h
    have := AnyE.slices_Compact Try.compactInts (Value.int .i64) (fun _ => rfl) (EqlAt.intD _ _ _) (NeqAt.intD _ _ _) 0 (fun w => by kernel_rfl) g 0 cap L.toArray w hH (by simpa using hmax) (by simpa using hlc)
    refine this.mono ?_
    rintro e w' ⟨rfl, q, rfl⟩
    have hle := dedupI_le L
    have e1 : Lib.compactUpTo L.toArray L.toArray.size = dedupI L := rfl
    rw [e1]
    refine ⟨_, rfl, rowInt.2 ?_, ⟨rfl, rfl, rfl, by simp, fun k hk hne => ?_⟩, rfl⟩
    · have h := Lib.ownsRow_putRow (q := q) (k := (dedupI L).length) (ys := dedupI L ++ List.replicate (L.length - (dedupI L).length) 0) ho (by simp; omega) hle
      rw [List.take_left] at h
      simpa using h
    · have : g ≠ k := fun e => hne (by rw [e]; rfl)
      simp [putRow, mapBlock, Sort.ahead, Array.getElem?_modify, this]

theorem keys_any (b : Nat) (w : World) :
    Calls Try.prog 43 #[.map (some b)] w fun e w' => e = .returned (.func (.func 63) #[] #[.pointer (some ⟨w.heap.size, 0, none⟩)]) ∧ w' = w.alloc (.cells #[.map (some b)] 66) := by
  refine (callsIn_wide (n := 6)).1 ?_
  exact AnyZI.keys_in Try.keysHolds Fence.wide 6 trivial rfl (some b) w

theorem sortsInts (m : Nat) : AnyZI.SortsIn Try.prog Try.sortedInts_ren Fence.wide m :=
  ⟨fun blk off cap ss W hH hblk hsz => callsIn_wide.2 (AnyM.slices_Sort_int Try.sortInts blk off cap ss W hH hblk hsz),
   fun p cap W => callsIn_wide.2 (AnyM.slices_Sort_int_none Try.sortInts p cap W)⟩

theorem sorted_any (b q : Nat) (m : List Hold) (w : World) (h : MapAt mtHolds w b m) (hl : m.length ≤ 1099511627776) (hq : w.cell? ⟨q, 0, none⟩ = some (.map (some b))) (lq : q < w.heap.size) :
    Calls Try.prog 42 #[.func (.func 63) #[] #[.pointer (some ⟨q, 0, none⟩)]] w fun e w' => ∃ v, e = .returned v ∧ Row etInt w' w.heap.size v (sortI (m.map (·.1))) ∧ Below w.heap.size w w' := by
  obtain ⟨D, hown, hDs, hDk⟩ := ownsMap_of h (by unfold maxLen; omega)
  have hseq : SeqGives Fence.wide 2 Try.prog 63 #[.pointer (some ⟨q, 0, none⟩)] encZ (fun ss => ss.Perm (intKeys D)) (Maps.size D) w :=
    AnyZI.keys_gives (ρ := Try.keysHolds_ren) { Try.keysHolds with } Fence.wide _ trivial rfl (by omega) q b m.length D _ lq hq hown
  refine (callsIn_wide (n := 5)).1 ?_
  have cS := AnyZI.sorted_in Try.sortedInts Fence.wide 5 trivial trivial trivial trivial rfl (by omega) (sortsInts _) (enters_of Try.func38 (by kernel_rfl) rfl) 63 #[.pointer (some ⟨q, 0, none⟩)] trivial (enters_of Try.func63 (by kernel_rfl) rfl) _ _ (by rw [hDs]; unfold maxLen; omega) (by rw [hDs]; omega) _ hseq
  refine cS.mono ?_
  rintro e w' ⟨v, ss, rfl, hS, hrow, _, hb⟩
  have e1 : (ss.mergeSort (fun x y => decide (x ≤ y))) = sortI (m.map (·.1)) := sortI_congr (hS.trans hDk)
  rw [e1] at hrow
  refine ⟨v, rfl, rowInt.2 ?_, hb⟩
  have hlen : ss.length = (sortI (m.map (·.1))).length := by rw [← e1]; simp
  rw [← hlen]
  exact hrow
end Go.Proofs.Ytmolmeamnmefeaa
