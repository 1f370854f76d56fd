/- Rows of spots: sorted. -/
import Derived.Test.YtmolmeamnmefeaaLock7
namespace Go.Proofs.Ytmolmeamnmefeaa
open Go.RowKit Go.Shelf Go.Proofs Go.Sort

section
variable {P : Program} {e : TypeId} {α : Type} [Inhabited α] (E : ET P e α)
theorem flatK_list (L : List α) : (flatK E.enc E.k L.toArray).toList = L.flatMap E.enc := by
  have hk := E.hk
  apply List.ext_getElem?
  intro t
  by_cases ht : t < L.length * E.k
  · have h1 : t / E.k < L.length := Nat.div_lt_of_lt_mul (by rwa [Nat.mul_comm])
    have h2 : t % E.k < E.k := Nat.mod_lt _ hk
    have e1 := flat_get E.len L (t / E.k) (t % E.k) h2
    have e2 : t / E.k * E.k + t % E.k = t := by rw [Nat.mul_comm]; exact Nat.div_add_mod t E.k
    rw [e2] at e1
    rw [e1, List.getElem?_eq_getElem h1]
    have h3 : (E.enc L[t / E.k]).length = E.k := E.len _
    have h6 : (E.enc L[t / E.k])[t % E.k]? = some ((E.enc L[t / E.k])[t % E.k]'(by rw [h3]; exact h2)) := List.getElem?_eq_getElem _
    show _ = (E.enc L[t / E.k])[t % E.k]?
    rw [h6]
    have h4 : t < (flatK E.enc E.k L.toArray).size := by simp; exact ht
    rw [Array.getElem?_toList, Array.getElem?_eq_getElem h4]
    have h5 := get_flatK E.enc E.k L.toArray t (by simpa using ht)
    rw [getElem!_pos (flatK E.enc E.k L.toArray) t h4] at h5
    rw [h5]
    simp [h1, getElem!_pos, h3, h2]
  · rw [List.getElem?_eq_none (by simp; omega), List.getElem?_eq_none (by rw [flat_length E.len]; omega)]

variable {E} {w : World} {base g n cap : Nat} {L : List α}
theorem Row.holdsK (h : Row E w base (.slice (some ⟨g, 0, none⟩) n cap) L) : HoldsK E.enc E.k w g 0 L.toArray := by
  intro j hj
  refine ⟨?_, h.frozenN _⟩
  have hf := flatK_list E L
  have h1 : (L.flatMap E.enc)[j]? = some (flatK E.enc E.k L.toArray)[j]! := by
    rw [← hf, Array.getElem?_toList, Array.getElem?_eq_getElem hj, getElem!_pos (flatK E.enc E.k L.toArray) j hj]
  have h2 := World.ownsRow.cells (g := g) h rfl j _ h1
  rw [Nat.zero_add]
  have h3 : (⟨g, 0, none⟩ : Addr).add j = ⟨g, j, none⟩ := by
    cases j with
    | zero => rfl
    | succ j => simp [Addr.add]
  rwa [h3] at h2

theorem Row.sortedK (h : Row E w base (.slice (some ⟨g, 0, none⟩) n cap) L) (M : List α) (hl : M.length = L.length) (m : Nat) (os : Array Obj) :
    Row E (sortWorldK E.enc E.k w g 0 m M.toArray os) base (.slice (some ⟨g, 0, none⟩) n cap) M ∧ w.grownBy (sortWorldK E.enc E.k w g 0 m M.toArray os) (some g) := by
  have hn := h.lenN
  have hg := (h.lt g rfl).2
  have hf := flatK_list E M
  have hfs : (flatK E.enc E.k M.toArray).size = M.length * E.k := by simp
  constructor
  · refine ⟨by rw [flat_length E.len], ?_⟩
    rcases h.2 with ⟨h', _⟩ | ⟨g', cap', cur, h', hb, hh, hnc, hcm, hcs, htake⟩
    · simp at h'
    · simp only [Value.slice.injEq, Option.some.injEq, Addr.mk.injEq, and_true] at h'
      obtain ⟨rfl, _, rfl⟩ := h'
      refine Or.inr ⟨g, cap, putCells id 0 (flatK E.enc E.k M.toArray) cur, by rw [hl, hn], hb, ?_, by omega, hcm, by simpa [putCells] using hcs, ?_⟩
      · unfold sortWorldK putRowK
        rw [heap_grow_old _ _ (by simpa using hg)]
        simp [putRow, mapBlock, Sort.ahead, Array.getElem?_modify, hh, onCells]
      · have hle : M.length * E.k ≤ cur.size := by rw [hcs]; exact Nat.mul_le_mul_right _ (by omega)
        rw [← hf]
        apply List.ext_getElem?
        intro j
        by_cases hj : j < M.length * E.k
        · rw [List.getElem?_take_of_lt hj, Array.getElem?_toList, Array.getElem?_toList]
          have h1 : j < cur.size := by omega
          have h2 : j < (flatK E.enc E.k M.toArray).size := by rw [hfs]; exact hj
          unfold putCells
          rw [Array.getElem?_mapIdx, Array.getElem?_eq_getElem h1, Option.map_some, if_pos ⟨Nat.zero_le _, by omega⟩, Array.getElem?_eq_getElem h2, Nat.sub_zero, getElem!_pos (flatK E.enc E.k M.toArray) j h2]
          rfl
        · rw [List.getElem?_take_eq_none (by omega), Array.getElem?_toList, Array.getElem?_eq_none (by omega)]
  · unfold sortWorldK putRowK
    refine ⟨rfl, rfl, rfl, by simp, fun k hk hne => ?_⟩
    rw [heap_grow_old _ _ (by simpa using hk)]
    have : g ≠ k := fun e => hne (by rw [e])
    simp [putRow, mapBlock, Sort.ahead, Array.getElem?_modify, this]
end

theorem isSpot : (Try.prog.info? 26).isSome = true := by kernel_rfl
noncomputable def etSpot : ET Try.prog 26 Spot where
  k := 3
  hk := by decide
  enc := fun s => [.int .i64 s.1, .bool s.2.1, .int .i64 s.2.2]
  len := fun _ => rfl
  one := fun x u hu => by simp at hu; rcases hu with rfl | rfl | rfl <;> rfl
  i := (Try.prog.info? 26).get isSpot
  z := spotV (0, false, 0)
  bytes := 24
  hi := (Option.some_get isSpot).symm
  hz := by kernel_rfl
  hsize := by kernel_rfl
  hby := by kernel_rfl
  hzs := rfl

/-! ### the order, plainly -/
def spotLt (a b : Spot) : Bool := decide (a.1 < b.1 ∨ a.1 = b.1 ∧ (rowI a < rowI b ∨ rowI a = rowI b ∧ a.2.2 < b.2.2))
theorem ltOf_spot (a b : Spot) : ltOf spotCmp a b = spotLt a b := by
  unfold ltOf spotCmp spotLt orI Lib.compareInt
  congr 1
  apply propext
  constructor
  · intro h
    repeat' split at h
    all_goals first | omega | skip
  · intro h
    repeat' split
    all_goals first | omega | skip
theorem rowI_inj {a b : Spot} (h : rowI a = rowI b) : a.2.1 = b.2.1 := by
  unfold rowI at h
  cases ha : a.2.1 <;> cases hb : b.2.1 <;> simp [ha, hb] at h ⊢
theorem spotLt_total {a b : Spot} (h1 : spotLt a b = false) (h2 : spotLt b a = false) : a = b := by
  simp only [spotLt, decide_eq_false_iff_not] at h1 h2
  have e1 : a.1 = b.1 := by omega
  have e2 : rowI a = rowI b := by omega
  have e3 : a.2.2 = b.2.2 := by omega
  exact Prod.ext e1 (Prod.ext (rowI_inj e2) e3)
theorem spotLt_swo : SWO spotLt := by
  refine ⟨fun x => ?_, fun x y z h1 h2 => ?_, fun x y z h1 h2 => ?_⟩
  · simp [spotLt]
  · simp only [spotLt, decide_eq_true_eq] at *
    omega
  · simp only [spotLt, decide_eq_false_iff_not] at *
    omega
theorem ltOf_spot' : ltOf spotCmp = spotLt := by funext a b; exact ltOf_spot a b
def sortS (L : List Spot) : List Spot := L.mergeSort (fun x y => !spotLt y x)
theorem sortS_length (L : List Spot) : (sortS L).length = L.length := by simp [sortS]
theorem sortS_perm (L : List Spot) : (sortS L).Perm L := List.mergeSort_perm _ _
theorem sortS_mem {L : List Spot} {s : Spot} : s ∈ sortS L ↔ s ∈ L := (sortS_perm L).mem_iff
theorem sortS_sorted (L : List Spot) : (sortS L).Pairwise (fun x y => (!spotLt y x) = true) := by
  refine List.pairwise_mergeSort (fun a b c h1 h2 => ?_) (fun a b => ?_) L
  · simp only [Bool.not_eq_true'] at *
    exact spotLt_swo.ntrans _ _ _ h2 h1
  · by_cases h : spotLt b a = true
    · have : spotLt a b = false := by
        simp only [spotLt, decide_eq_true_eq, decide_eq_false_iff_not] at *
        omega
      simp [this]
    · simp at h
      simp [h]

set_option maxHeartbeats 1600000 in
theorem sort_any (base : Nat) (v : Value) (L : List Spot) (w : World) (hr : Row etSpot w base v L) (hL : L.length ≤ 1099511627776) :
    Calls Try.prog 32 #[v, .func (.func 33) #[] #[]] w fun e w' => e = .returned (.tuple #[]) ∧ Row etSpot w' base v (sortS L) ∧ w.grownBy w' v.ownBlock := by
  rcases hr.shape with ⟨rfl, rfl⟩ | ⟨g, cap, rfl, _⟩
  · refine (AnyF.slices_SortFunc_none Try.sortSpots none 0 _ w).mono ?_
    rintro e w' ⟨rfl, rfl⟩
    exact ⟨rfl, by simpa [sortS] using Row.nil etSpot _ _, ⟨rfl, rfl, rfl, Nat.le_refl _, fun _ _ _ => rfl⟩⟩
  · have hlt := (hr.lt g rfl).2
    have := AnyQ.slices_SortFunc_total Try.sortSpots 3 (fun w => by kernel_rfl) (fun w => by kernel_rfl) etSpot.enc (fun _ => rfl) (fun x u hu => etSpot.one x u hu) spotCmp (by rw [ltOf_spot']; exact spotLt_swo) 33 #[] g 0 cap L.toArray w (enters_of Try.func33 (by kernel_rfl) rfl) (fun m os dk hs x y => (order_any x y _).mono (fun e w' ⟨h1, h2⟩ => ⟨h1, h2⟩)) hr.holdsK hlt (by simp; omega) (by rw [ltOf_spot']; exact fun x y h1 h2 => spotLt_total h1 h2)
    simp only [List.size_toArray, ltOf_spot'] at this
    refine this.mono ?_
    rintro e w' ⟨rfl, m, os, rfl⟩
    obtain ⟨h1, h2⟩ := Row.sortedK hr (sortS L) (sortS_length L) m os
    exact ⟨rfl, h1, h2⟩
end Go.Proofs.Ytmolmeamnmefeaa
