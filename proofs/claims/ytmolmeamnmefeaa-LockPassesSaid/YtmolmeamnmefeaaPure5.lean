/- A table of locks, plainly (5). -/
import Derived.Test.YtmolmeamnmefeaaPure4
namespace Go.Proofs.Ytmolmeamnmefeaa
open Go.RowKit

/-! ### who is gone -/
structure Gone (who : Int) (S : St) : Prop where
  waits : Al.get S.waits who = none
  holds : ∀ s x, Al.get S.spots s = some x → Al.get x.holds who = none

theorem Gone.new (who most : Int) : Gone who ⟨most, [], []⟩ := ⟨by simp [Al.get], by simp [Al.get]⟩

theorem isSome_none {α : Type} {o : Option α} (h : ¬ o.isSome = true) : o = none := get_isSome_iff.2 h

theorem Gone.put {S : St} {who : Int} (h : Gone who S) {s : Spot} {y : Sp} (hy : Al.get y.holds who = none) {ws : List (Int × Spot)} (hw : Al.get ws who = none) : Gone who { S with spots := Al.put S.spots s y, waits := ws } := by
  refine ⟨hw, fun t x hx => ?_⟩
  simp only [Al.get_put] at hx
  split at hx
  · cases hx; exact hy
  · exact h.holds t x hx

theorem Gone.spot {S : St} {who : Int} (h : Gone who S) (s : Spot) : Al.get ((Al.get S.spots s).getD sp0).holds who = none := by
  cases hx : Al.get S.spots s with
  | none => rfl
  | some x => exact h.holds s x hx

theorem Granted.of_queue {x y : Sp} {g : List Int} (hg : Granted x y g) {who : Int} (h : who ∈ g) : who ∈ x.queue.map (·.1) := by
  obtain ⟨q, h1, h2⟩ := hg.queue
  rw [h1, List.map_append, ← h2]
  simp [h]

theorem Gone.wake {D : Spot → Prop} {S : St} (hi : Inv D S) {who : Int} (h : Gone who S) (s : Spot) : Gone who (wakeS S s).1 := by
  cases hx : Al.get S.spots s with
  | none =>
    have : wakeS S s = (S, []) := by unfold wakeS; rw [hx]
    rw [this]
    exact h
  | some x =>
    rw [wake_get hx]
    have hg := grantS_granted (hi.each s x hx)
    have hw : Al.get ((grantS x).2.foldl Al.del S.waits) who = none := by
      rw [foldl_del_get]
      split
      · rfl
      · exact h.waits
    have hy : Al.get (grantS x).1.holds who = none := by
      refine isSome_none (fun hs => ?_)
      rcases hg.more who hs with h1 | h1
      · rw [h.holds s x hx] at h1
        cases h1
      · have := (hi.wq who s).2 ⟨x, hx, hg.of_queue h1⟩
        rw [h.waits] at this
        cases this
    by_cases he : (grantS x).1.holds = [] ∧ (grantS x).1.queue = []
    · simp only [if_pos he]
      refine ⟨hw, fun t z hz => ?_⟩
      simp only [Al.get_del] at hz
      split at hz
      · cases hz
      · exact h.holds t z hz
    · simp only [if_neg he]
      exact h.put hy hw
theorem Gone.woken {who : Int} : ∀ (l : List Spot) {D : Spot → Prop} {S : St}, Inv D S → Gone who S → Gone who (wokenS S l).1
  | [], _, _, _, h => h
  | s :: l, D, S, hi, h => by
    rw [wokenS_cons]
    exact Gone.woken l (hi.wake s) (Gone.wake hi h s)
theorem Gone.drop {S : St} {who : Int} (h : Gone who S) (who' : Int) (s : Spot) : Gone who (dropS S who' s) := by
  unfold dropS
  cases hx : Al.get S.spots s with
  | none => exact h
  | some x =>
    refine h.put (ws := S.waits) ?_ h.waits
    show Al.get (Al.del x.holds who') who = none
    rw [Al.get_del, h.holds s x hx]
    simp
theorem Gone.drops {who who' : Int} : ∀ (l : List Spot) {S : St}, Gone who S → Gone who (l.foldl (fun T s => dropS T who' s) S)
  | [], _, h => h
  | s :: l, S, h => by
    rw [List.foldl_cons]
    exact Gone.drops l (h.drop who' s)
theorem Gone.leaves {D : Spot → Prop} {S : St} (hi : Inv D S) {who : Int} (h : Gone who S) (who' : Int) : Gone who (leavesS S who').1 := by
  cases hs : Al.get S.waits who' with
  | none => rw [leaves_none hs]; exact h
  | some s =>
    obtain ⟨x, hx, _⟩ := (hi.wq who' s).1 hs
    rw [leaves_some hs hx]
    refine h.put (y := ⟨x.holds, wo x.up who', wo x.rest who'⟩) (h.holds s x hx) ?_
    rw [Al.get_del, h.waits]
    simp
theorem Gone.ask {S : St} {who : Int} (h : Gone who S) {who' : Int} (hne : who' ≠ who) (s : Spot) (m : Int) : Gone who (askS S who' s m).1 := by
  have hsp := h.spot s
  have hw : Al.get (Al.put S.waits who' s) who = none := by rw [Al.get_put, if_neg (Ne.symm hne)]; exact h.waits
  unfold askS
  split
  · exact h
  · split
    · exact h
    · split
      · exact h
      · split
        · exact h
        · unfold wishS
          simp only
          split
          · refine h.put (ws := S.waits) ?_ h.waits
            show Al.get (Al.put _ who' _) who = none
            rw [Al.get_put, if_neg (Ne.symm hne)]
            exact hsp
          · split
            · refine Gone.put h ?_ hw
              exact hsp
            · refine Gone.put h ?_ hw
              exact hsp
theorem Gone.free {S : St} (hi : Inv (fun _ => False) S) {who : Int} (h : Gone who S) (who' : Int) (s : Spot) : Gone who (freeS S who' s).1 := by
  unfold freeS
  split
  · exact h
  · rename_i hw
    split
    · exact h
    · exact Gone.woken _ (hi.drop (get_isSome_iff.2 hw) s) (h.drop who' s)
theorem Gone.cancel {S : St} (hi : Inv (fun _ => False) S) {who : Int} (h : Gone who S) (who' : Int) : Gone who (cancelS S who').1 := by
  unfold cancelS
  split
  · exact h
  · exact Gone.woken _ (hi.leaves who').1 (Gone.leaves hi h who')
theorem Gone.leave {S : St} (hi : Inv (fun _ => False) S) {who : Int} (h : Gone who S) (who' : Int) : Gone who (leaveS S who').1 := by
  unfold leaveS
  exact Gone.woken _ (Inv.drops _ (hi.leaves who').1 (hi.leaves who').2) (Gone.drops _ (Gone.leaves hi h who'))

theorem drop_get (S : St) (who : Int) (s t : Spot) : Al.get (dropS S who s).spots t = if t = s then (Al.get S.spots s).map (fun x => { x with holds := Al.del x.holds who }) else Al.get S.spots t := by
  unfold dropS
  cases hx : Al.get S.spots s with
  | none =>
    by_cases e : t = s
    · rw [if_pos e, e, hx]; rfl
    · rw [if_neg e]
  | some x =>
    simp only [Al.get_put]
    rfl
/-- dropped out of all spots of a row, and held nowhere else -/
theorem drops_none {who : Int} : ∀ (l : List Spot) {S : St}, (∀ s x, Al.get S.spots s = some x → s ∉ l → Al.get x.holds who = none) → ∀ s x, Al.get (l.foldl (fun T s => dropS T who s) S).spots s = some x → Al.get x.holds who = none
  | [], S, h, s, x, hx => h s x hx (by simp)
  | a :: l, S, h, s, x, hx => by
    rw [List.foldl_cons] at hx
    refine drops_none l (S := dropS S who a) (fun t z hz hn => ?_) s x hx
    rw [drop_get] at hz
    split at hz
    · rename_i e
      cases hg : Al.get S.spots a with
      | none => rw [hg] at hz; cases hz
      | some y =>
        rw [hg] at hz
        cases hz
        show Al.get (Al.del y.holds who) who = none
        rw [Al.get_del]
        simp
    · rename_i e
      exact h t z hz (by simp only [List.mem_cons, not_or]; exact ⟨e, hn⟩)
theorem mem_spotsS {S : St} {who : Int} {s : Spot} : s ∈ spotsS S who ↔ ∃ x, (s, x) ∈ S.spots ∧ (Al.get x.holds who).isSome = true := by
  unfold spotsS
  rw [sortS_mem, List.mem_map]
  constructor
  · rintro ⟨⟨t, x⟩, h, rfl⟩
    have := List.mem_filter.1 h
    exact ⟨x, this.1, this.2⟩
  · rintro ⟨x, h1, h2⟩
    exact ⟨(s, x), List.mem_filter.2 ⟨h1, h2⟩, rfl⟩
theorem Gone.left {S : St} (hi : Inv (fun _ => False) S) (who : Int) : Gone who (leaveS S who).1 := by
  unfold leaveS
  refine Gone.woken _ (Inv.drops _ (hi.leaves who).1 (hi.leaves who).2) ⟨?_, ?_⟩
  · have : ∀ (l : List Spot) (T : St), (l.foldl (fun T s => dropS T who s) T).waits = T.waits := by
      intro l
      induction l with
      | nil => intro T; rfl
      | cons a l ih => intro T; rw [List.foldl_cons, ih, drop_waits]
    rw [this]
    exact (hi.leaves who).2
  · refine drops_none _ (fun s x hx hn => isSome_none (fun hs => hn ?_))
    unfold allS
    refine List.mem_append.2 (Or.inl (mem_spotsS.2 ?_))
    cases hw : Al.get S.waits who with
    | none =>
      rw [leaves_none hw] at hx
      exact ⟨x, Al.mem_of_get hx, hs⟩
    | some t =>
      obtain ⟨z, hz, _⟩ := (hi.wq who t).1 hw
      rw [leaves_some hw hz] at hx
      simp only [Al.get_put] at hx
      split at hx
      · rename_i e
        subst e
        cases hx
        exact ⟨z, Al.mem_of_get hz, hs⟩
      · exact ⟨x, Al.mem_of_get hx, hs⟩
theorem Gone.spots {S : St} {who : Int} (hi : Inv (fun _ => False) S) (h : Gone who S) : spotsS S who = [] := by
  refine List.eq_nil_iff_forall_not_mem.2 (fun s hs => ?_)
  obtain ⟨x, h1, h2⟩ := mem_spotsS.1 hs
  rw [h.holds s x ((Al.get_iff hi.sn).2 h1)] at h2
  cases h2
theorem Gone.wait {S : St} {who : Int} (h : Gone who S) : waitsS S who = none := by
  unfold waitsS
  rw [h.waits]
  rfl
/-- when all are gone, nothing is left -/
theorem all_gone {S : St} (hi : Inv (fun _ => False) S) (h : ∀ who, Gone who S) : S = ⟨S.most, [], []⟩ := by
  have h1 : S.spots = [] := by
    cases hs : S.spots with
    | nil => rfl
    | cons p l =>
      obtain ⟨s, x⟩ := p
      have hx : Al.get S.spots s = some x := (Al.get_iff hi.sn).2 (by rw [hs]; simp)
      have hne := (hi.shut s x hx (fun f => f)).1
      cases hh : x.holds with
      | nil => exact absurd hh hne
      | cons q m =>
        have := (h q.1).holds s x hx
        rw [hh, Al.get_cons] at this
        simp at this
  have h2 : S.waits = [] := by
    cases hs : S.waits with
    | nil => rfl
    | cons p l =>
      have := (h p.1).waits
      rw [hs, Al.get_cons] at this
      simp at this
  obtain ⟨a, b, c⟩ := S
  simp only at h1 h2
  rw [h1, h2]
end Go.Proofs.Ytmolmeamnmefeaa
