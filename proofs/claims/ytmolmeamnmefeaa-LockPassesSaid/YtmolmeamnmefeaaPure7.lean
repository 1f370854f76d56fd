/- A table of locks, plainly (7). -/
import Derived.Test.YtmolmeamnmefeaaPure6
namespace Go.Proofs.Ytmolmeamnmefeaa
open Go.RowKit

/-! ### one spot alone: who waits is woken in order -/
theorem Inv.waitsSome {D : Spot → Prop} {S : St} (h : Inv D S) (who : Int) : (waitsS S who).isSome = (Al.get S.waits who).isSome := by
  unfold waitsS
  cases hg : Al.get S.waits who with
  | none => rfl
  | some t =>
    obtain ⟨x, hx, hmm⟩ := (h.wq who t).1 hg
    obtain ⟨q, hq, e⟩ := List.mem_map.1 hmm
    simp only [Option.bind_some, Option.isSome_map, Option.isSome_some, List.find?_isSome]
    refine ⟨q, ?_, by simpa using e⟩
    unfold queueS
    rw [hx]
    exact hq

/-- nothing but s was ever named -/
structure Only (s : Spot) (S : St) : Prop where
  spots : ∀ t x, Al.get S.spots t = some x → t = s
def restW (S : St) (s : Spot) : List Int := ((Al.get S.spots s).getD sp0).rest.map (·.1)

theorem Only.put {s : Spot} {S : St} (h : Only s S) (y : Sp) (ws : List (Int × Spot)) : Only s { S with spots := Al.put S.spots s y, waits := ws } := by
  refine ⟨fun t x hx => ?_⟩
  simp only [Al.get_put] at hx
  split at hx
  · rename_i e; exact e
  · exact h.spots t x hx
theorem Only.waits {s : Spot} {D : Spot → Prop} {S : St} (h : Only s S) (hi : Inv D S) {w : Int} {t : Spot} (hw : Al.get S.waits w = some t) : t = s := by
  obtain ⟨x, hx, _⟩ := (hi.wq w t).1 hw
  exact h.spots t x hx
theorem Only.new (s : Spot) (most : Int) : Only s ⟨most, [], []⟩ := ⟨by simp [Al.get]⟩
theorem Only.wake {s : Spot} {D : Spot → Prop} {S : St} (h : Only s S) (_ : Inv D S) (t : Spot) : Only s (wakeS S t).1 := by
  cases hx : Al.get S.spots t with
  | none =>
    have : wakeS S t = (S, []) := by unfold wakeS; rw [hx]
    rw [this]
    exact h
  | some x =>
    obtain rfl := h.spots t x hx
    rw [wake_get hx]
    by_cases he : (grantS x).1.holds = [] ∧ (grantS x).1.queue = []
    · simp only [if_pos he]
      refine ⟨fun t z hz => ?_⟩
      simp only [Al.get_del] at hz
      split at hz
      · cases hz
      · exact h.spots t z hz
    · simp only [if_neg he]
      exact h.put _ _
theorem Only.woken {s : Spot} : ∀ (l : List Spot) {D : Spot → Prop} {S : St}, Only s S → Inv D S → Only s (wokenS S l).1
  | [], _, _, h, _ => h
  | t :: l, D, S, h, hi => by
    rw [wokenS_cons]
    exact Only.woken l (h.wake hi t) (hi.wake t)
theorem Only.drop {s : Spot} {S : St} (h : Only s S) (who : Int) (t : Spot) : Only s (dropS S who t) := by
  unfold dropS
  cases hx : Al.get S.spots t with
  | none => exact h
  | some x =>
    obtain rfl := h.spots t x hx
    exact h.put _ S.waits
theorem Only.drops {s : Spot} {who : Int} : ∀ (l : List Spot) {S : St}, Only s S → Only s (l.foldl (fun T s => dropS T who s) S)
  | [], _, h => h
  | t :: l, S, h => by
    rw [List.foldl_cons]
    exact Only.drops l (h.drop who t)
theorem Only.leaves {s : Spot} {D : Spot → Prop} {S : St} (h : Only s S) (hi : Inv D S) (who : Int) : Only s (leavesS S who).1 := by
  cases hs : Al.get S.waits who with
  | none => rw [leaves_none hs]; exact h
  | some t =>
    obtain ⟨x, hx, _⟩ := (hi.wq who t).1 hs
    obtain rfl := h.spots t x hx
    rw [leaves_some hs hx]
    exact h.put _ _
theorem Only.ask {s : Spot} {S : St} (h : Only s S) (who : Int) (m : Int) : Only s (askS S who s m).1 := by
  unfold askS
  split
  · exact h
  · split
    · exact h
    · split
      · exact h
      · split
        · exact h
        · unfold wishS
          simp only
          split
          · exact h.put _ S.waits
          · split
            · exact h.put _ _
            · exact h.put _ _
theorem Only.free {s : Spot} {S : St} (h : Only s S) (hi : Inv (fun _ => False) S) (who : Int) : Only s (freeS S who s).1 := by
  unfold freeS
  split
  · exact h
  · rename_i hw
    split
    · exact h
    · exact (h.drop who s).woken _ (hi.drop (get_isSome_iff.2 hw) s)
theorem Only.cancel {s : Spot} {S : St} (h : Only s S) (hi : Inv (fun _ => False) S) (who : Int) : Only s (cancelS S who).1 := by
  unfold cancelS
  split
  · exact h
  · exact (h.leaves hi who).woken _ (hi.leaves who).1
theorem Only.leave {s : Spot} {S : St} (h : Only s S) (hi : Inv (fun _ => False) S) (who : Int) : Only s (leaveS S who).1 := by
  unfold leaveS
  exact ((h.leaves hi who).drops _).woken _ (Inv.drops _ (hi.leaves who).1 (hi.leaves who).2)

/-- what a turn that wakes makes of those who wait -/
structure Woken (S T : St) (s : Spot) (g : List Int) : Prop where
  rest : ∃ r, restW S s = r ++ restW T s ∧ ∀ w ∈ r, Al.get T.waits w = none
  more : ∀ w, Al.get S.waits w = none → Al.get T.waits w = none
  got : ∀ w ∈ g, Al.get T.waits w = none ∧ heldS T w s ≠ 0
  keep : ∀ w, heldS S w s ≠ 0 → heldS T w s ≠ 0
theorem Woken.refl (S : St) (s : Spot) : Woken S S s [] := ⟨⟨[], rfl, by simp⟩, fun _ h => h, by simp, fun _ h => h⟩
theorem Woken.trans {A B C : St} {s : Spot} {g h : List Int} (p : Woken A B s g) (q : Woken B C s h) : Woken A C s (g ++ h) := by
  obtain ⟨r1, e1, n1⟩ := p.rest
  obtain ⟨r2, e2, n2⟩ := q.rest
  refine ⟨⟨r1 ++ r2, by rw [e1, e2, List.append_assoc], fun w hw => ?_⟩, fun w hw => q.more w (p.more w hw), fun w hw => ?_, fun w hw => q.keep w (p.keep w hw)⟩
  · rcases List.mem_append.1 hw with hw | hw
    · exact q.more w (n1 w hw)
    · exact n2 w hw
  · rcases List.mem_append.1 hw with hw | hw
    · exact ⟨q.more w (p.got w hw).1, q.keep w (p.got w hw).2⟩
    · exact q.got w hw
theorem heldSome {S : St} {D : Spot → Prop} (hi : Inv D S) (w : Int) (s : Spot) : heldS S w s ≠ 0 ↔ (Al.get ((Al.get S.spots s).getD sp0).holds w).isSome = true := by
  have := ((hi.spot s).held (who := w)).1
  rw [held_get, Ne, this, get_isSome_iff, Decidable.not_not]

theorem rest_parts {x y : Sp} {g : List Int} (hx : SpInv x) (hg : Granted x y g) {r : List Hold} (hr : x.rest = r ++ y.rest) : ∀ w ∈ r.map (·.1), w ∉ y.queue.map (·.1) := by
  obtain ⟨q, h1, h2⟩ := hg.queue
  have hn := hx.qn
  intro w hw hm
  -- y's queue is a suffix of x's; w stands in x's rest ahead of y's rest
  have hq : x.queue = (x.up ++ r) ++ y.rest := by unfold Sp.queue; rw [hr, List.append_assoc]
  have hy : y.queue = y.up ++ y.rest := rfl
  obtain ⟨z, hz⟩ : ∃ z, x.up ++ r = z ++ y.up := by
    refine ⟨q, ?_⟩
    have h3 : (x.up ++ r) ++ y.rest = (q ++ y.up) ++ y.rest := by rw [← hq, h1, hy, List.append_assoc]
    exact List.append_cancel_right h3
  have hn2 := hn
  rw [hq, List.map_append, List.nodup_append] at hn2
  rw [hy, List.map_append] at hm
  rcases List.mem_append.1 hm with hm | hm
  · -- then it upgrades, and holds
    obtain ⟨a, ha, ea⟩ := List.mem_map.1 hw
    obtain ⟨b, hb, eb⟩ := List.mem_map.1 hm
    have hs := hg.inv.upH b hb
    rcases hg.more b.1 hs with h4 | h4
    · have : Al.get x.holds a.1 = none := hx.restN a (by rw [hr]; simp [ha])
      rw [ea, ← eb] at this
      rw [this] at h4
      cases h4
    · rw [h1, List.map_append, List.nodup_append] at hn
      exact hn.2.2 b.1 (by rw [← h2]; exact h4) b.1 (by rw [hy, List.map_append]; exact List.mem_append.2 (Or.inl (List.mem_map.2 ⟨b, hb, rfl⟩))) rfl
  · exact hn2.2.2 w (by rw [List.map_append]; exact List.mem_append.2 (Or.inr hw)) w hm rfl

theorem Woken.wake {s : Spot} {D : Spot → Prop} {S : St} (h : Only s S) (hi : Inv D S) (t : Spot) : Woken S (wakeS S t).1 s (wakeS S t).2 := by
  cases hx : Al.get S.spots t with
  | none =>
    have : wakeS S t = (S, []) := by unfold wakeS; rw [hx]
    rw [this]
    exact Woken.refl S s
  | some x =>
    obtain rfl := h.spots t x hx
    have hw := hi.wake t
    have hix := hi.each t x hx
    have hg := grantS_granted hix
    have hwk := wake_get hx
    have hgot : (Al.get (wakeS S t).1.spots t).getD sp0 = if (grantS x).1.holds = [] ∧ (grantS x).1.queue = [] then sp0 else (grantS x).1 := by
      rw [hwk]
      split
      · simp [Al.get_del]
      · simp [Al.get_put]
    have hyr : ((Al.get (wakeS S t).1.spots t).getD sp0).rest = (grantS x).1.rest := by
      rw [hgot]
      split
      · rename_i he
        have : (grantS x).1.up ++ (grantS x).1.rest = [] := he.2
        rw [(List.append_eq_nil_iff.1 this).2]
        rfl
      · rfl
    have hyh : ((Al.get (wakeS S t).1.spots t).getD sp0).holds = (grantS x).1.holds := by
      rw [hgot]
      split
      · rename_i he
        rw [he.1]
        rfl
      · rfl
    have hww : ∀ w, Al.get (wakeS S t).1.waits w = if w ∈ (grantS x).2 then none else Al.get S.waits w := by
      intro w
      rw [hwk]
      exact foldl_del_get _ _ _
    have hge : (wakeS S t).2 = (grantS x).2 := by rw [hwk]
    refine ⟨?_, ?_, ?_, ?_⟩
    · obtain ⟨r, hr⟩ := hg.rest
      refine ⟨r.map (·.1), ?_, fun w hw' => ?_⟩
      · unfold restW
        rw [hyr, spot_getD hx, hr, List.map_append]
      · rw [hww]
        split
        · rfl
        · rename_i hng
          cases hgw : Al.get S.waits w with
          | none => rfl
          | some u =>
            exfalso
            obtain rfl := h.waits hi hgw
            have hm : w ∈ x.queue.map (·.1) := by
              rw [Sp.queue, hr, List.map_append, List.map_append]
              simp only [List.mem_append]
              exact Or.inr (Or.inl hw')
            exact rest_parts hix hg hr w hw' ((queue_parts hix hg w).2 ⟨hm, hng⟩)
    · intro w hw'
      rw [hww, hw']
      simp
    · intro w hw'
      rw [hge] at hw'
      refine ⟨by rw [hww, if_pos hw'], ?_⟩
      rw [heldSome hw, hyh]
      exact hg.held w hw'
    · intro w hw'
      rw [heldSome hi, spot_getD hx] at hw'
      rw [heldSome hw, hyh]
      exact hg.keep w hw'
theorem Woken.woken {s : Spot} : ∀ (l : List Spot) {D : Spot → Prop} {S : St}, Only s S → Inv D S → Woken S (wokenS S l).1 s (wokenS S l).2
  | [], _, S, _, _ => Woken.refl S s
  | t :: l, D, S, h, hi => by
    rw [wokenS_cons]
    exact (Woken.wake h hi t).trans (Woken.woken l (h.wake hi t) (hi.wake t))
end Go.Proofs.Ytmolmeamnmefeaa
