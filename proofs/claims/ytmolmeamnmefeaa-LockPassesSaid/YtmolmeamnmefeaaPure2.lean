/- A table of locks, plainly (2). -/
import Derived.Test.YtmolmeamnmefeaaPure1
namespace Go.Proofs.Ytmolmeamnmefeaa
open Go.RowKit

/-! ### a table of locks -/
def sp0 : Sp := ⟨[], [], []⟩
def spotMay (s : Spot) : Prop := 0 ≤ s.1 ∧ (s.2.1 = true ∨ s.2.2 = 0)
def coversI (a b : Int) : Bool := Md.cov (Md.n a) (Md.n b)
def joinI (a b : Int) : Int := Md.v (Md.join (Md.n a) (Md.n b))
/-- asking, once it is neither refused nor held -/
def wishS (S : St) (who : Int) (s : Spot) (j : Int) (up : Bool) : St × Bool × Int :=
  let x := (Al.get S.spots s).getD sp0
  if canG x.holds who j && (decide (x.queue = []) || up) then ({ S with spots := Al.put S.spots s { x with holds := Al.put x.holds who j } }, true, 0)
  else if up then ({ S with spots := Al.put S.spots s { x with up := x.up ++ [(who, j)] }, waits := Al.put S.waits who s }, false, 0)
  else ({ S with spots := Al.put S.spots s { x with rest := x.rest ++ [(who, j)] }, waits := Al.put S.waits who s }, false, 0)
def askS (S : St) (who : Int) (s : Spot) (m : Int) : St × Bool × Int :=
  if mayS s m = false then (S, false, 2)
  else if (Al.get S.waits who).isSome then (S, false, 4)
  else if coversI (heldS S who s) m then (S, true, 0)
  else if heldS S who s = 0 ∧ S.most ≤ usedS S then (S, false, 3)
  else wishS S who s (joinI (heldS S who s) m) (heldS S who s != 0)
def dropS (S : St) (who : Int) (s : Spot) : St := match Al.get S.spots s with
  | none => S
  | some x => { S with spots := Al.put S.spots s { x with holds := Al.del x.holds who } }
def freeS (S : St) (who : Int) (s : Spot) : St × List Int × Int :=
  if (Al.get S.waits who).isSome then (S, [], 4)
  else if heldS S who s = 0 then (S, [], 5)
  else ((wokenS (dropS S who s) [s]).1, (wokenS (dropS S who s) [s]).2, 0)
def cancelS (S : St) (who : Int) : St × List Int × Int := match (leavesS S who).2 with
  | none => (S, [], 5)
  | some s => ((wokenS (leavesS S who).1 [s]).1, (wokenS (leavesS S who).1 [s]).2, 0)
/-- of a row, ordered, each once -/
def onceS : List Spot → List Spot
  | [] => []
  | [x] => [x]
  | x :: y :: l => if x = y then onceS (y :: l) else x :: onceS (y :: l)
def allS (S : St) (who : Int) : List Spot := spotsS S who ++ (leavesS S who).2.toList
def leaveS (S : St) (who : Int) : St × List Int :=
  wokenS ((allS S who).foldl (fun T s => dropS T who s) (leavesS S who).1) (onceS (sortS (allS S who)))

theorem onceS_mem : ∀ {l : List Spot} {s : Spot}, s ∈ onceS l ↔ s ∈ l
  | [], s => Iff.rfl
  | [x], s => Iff.rfl
  | x :: y :: l, s => by
    unfold onceS
    split
    · rename_i h
      rw [onceS_mem]
      subst h
      simp
    · rw [List.mem_cons, onceS_mem]
      simp

structure Inv (D : Spot → Prop) (S : St) : Prop where
  sn : (S.spots.map (·.1)).Nodup
  wn : (S.waits.map (·.1)).Nodup
  each : ∀ s x, Al.get S.spots s = some x → SpInv x
  shut : ∀ s x, Al.get S.spots s = some x → ¬ D s → x.holds ≠ [] ∧ x.blocked
  may : ∀ s x, Al.get S.spots s = some x → spotMay s
  wq : ∀ who s, Al.get S.waits who = some s ↔ ∃ x, Al.get S.spots s = some x ∧ who ∈ x.queue.map (·.1)

theorem Inv.weak {D D' : Spot → Prop} {S : St} (h : Inv D S) (hd : ∀ s, D s → D' s) : Inv D' S := { h with shut := fun s x hx hn => h.shut s x hx (fun e => hn (hd s e)) }

theorem Inv.queued {D : Spot → Prop} {S : St} (h : Inv D S) : Queued S := by
  rintro ⟨who, s⟩ hp
  obtain ⟨x, hx, hm⟩ := (h.wq who s).1 ((Al.get_iff h.wn).2 hp)
  obtain ⟨q, hq, hw⟩ := List.mem_map.1 hm
  refine ⟨q, ?_, hw⟩
  show q ∈ queueS S s
  unfold queueS
  rw [hx]
  exact hq

/-- one spot turned -/
theorem Inv.turn {D D' : Spot → Prop} {S : St} (h : Inv D S) {s : Spot} {y : Sp} {ws : List (Int × Spot)} (hd : ∀ t, t ≠ s → D t → D' t) (hy : SpInv y) (hb : ¬ D' s → y.holds ≠ [] ∧ y.blocked) (hm : spotMay s) (hw : (ws.map (·.1)).Nodup)
    (hq : ∀ who t, Al.get ws who = some t ↔ if t = s then who ∈ y.queue.map (·.1) else Al.get S.waits who = some t) : Inv D' { S with spots := Al.put S.spots s y, waits := ws } where
  sn := Al.put_nodup h.sn _ _
  wn := hw
  each := by
    intro t x hx
    simp only [Al.get_put] at hx
    split at hx
    · cases hx; exact hy
    · exact h.each t x hx
  shut := by
    intro t x hx hn
    simp only [Al.get_put] at hx
    split at hx
    · rename_i e
      subst e
      cases hx
      exact hb hn
    · rename_i e
      exact h.shut t x hx (fun hd' => hn (hd t e hd'))
  may := by
    intro t x hx
    simp only [Al.get_put] at hx
    split at hx
    · rename_i e
      subst e
      exact hm
    · exact h.may t x hx
  wq := by
    intro who t
    simp only [Al.get_put]
    rw [hq who t]
    by_cases e : t = s
    · subst e
      simp
    · simp only [e, if_false]
      exact h.wq who t

theorem foldl_del_get (g : List Int) : ∀ (ws : List (Int × Spot)) (who : Int), Al.get (g.foldl Al.del ws) who = if who ∈ g then none else Al.get ws who := by
  induction g with
  | nil => intro ws who; simp
  | cons a g ih =>
    intro ws who
    rw [List.foldl_cons, ih, Al.get_del]
    by_cases h : who ∈ g
    · simp [h]
    · by_cases h' : who = a
      · simp [h']
      · simp [h, h']
theorem foldl_del_nodup (g : List Int) : ∀ (ws : List (Int × Spot)), (ws.map (·.1)).Nodup → ((g.foldl Al.del ws).map (·.1)).Nodup := by
  induction g with
  | nil => intro ws h; exact h
  | cons a g ih =>
    intro ws h
    exact ih _ (Al.del_nodup h a)

theorem queue_parts {x y : Sp} {g : List Int} (hx : SpInv x) (hg : Granted x y g) (who : Int) : who ∈ y.queue.map (·.1) ↔ who ∈ x.queue.map (·.1) ∧ who ∉ g := by
  obtain ⟨q, h1, h2⟩ := hg.queue
  have hn := hx.qn
  rw [h1, List.map_append, List.nodup_append] at hn
  rw [h1, List.map_append, h2]
  constructor
  · intro h
    refine ⟨by simp only [List.mem_append]; exact Or.inr h, fun h' => hn.2.2 _ h' _ h rfl⟩
  · rintro ⟨h, h'⟩
    rcases List.mem_append.1 h with h | h
    · exact absurd h h'
    · exact h

theorem blocked_holds {y : Sp} (h : y.blocked) (hh : y.holds = []) : y.queue = [] := by
  cases hq : y.queue with
  | nil => rfl
  | cons a l =>
    have := h a l hq
    rw [hh] at this
    simp [canG] at this

theorem wake_get {S : St} {s : Spot} {x : Sp} (hx : Al.get S.spots s = some x) : wakeS S s = ({ S with spots := if (grantS x).1.holds = [] ∧ (grantS x).1.queue = [] then Al.del S.spots s else Al.put S.spots s (grantS x).1, waits := (grantS x).2.foldl Al.del S.waits }, (grantS x).2) := by
  unfold wakeS
  rw [hx]

theorem Inv.wake {D : Spot → Prop} {S : St} (h : Inv D S) (s : Spot) : Inv (fun t => D t ∧ t ≠ s) (wakeS S s).1 := by
  cases hx : Al.get S.spots s with
  | none =>
    have : wakeS S s = (S, []) := by unfold wakeS; rw [hx]
    rw [this]
    refine { h with shut := fun t x ht hn => h.shut t x ht (fun hd => hn ⟨hd, fun e => ?_⟩) }
    rw [e, hx] at ht
    cases ht
  | some x =>
    rw [wake_get hx]
    have hi := h.each s x hx
    have hg := grantS_granted hi
    generalize (grantS x).1 = y at *
    generalize (grantS x).2 = g at *
    simp only
    have hwq : ∀ who t, Al.get (g.foldl Al.del S.waits) who = some t ↔ if t = s then who ∈ y.queue.map (·.1) else Al.get S.waits who = some t := by
      intro who t
      rw [foldl_del_get]
      by_cases e : t = s
      · subst e
        rw [if_pos rfl, queue_parts hi hg]
        by_cases hm : who ∈ g
        · simp [hm]
        · simp only [hm, if_false, not_false_eq_true, and_true]
          rw [h.wq who t]
          constructor
          · rintro ⟨z, hz, hm⟩
            rw [hx] at hz
            cases hz
            exact hm
          · exact fun hm => ⟨x, hx, hm⟩
      · rw [if_neg e]
        by_cases hm : who ∈ g
        · simp only [hm, if_true]
          refine ⟨fun h => (by cases h), fun h' => ?_⟩
          exfalso
          obtain ⟨q, q1, q2⟩ := hg.queue
          have : Al.get S.waits who = some s := (h.wq who s).2 ⟨x, hx, by rw [q1, List.map_append, ← q2]; simp [hm]⟩
          rw [this] at h'
          cases h'
          exact e rfl
        · simp [hm]
    by_cases he : y.holds = [] ∧ y.queue = []
    · rw [if_pos he]
      refine ⟨Al.del_nodup h.sn s, foldl_del_nodup _ _ h.wn, ?_, ?_, ?_, ?_⟩
      · intro t z hz
        simp only [Al.get_del] at hz
        split at hz
        · cases hz
        · exact h.each t z hz
      · intro t z hz hn
        simp only [Al.get_del] at hz
        split at hz
        · cases hz
        · rename_i e
          exact h.shut t z hz (fun hd => hn ⟨hd, e⟩)
      · intro t z hz
        simp only [Al.get_del] at hz
        split at hz
        · cases hz
        · exact h.may t z hz
      · intro who t
        rw [hwq, Al.get_del]
        by_cases e : t = s
        · simp [e, he.2]
        · simp only [e, if_false]
          exact h.wq who t
    · rw [if_neg he]
      refine h.turn (s := s) (y := y) (fun t e hd => ⟨hd, e⟩) hg.inv (fun _ => ⟨fun hh => he ⟨hh, blocked_holds hg.shut hh⟩, hg.shut⟩) (h.may s x hx) (foldl_del_nodup _ _ h.wn) hwq

theorem Inv.woken (l : List Spot) : ∀ {D : Spot → Prop} {S : St}, Inv D S → Inv (fun t => D t ∧ t ∉ l) (wokenS S l).1 := by
  induction l with
  | nil => intro D S h; exact h.weak (fun s hd => ⟨hd, by simp⟩)
  | cons s l ih =>
    intro D S h
    rw [wokenS_cons]
    exact (ih (h.wake s)).weak (fun t ht => ⟨ht.1.1, by simp only [List.mem_cons, not_or]; exact ⟨ht.1.2, ht.2⟩⟩)

theorem get_del_some {holds : List Hold} {who k : Int} (h : k ≠ who) : Al.get (Al.del holds who) k = Al.get holds k := by rw [Al.get_del, if_neg h]

/-- one who waits not gives a spot up -/
theorem Inv.drop {D : Spot → Prop} {S : St} (h : Inv D S) {who : Int} (hw : Al.get S.waits who = none) (s : Spot) : Inv (fun t => D t ∨ t = s) (dropS S who s) := by
  unfold dropS
  cases hx : Al.get S.spots s with
  | none => exact h.weak (fun _ => Or.inl)
  | some x =>
    have hi := h.each s x hx
    have hnq : ∀ q ∈ x.queue, q.1 ≠ who := by
      intro q hq e
      have := (h.wq who s).2 ⟨x, hx, List.mem_map.2 ⟨q, hq, e⟩⟩
      rw [hw] at this
      cases this
    refine h.turn (ws := S.waits) (fun t _ hd => Or.inl hd) ?_ (fun hn => absurd (Or.inr rfl) hn) (h.may s x hx) h.wn ?_
    · refine ⟨Al.del_nodup hi.hn _, fun q hq => hi.hm q (Al.mem_del hq).1, hi.qm, hi.qn, fun q hq => ?_, fun q hq => ?_, fun a ha b hb => hi.bes a (Al.mem_del ha).1 b (Al.mem_del hb).1⟩
      · show (Al.get (Al.del x.holds who) q.1).isSome = true
        rw [get_del_some (hnq q (List.mem_append.2 (Or.inl hq)))]
        exact hi.upH q hq
      · show Al.get (Al.del x.holds who) q.1 = none
        rw [get_del_some (hnq q (List.mem_append.2 (Or.inr hq)))]
        exact hi.restN q hq
    · intro w t
      by_cases e : t = s
      · subst e
        rw [if_pos rfl, h.wq w t]
        constructor
        · rintro ⟨z, hz, hm⟩
          rw [hx] at hz
          cases hz
          exact hm
        · exact fun hm => ⟨x, hx, hm⟩
      · rw [if_neg e]
theorem drop_waits (S : St) (who : Int) (s : Spot) : (dropS S who s).waits = S.waits := by
  unfold dropS
  split <;> rfl
theorem drop_most (S : St) (who : Int) (s : Spot) : (dropS S who s).most = S.most := by
  unfold dropS
  split <;> rfl

theorem wo_keys {L : List Hold} {who w : Int} : w ∈ (wo L who).map (·.1) ↔ w ∈ L.map (·.1) ∧ w ≠ who := by
  rw [List.mem_map, List.mem_map]
  constructor
  · rintro ⟨q, hq, rfl⟩
    exact ⟨⟨q, (mem_wo.1 hq).1, rfl⟩, (mem_wo.1 hq).2⟩
  · rintro ⟨⟨q, hq, rfl⟩, hne⟩
    exact ⟨q, mem_wo.2 ⟨hq, hne⟩, rfl⟩

theorem leaves_some {S : St} {who : Int} {s : Spot} {x : Sp} (hs : Al.get S.waits who = some s) (hx : Al.get S.spots s = some x) : leavesS S who = ({ S with spots := Al.put S.spots s ⟨x.holds, wo x.up who, wo x.rest who⟩, waits := Al.del S.waits who }, some s) := by
  unfold leavesS
  rw [hs]
  simp only
  rw [hx]
theorem leaves_none {S : St} {who : Int} (hs : Al.get S.waits who = none) : leavesS S who = (S, none) := by
  unfold leavesS
  rw [hs]

/-- one leaves its queue -/
theorem Inv.leaves {D : Spot → Prop} {S : St} (h : Inv D S) (who : Int) : Inv (fun t => D t ∨ (leavesS S who).2 = some t) (leavesS S who).1 ∧ Al.get (leavesS S who).1.waits who = none := by
  cases hs : Al.get S.waits who with
  | none =>
    rw [leaves_none hs]
    exact ⟨h.weak (fun _ => Or.inl), hs⟩
  | some s =>
    obtain ⟨x, hx, hm⟩ := (h.wq who s).1 hs
    rw [leaves_some hs hx]
    have hi := h.each s x hx
    have hsub : ((⟨x.holds, wo x.up who, wo x.rest who⟩ : Sp).queue).Sublist x.queue := List.filter_sublist.append List.filter_sublist
    have hqe : (⟨x.holds, wo x.up who, wo x.rest who⟩ : Sp).queue = wo x.queue who := (wo_append _ _ _).symm
    refine ⟨h.turn (fun t _ hd => Or.inl hd) ?_ (fun hn => absurd (Or.inr rfl) hn) (h.may s x hx) (Al.del_nodup h.wn who) ?_, by rw [Al.get_del]; simp⟩
    · exact ⟨hi.hn, hi.hm, fun q hq => hi.qm q (hsub.mem hq), hi.qn.sublist (hsub.map _), fun q hq => hi.upH q (mem_wo.1 hq).1, fun q hq => hi.restN q (mem_wo.1 hq).1, hi.bes⟩
    · intro w t
      rw [Al.get_del, hqe, wo_keys]
      by_cases e : t = s
      · subst e
        rw [if_pos rfl]
        by_cases e2 : w = who
        · simp [e2]
        · rw [if_neg e2, h.wq w t]
          constructor
          · rintro ⟨z, hz, hm⟩
            rw [hx] at hz
            cases hz
            exact ⟨hm, e2⟩
          · rintro ⟨hm, _⟩
            exact ⟨x, hx, hm⟩
      · rw [if_neg e]
        by_cases e2 : w = who
        · subst e2
          rw [hs]
          simp [Ne.symm e]
        · rw [if_neg e2]
end Go.Proofs.Ytmolmeamnmefeaa
