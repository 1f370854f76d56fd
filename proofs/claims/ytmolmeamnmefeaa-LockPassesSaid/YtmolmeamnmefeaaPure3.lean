/- A table of locks, plainly (3). -/
import Derived.Test.YtmolmeamnmefeaaPure2
namespace Go.Proofs.Ytmolmeamnmefeaa
open Go.RowKit

/-! ### asking -/
theorem joinI_range (a b : Int) : 0 ≤ joinI a b ∧ joinI a b ≤ 5 := Md.v_range _
theorem Md.join_pos : ∀ i j : Fin 6, Md.cov i j = false → 1 ≤ Md.v (Md.join i j) := by decide
theorem joinI_pos {a b : Int} (h : coversI a b = false) : 1 ≤ joinI a b := Md.join_pos _ _ h

theorem spot_getD {S : St} {s : Spot} {x : Sp} (h : Al.get S.spots s = some x) : (Al.get S.spots s).getD sp0 = x := by rw [h]; rfl
theorem held_get {S : St} {who : Int} {s : Spot} : heldS S who s = (Al.get ((Al.get S.spots s).getD sp0).holds who).getD 0 := by
  unfold heldS
  cases Al.get S.spots s <;> rfl
theorem SpInv.empty : SpInv sp0 := ⟨by simp [sp0], by simp [sp0], by simp [sp0, Sp.queue], by simp [sp0, Sp.queue], by simp [sp0], by simp [sp0], by simp [sp0]⟩
theorem Inv.spot {D : Spot → Prop} {S : St} (h : Inv D S) (s : Spot) : SpInv ((Al.get S.spots s).getD sp0) := by
  cases hx : Al.get S.spots s with
  | none => exact SpInv.empty
  | some x => exact h.each s x hx
theorem SpInv.held {x : Sp} (h : SpInv x) {who : Int} : ((Al.get x.holds who).getD 0 = 0 ↔ Al.get x.holds who = none) ∧ (∀ m, Al.get x.holds who = some m → 1 ≤ m ∧ m ≤ 5) := by
  have h2 : ∀ m, Al.get x.holds who = some m → 1 ≤ m ∧ m ≤ 5 := fun m hm => h.hm _ (Al.mem_of_get hm)
  refine ⟨?_, h2⟩
  cases hg : Al.get x.holds who with
  | none => simp
  | some m =>
    have := h2 m hg
    simp
    omega
theorem Inv.wait_of {D : Spot → Prop} {S : St} (h : Inv D S) {who : Int} (hw : Al.get S.waits who = none) (s : Spot) : ∀ q ∈ ((Al.get S.spots s).getD sp0).queue, q.1 ≠ who := by
  intro q hq e
  cases hx : Al.get S.spots s with
  | none =>
    rw [hx] at hq
    simp [sp0, Sp.queue] at hq
  | some x =>
    rw [hx] at hq
    have := (h.wq who s).2 ⟨x, hx, List.mem_map.2 ⟨q, hq, e⟩⟩
    rw [hw] at this
    cases this

theorem Md.bes_join : ∀ i j k : Fin 6, Md.bes (Md.join i j) k = true → Md.bes i k = true := by decide
theorem Md.n_join (a b : Int) : Md.n (joinI a b) = Md.join (Md.n a) (Md.n b) := Md.n_v _

theorem canG_put {x : Sp} (hi : SpInv x) {who j : Int} (hj : ∀ m, Al.get x.holds who = some m → ∀ c : Fin 6, Md.bes c (Md.n j) = true → Md.bes c (Md.n m) = true) {a m : Int} (ha : a ≠ who) (h : canG x.holds a m = false) : canG (Al.put x.holds who j) a m = false := by
  cases hc : canG (Al.put x.holds who j) a m with
  | false => rfl
  | true =>
    rw [canG_iff] at hc
    have : canG x.holds a m = true := by
      rw [canG_iff]
      intro p hp
      by_cases ew : p.1 = who
      · have hg := Al.get_some hi.hn (k := p.1) (v := p.2) hp
        rw [ew] at hg
        rcases hc (who, j) ((Al.mem_put_iff hi.hn who j _).2 (Or.inl rfl)) with e | e
        · exact absurd e.symm ha
        · exact Or.inr (hj _ hg _ e)
      · exact hc p ((Al.mem_put_iff hi.hn who j p).2 (Or.inr ⟨hp, ew⟩))
    rw [h] at this
    cases this
theorem get_isSome_iff {α : Type} {o : Option α} : o = none ↔ ¬ o.isSome = true := by cases o <;> simp

/-- asking keeps what holds -/
theorem Inv.wished {S : St} (h : Inv (fun _ => False) S) {who : Int} (hw : Al.get S.waits who = none) {s : Spot} {m : Int} (hm : mayS s m = true) (hc : coversI (heldS S who s) m = false) :
    Inv (fun _ => False) (wishS S who s (joinI (heldS S who s) m) (heldS S who s != 0)).1 := by
  have hsp : spotMay s := by
    simp only [mayS, Bool.and_eq_true, decide_eq_true_eq, bne_iff_ne, ne_eq, Bool.or_eq_true, beq_iff_eq] at hm
    exact ⟨hm.1.2, hm.2⟩
  have hi := h.spot s
  have hnq := h.wait_of hw s
  have hj : 1 ≤ joinI (heldS S who s) m ∧ joinI (heldS S who s) m ≤ 5 := ⟨joinI_pos hc, (joinI_range _ _).2⟩
  have hbl : ((Al.get S.spots s).getD sp0).blocked := by
    cases hx : Al.get S.spots s with
    | none => intro a l e; simp [sp0, Sp.queue] at e
    | some x => exact (h.shut s x hx (fun f => f)).2
  have hq1 : ∀ w, Al.get S.waits w = some s ↔ w ∈ ((Al.get S.spots s).getD sp0).queue.map (·.1) := by
    intro w
    rw [h.wq]
    cases hx : Al.get S.spots s with
    | none => simp [sp0, Sp.queue]
    | some x => simp
  have hne : ((Al.get S.spots s).getD sp0).queue ≠ [] → ((Al.get S.spots s).getD sp0).holds ≠ [] := by
    intro hq hh
    exact hq (blocked_holds hbl hh)
  have hheld := (hi.held (who := who)).1
  rw [← held_get] at hheld
  have hjm : ∀ m0, Al.get ((Al.get S.spots s).getD sp0).holds who = some m0 → ∀ c : Fin 6, Md.bes c (Md.n (joinI (heldS S who s) m)) = true → Md.bes c (Md.n m0) = true := by
    intro m0 hg c hb
    have e : heldS S who s = m0 := by rw [held_get, hg]; rfl
    rw [e, Md.n_join, Md.bes_symm] at hb
    rw [Md.bes_symm]
    exact Md.bes_join _ _ _ hb
  unfold wishS
  generalize hX : (Al.get S.spots s).getD sp0 = x at *
  generalize hJ : joinI (heldS S who s) m = j at *
  have hwn : who ∉ x.queue.map (·.1) := by
    intro hm
    obtain ⟨q, hq, e⟩ := List.mem_map.1 hm
    exact hnq q hq e
  have hput : ∀ w t, Al.get (Al.put S.waits who s) w = some t ↔ if t = s then (w = who ∨ w ∈ x.queue.map (·.1)) else Al.get S.waits w = some t := by
    intro w t
    rw [Al.get_put]
    by_cases e : w = who
    · subst e
      by_cases e2 : t = s
      · simp [e2]
      · simp only [if_true, e2, if_false, hw]
        exact ⟨fun h => by cases h; exact absurd rfl e2, fun h => by cases h⟩
    · rw [if_neg e]
      by_cases e2 : t = s
      · subst e2
        simp only [if_true, e, false_or]
        exact hq1 w
      · rw [if_neg e2]
  simp only
  split
  · rename_i hcond
    simp only [Bool.and_eq_true] at hcond
    have hput := hi.put (who := who) hj hcond.1 (List.Sublist.refl _) (List.Sublist.refl _) (fun q hq => hnq q (List.mem_append.2 (Or.inr hq)))
    refine h.turn (ws := S.waits) (y := { x with holds := Al.put x.holds who j }) (fun t _ hd => hd) hput (fun _ => ⟨fun e => ?_, ?_⟩) hsp h.wn ?_
    · have := Al.get_put x.holds who j who
      simp only at e
      rw [e] at this
      simp [Al.get] at this
    · intro a l e
      have hb := hbl a l e
      refine canG_put hi hjm (hnq a ?_) hb
      rw [show x.queue = a :: l from e]
      simp
    · intro w t
      by_cases e : t = s
      · subst e
        rw [if_pos rfl]
        exact hq1 w
      · rw [if_neg e]
  · rename_i hcond
    simp only [Bool.and_eq_true, not_and, Bool.or_eq_true, decide_eq_true_eq, bne_iff_ne, ne_eq, not_or, Decidable.not_not] at hcond
    split
    · rename_i hup
      simp only [bne_iff_ne, ne_eq] at hup
      have hcf : canG x.holds who j = false := by
        cases hcc : canG x.holds who j with
        | false => rfl
        | true => exact absurd (hcond hcc).2 hup
      have hsome : (Al.get x.holds who).isSome = true := by
        cases hg : Al.get x.holds who with
        | none => exact absurd (hheld.2 hg) hup
        | some _ => rfl
      have hqe : (⟨x.holds, x.up ++ [(who, j)], x.rest⟩ : Sp).queue = x.up ++ (who, j) :: x.rest := by simp [Sp.queue]
      have hqp : (x.up ++ (who, j) :: x.rest).Perm ((who, j) :: x.queue) := List.perm_middle
      refine h.turn (ws := Al.put S.waits who s) (y := ⟨x.holds, x.up ++ [(who, j)], x.rest⟩) (fun t _ hd => hd) ?_ (fun _ => ⟨fun e => ?_, ?_⟩) hsp (Al.put_nodup h.wn _ _) ?_
      · refine ⟨hi.hn, hi.hm, ?_, ?_, ?_, hi.restN, hi.bes⟩
        · intro q hq
          rw [hqe] at hq
          rcases List.mem_cons.1 (hqp.mem_iff.1 hq) with rfl | hq
          · exact hj
          · exact hi.qm q hq
        · rw [hqe]
          refine ((hqp.map (·.1)).nodup_iff).2 ?_
          exact List.nodup_cons.2 ⟨hwn, hi.qn⟩
        · intro q hq
          rcases List.mem_append.1 hq with hq | hq
          · exact hi.upH q hq
          · simp at hq
            rw [hq]
            exact hsome
      · simp only at e
        rw [e] at hsome
        simp [Al.get] at hsome
      · intro a l e
        rw [hqe] at e
        cases hu : x.up with
        | nil =>
          rw [hu] at e
          simp only [List.nil_append, List.cons.injEq] at e
          rw [← e.1]
          exact hcf
        | cons b u =>
          rw [hu] at e
          simp only [List.cons_append, List.cons.injEq] at e
          refine hbl a (u ++ x.rest) ?_
          rw [← e.1]
          simp [Sp.queue, hu]
      · intro w t
        rw [hput, hqe, ((hqp.map (·.1)).mem_iff)]
        simp
    · rename_i hup
      simp only [bne_iff_ne, ne_eq, Decidable.not_not] at hup
      have hnone : Al.get x.holds who = none := hheld.1 hup
      have hqe : (⟨x.holds, x.up, x.rest ++ [(who, j)]⟩ : Sp).queue = x.queue ++ [(who, j)] := by simp [Sp.queue]
      have hor : x.queue ≠ [] ∨ canG x.holds who j = false := by
        cases hcc : canG x.holds who j with
        | false => exact Or.inr rfl
        | true => exact Or.inl (hcond hcc).1
      refine h.turn (ws := Al.put S.waits who s) (y := ⟨x.holds, x.up, x.rest ++ [(who, j)]⟩) (fun t _ hd => hd) ?_ (fun _ => ⟨fun e => ?_, ?_⟩) hsp (Al.put_nodup h.wn _ _) ?_
      · refine ⟨hi.hn, hi.hm, ?_, ?_, hi.upH, ?_, hi.bes⟩
        · intro q hq
          rw [hqe] at hq
          rcases List.mem_append.1 hq with hq | hq
          · exact hi.qm q hq
          · simp at hq
            rw [hq]
            exact hj
        · rw [hqe, List.map_append, List.nodup_append]
          refine ⟨hi.qn, by simp, fun a ha b hb e => ?_⟩
          simp at hb
          subst hb
          subst e
          exact hwn ha
        · intro q hq
          rcases List.mem_append.1 hq with hq | hq
          · exact hi.restN q hq
          · simp at hq
            rw [hq]
            exact hnone
      · simp only at e
        rcases hor with hor | hor
        · exact hne hor e
        · rw [e] at hor
          simp [canG] at hor
      · intro a l e
        rw [hqe] at e
        cases hq : x.queue with
        | nil =>
          rw [hq] at e
          simp only [List.nil_append, List.cons.injEq] at e
          rcases hor with hor | hor
          · exact absurd hq hor
          · rw [← e.1]
            exact hor
        | cons b u =>
          rw [hq] at e
          simp only [List.cons_append, List.cons.injEq] at e
          exact hbl a u (by rw [hq, e.1])
      · intro w t
        rw [hput, hqe]
        simp
        grind

theorem Inv.ask {S : St} (h : Inv (fun _ => False) S) (who : Int) (s : Spot) (m : Int) : Inv (fun _ => False) (askS S who s m).1 := by
  unfold askS
  split
  · exact h
  · rename_i hm
    split
    · exact h
    · rename_i hw
      split
      · exact h
      · rename_i hc
        split
        · exact h
        · exact h.wished (get_isSome_iff.2 hw) (by simpa using hm) (by simpa using hc)

theorem Inv.free {S : St} (h : Inv (fun _ => False) S) (who : Int) (s : Spot) : Inv (fun _ => False) (freeS S who s).1 := by
  unfold freeS
  split
  · exact h
  · rename_i hw
    split
    · exact h
    · exact ((h.drop (get_isSome_iff.2 hw) s).woken [s]).weak (fun t ht => by rcases ht.1 with hd | hd; exact hd; exact ht.2 (by simp [hd]))

theorem Inv.cancel {S : St} (h : Inv (fun _ => False) S) (who : Int) : Inv (fun _ => False) (cancelS S who).1 := by
  have hl := h.leaves who
  unfold cancelS
  split
  · exact h
  · rename_i s hs
    refine (hl.1.woken [s]).weak (fun t ht => ?_)
    rcases ht.1 with hd | hd
    · exact hd
    · rw [hs] at hd
      cases hd
      exact ht.2 (by simp)

theorem Inv.drops {who : Int} : ∀ (l : List Spot) {D : Spot → Prop} {S : St}, Inv D S → Al.get S.waits who = none → Inv (fun t => D t ∨ t ∈ l) (l.foldl (fun T s => dropS T who s) S)
  | [], D, S, h, _ => h.weak (fun _ => Or.inl)
  | s :: l, D, S, h, hw => by
    rw [List.foldl_cons]
    refine (Inv.drops l (h.drop hw s) (by rw [drop_waits]; exact hw)).weak (fun t ht => ?_)
    rcases ht with (ht | ht) | ht
    · exact Or.inl ht
    · exact Or.inr (by simp [ht])
    · exact Or.inr (by simp [ht])

theorem Inv.leave {S : St} (h : Inv (fun _ => False) S) (who : Int) : Inv (fun _ => False) (leaveS S who).1 := by
  have hl := h.leaves who
  unfold leaveS
  refine ((Inv.drops (allS S who) hl.1 hl.2).woken _).weak (fun t ht => ?_)
  refine ht.2 ?_
  rw [onceS_mem, sortS_mem]
  rcases ht.1 with (hd | hd) | hd
  · exact hd.elim
  · unfold allS
    rw [hd]
    simp
  · exact hd
theorem Inv.new (most : Int) : Inv (fun _ => False) ⟨most, [], []⟩ := ⟨by simp, by simp, by simp [Al.get], by simp [Al.get], by simp [Al.get], by simp [Al.get]⟩
end Go.Proofs.Ytmolmeamnmefeaa
