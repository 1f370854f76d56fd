/- A table of locks, plainly (6). -/
import Derived.Test.YtmolmeamnmefeaaPure5
namespace Go.Proofs.Ytmolmeamnmefeaa
open Go.RowKit

/-! ### holders and queues, as the laws look at them -/
theorem mem_holdersOf {H : List Hold} (hn : (H.map (·.1)).Nodup) {h : Hold} : h ∈ holdersOf H ↔ h ∈ H := by
  unfold holdersOf
  rw [List.mem_map]
  constructor
  · rintro ⟨k, hk, rfl⟩
    rw [sortI_mem] at hk
    obtain ⟨m, hm⟩ := Option.isSome_iff_exists.1 (Al.find_some.2 hk)
    rw [hm]
    exact Al.mem_of_get hm
  · intro hh
    obtain ⟨k, m⟩ := h
    refine ⟨k, sortI_mem.2 (List.mem_map.2 ⟨_, hh, rfl⟩), ?_⟩
    rw [Al.get_some hn hh]
    rfl
theorem holdersOf_nodup {H : List Hold} (hn : (H.map (·.1)).Nodup) : ((holdersOf H).map (·.1)).Nodup := by
  unfold holdersOf
  rw [List.map_map]
  have : ((fun x : Hold => x.1) ∘ fun x => (x, (Al.get H x).getD 0)) = id := rfl
  rw [this, List.map_id]
  exact (sortI_perm _).nodup_iff.2 hn

/-- all go beside each other, none of them none -/
def BesideOk (H : List Hold) : Prop := (∀ h ∈ H, 1 ≤ h.2 ∧ h.2 ≤ 5) ∧ H.Pairwise (fun a b => Md.bes (Md.n b.2) (Md.n a.2) = true)
theorem SpInv.beside {x : Sp} (h : SpInv x) : BesideOk (holdersOf x.holds) := by
  refine ⟨fun a ha => h.hm a ((mem_holdersOf h.hn).1 ha), ?_⟩
  have hn := holdersOf_nodup h.hn
  rw [List.Nodup, List.pairwise_map] at hn
  refine hn.imp_of_mem (fun {a b} ha hb hne => ?_)
  exact h.bes b ((mem_holdersOf h.hn).1 hb) a ((mem_holdersOf h.hn).1 ha) (Ne.symm hne)

def upF (H : List Hold) (w : Int) : Bool := H.any (fun x => decide (x.1 = w))
def freeF (H : List Hold) (w m : Int) : Bool := H.all (fun x => decide (x.1 = w) || Md.bes (Md.n m) (Md.n x.2))
/-- the first of a queue could not be granted, and who holds something stands ahead -/
def BlockedOk (H Q : List Hold) : Prop := (∀ a l, Q = a :: l → freeF H a.1 a.2 = false) ∧ Q.Pairwise (fun a b => upF H b.1 = true → upF H a.1 = true)

theorem upF_holders {H : List Hold} (hn : (H.map (·.1)).Nodup) (w : Int) : upF (holdersOf H) w = true ↔ (Al.get H w).isSome = true := by
  unfold upF
  rw [List.any_eq_true, Al.find_some]
  constructor
  · rintro ⟨h, hh, he⟩
    have := (mem_holdersOf hn).1 hh
    simp only [decide_eq_true_eq] at he
    exact List.mem_map.2 ⟨h, this, he⟩
  · intro hw
    obtain ⟨h, hh, he⟩ := List.mem_map.1 hw
    exact ⟨h, (mem_holdersOf hn).2 hh, by simpa using he⟩
theorem freeF_canG {H : List Hold} (hn : (H.map (·.1)).Nodup) (w m : Int) : freeF (holdersOf H) w m = canG H w m := by
  rw [Bool.eq_iff_iff, canG_iff]
  unfold freeF
  rw [List.all_eq_true]
  constructor
  · intro h x hx
    have := h x ((mem_holdersOf hn).2 hx)
    simpa using this
  · intro h x hx
    have := h x ((mem_holdersOf hn).1 hx)
    simpa using this
theorem SpInv.blockedOk {x : Sp} (h : SpInv x) (hb : x.blocked) : BlockedOk (holdersOf x.holds) x.queue := by
  refine ⟨fun a l e => ?_, ?_⟩
  · rw [freeF_canG h.hn]
    exact hb a l e
  · unfold Sp.queue
    rw [List.pairwise_append]
    refine ⟨?_, ?_, ?_⟩
    · refine List.pairwise_of_forall_mem_list (fun a ha b hb _ => ?_)
      rw [upF_holders h.hn]
      exact h.upH a ha
    · refine List.pairwise_of_forall_mem_list (fun a ha b hb hu => ?_)
      rw [upF_holders h.hn, h.restN b hb] at hu
      cases hu
    · intro a ha b hb _
      rw [upF_holders h.hn]
      exact h.upH a ha
theorem Good.spotOk {S : St} {k : Nat} (h : Good S k) (s : Spot) : BesideOk (holdersS S s) ∧ BlockedOk (holdersS S s) (queueS S s) := by
  unfold holdersS queueS
  cases hx : Al.get S.spots s with
  | none => exact ⟨⟨by simp, by simp⟩, ⟨by simp, by simp⟩⟩
  | some x => exact ⟨(h.inv.each s x hx).beside, (h.inv.each s x hx).blockedOk (h.inv.shut s x hx (fun f => f)).2⟩

/-- what is held -/
theorem Good.held {S : St} {k : Nat} (h : Good S k) (who : Int) (s : Spot) : 0 ≤ heldS S who s ∧ heldS S who s ≤ 5 := by
  have := ((h.inv.spot s).held (who := who)).2
  rw [held_get]
  cases hg : Al.get ((Al.get S.spots s).getD sp0).holds who with
  | none => simp
  | some m => have := this m hg; simp; omega

theorem held_put (S : St) (s : Spot) (y : Sp) (ws : List (Int × Spot)) (w : Int) (t : Spot) : heldS { S with spots := Al.put S.spots s y, waits := ws } w t = if t = s then (Al.get y.holds w).getD 0 else heldS S w t := by
  unfold heldS
  simp only [Al.get_put]
  by_cases e : t = s
  · simp [e]
  · simp [e]

theorem Md.cov_join : ∀ i j : Fin 6, Md.cov (Md.join i j) j = true := by decide
theorem Md.join_cov : ∀ i j : Fin 6, Md.cov i j = true → Md.join i j = i := by decide
theorem covers_join (a b : Int) : coversI (joinI a b) b = true := by
  unfold coversI
  rw [Md.n_join]
  exact Md.cov_join _ _
theorem join_covers {a b : Int} (h0 : 0 ≤ a) (h5 : a ≤ 5) (h : coversI a b = true) : joinI a b = a := by
  unfold joinI
  rw [Md.join_cov _ _ h, Md.v_n h0 h5]

theorem wish_held (S : St) (who : Int) (s : Spot) (j : Int) (up : Bool) : heldS (wishS S who s j up).1 who s = if (wishS S who s j up).2.1 = true then j else heldS S who s := by
  unfold wishS
  simp only
  split
  · rw [held_put S]
    simp [Al.get_put]
  · split
    · rw [held_put S, if_pos rfl, held_get]
      rfl
    · rw [held_put S, if_pos rfl, held_get]
      rfl
theorem wish_err (S : St) (who : Int) (s : Spot) (j : Int) (up : Bool) : (wishS S who s j up).2.2 = 0 := by
  unfold wishS
  simp only
  split
  · rfl
  · split <;> rfl
/-- P11.6: what is granted was asked -/
theorem Good.asked {S : St} {k : Nat} (h : Good S k) (who : Int) (s : Spot) (m : Int) :
    (askS S who s m).2.1 = (decide ((askS S who s m).2.2 = 0) && coversI (heldS (askS S who s m).1 who s) m) ∧ ((askS S who s m).2.1 = true → heldS (askS S who s m).1 who s = joinI (heldS S who s) m) := by
  have hh := h.held who s
  unfold askS
  split
  · simp
  · split
    · simp
    · split
      · rename_i hc
        refine ⟨by simp [hc], fun _ => (join_covers hh.1 hh.2 hc).symm⟩
      · rename_i hc
        split
        · simp
        · rw [wish_err, wish_held]
          cases hb : (wishS S who s (joinI (heldS S who s) m) (heldS S who s != 0)).2.1 with
          | true => simp [covers_join]
          | false => simpa using hc

/-- P11.2: who asks for what it has -/
theorem Good.again {S : St} {k : Nat} (h : Good S k) {who : Int} {s : Spot} {m : Int} (hw : waitsS S who = none) (hh : heldS S who s ≠ 0) (hm : 1 ≤ m ∧ m ≤ 5) (hc : coversI (heldS S who s) m = true) : askS S who s m = (S, true, 0) := by
  have hw' : Al.get S.waits who = none := by
    cases hg : Al.get S.waits who with
    | none => rfl
    | some t =>
      exfalso
      obtain ⟨x, hx, hmm⟩ := (h.inv.wq who t).1 hg
      unfold waitsS at hw
      rw [hg] at hw
      simp only [Option.bind_some, Option.map_eq_none_iff, List.find?_eq_none] at hw
      obtain ⟨q, hq, e⟩ := List.mem_map.1 hmm
      refine hw q ?_ (by simpa using e)
      unfold queueS
      rw [hx]
      exact hq
  have hmay : mayS s m = true := by
    have : spotMay s := by
      cases hx : Al.get S.spots s with
      | none => unfold heldS at hh; rw [hx] at hh; simp at hh
      | some x => exact h.inv.may s x hx
    obtain ⟨h1, h2⟩ := this
    simp only [mayS, Bool.and_eq_true, decide_eq_true_eq, bne_iff_ne, ne_eq, Bool.or_eq_true, beq_iff_eq]
    refine ⟨⟨⟨hm.2, by omega⟩, h1⟩, h2⟩
  unfold askS
  rw [hmay, hw', hc]
  simp
end Go.Proofs.Ytmolmeamnmefeaa
