/- A table of locks through its turns. -/
import Derived.Test.YtmolmeamnmefeaaLock13
namespace Go.Proofs.Ytmolmeamnmefeaa
open Go.RowKit Go.Shelf Go.Proofs Go.Sort
open Go.ChangeMaps (setBlock)

theorem mapTurned_turn {w w' : World} {b : Nat} (h : w.mapTurned w' b) : Turn (fun x => x = b) w w' := by
  obtain ⟨es, clock, es', clock', hb, rfl⟩ := h
  exact ⟨rfl, rfl, rfl, by simp [setBlock], fun x hx hn => (MapKept.heap_set (o' := .map es' clock') hb).2 x hn⟩

theorem MapAt.congr {P : Program} {t : TypeId} {κ α : Type} {M : MT P t κ α} {w : World} {b : Nat} {m m' : List (κ × α)} (h : MapAt M w b m) (he : m.map (fun p => (M.encK p.1, M.encV p.2)) = m'.map (fun p => (M.encK p.1, M.encV p.2))) (hk : ∀ p ∈ m', M.ok p.1) : MapAt M w b m' := by
  obtain ⟨es, clock, hb, hs, h1, _⟩ := h
  exact ⟨es, clock, hb, hs, h1.trans he, hk⟩

theorem Al.mem_put {κ α : Type} [DecidableEq κ] {m : List (κ × α)} {k : κ} {v : α} {p : κ × α} (h : p ∈ Al.put m k v) : p = (k, v) ∨ (p ∈ m ∧ p.1 ≠ k) := by
  unfold Al.put at h
  split at h
  · obtain ⟨q, hq, rfl⟩ := List.mem_map.1 h
    by_cases hk : q.1 = k
    · rw [if_pos hk]
      exact Or.inl rfl
    · rw [if_neg hk]
      exact Or.inr ⟨hq, hk⟩
  · rename_i hn
    rcases List.mem_append.1 h with h | h
    · refine Or.inr ⟨h, fun e => ?_⟩
      apply hn
      unfold Al.get
      rw [Option.isSome_map, List.find?_isSome]
      exact ⟨p, h, by simpa using e⟩
    · simp at h
      exact Or.inl h
theorem Al.mem_del {κ α : Type} [DecidableEq κ] {m : List (κ × α)} {k : κ} {p : κ × α} (h : p ∈ Al.del m k) : p ∈ m ∧ p.1 ≠ k := by
  have := List.mem_filter.1 h
  exact ⟨this.1, by simpa using this.2⟩

theorem Al.put_enc {κ α β : Type} [DecidableEq κ] (f : κ × α → β) {m : List (κ × α)} {k : κ} {c c' : α} (hn : (m.map (·.1)).Nodup) (hg : Al.get m k = some c) (hf : f (k, c') = f (k, c)) : (Al.put m k c').map f = m.map f := by
  unfold Al.put
  rw [hg]
  simp only [Option.isSome_some, if_true, List.map_map]
  refine List.map_congr_left (fun p hp => ?_)
  simp only [Function.comp]
  split
  · rename_i hk
    have h1 := Al.get_some hn hp
    rw [hk, hg] at h1
    cases h1
    rw [hf, ← hk]
  · rfl

/-- one spot turned in place -/
theorem LocksOk.turned {w w' : World} {C : CLocks} {s : Spot} {c c' : CSpot} (h : LocksOk w C) (hg : Al.get C.spots s = some c) (ht : Turn c.fp w w') (hc : SpotOk w' c') (hp : c'.p = c.p) (hf : ∀ b, c'.fp b → c.fp b) :
    LocksOk w' { C with spots := Al.put C.spots s c' } := by
  have hm := Al.mem_of_get hg
  have hown := h.own _ hm
  refine ⟨(ht.block _ (h.lt _ (Or.inl rfl)) hown.1).trans h.blk, ?_, h.waits.of_block (ht.block _ h.waits.lt hown.2.2), ?_, ?_, ?_, h.ne, h.most, h.waitsOk⟩
  · refine (h.spots.of_block (ht.block _ h.spots.lt hown.2.1)).congr (Al.put_enc _ h.spots.nodup hg ?_).symm ?_
    · simp only [mtSpots, hp]
    · intro p hpm
      rcases Al.mem_put hpm with rfl | ⟨hp', _⟩
      · exact h.spots.keyOk (s, c) hm
      · exact h.spots.keyOk _ hp'
  · intro x hx
    rcases Al.mem_put hx with rfl | ⟨hx', hk⟩
    · exact hc
    · exact (h.each x hx').of_blocks (fun b hb => ht.block b ((h.each x hx').lt b hb) (h.apart x hx' _ hm hk b hb))
  · intro x hx y hy hxy b hb hb'
    rcases Al.mem_put hx with rfl | ⟨hx', hk⟩ <;> rcases Al.mem_put hy with rfl | ⟨hy', hk'⟩
    · exact hxy rfl
    · exact h.apart _ hm y hy' hxy b (hf b hb) hb'
    · exact h.apart x hx' _ hm hxy b hb (hf b hb')
    · exact h.apart x hx' y hy' hxy b hb hb'
  · intro x hx
    rcases Al.mem_put hx with rfl | ⟨hx', hk⟩
    · exact ⟨fun e => hown.1 (hf _ e), fun e => hown.2.1 (hf _ e), fun e => hown.2.2 (hf _ e)⟩
    · exact h.own x hx'

theorem fp_put {C : CLocks} {s : Spot} {c c' : CSpot} (hg : Al.get C.spots s = some c) (hf : ∀ b, c'.fp b → c.fp b) : ∀ b, ({ C with spots := Al.put C.spots s c' } : CLocks).fp b → C.fp b := by
  rintro b (rfl | rfl | rfl | ⟨x, hx, hb⟩)
  · exact Or.inl rfl
  · exact Or.inr (Or.inl rfl)
  · exact Or.inr (Or.inr (Or.inl rfl))
  · rcases Al.mem_put hx with rfl | ⟨hx', _⟩
    · exact Or.inr (Or.inr (Or.inr ⟨_, Al.mem_of_get hg, hf b hb⟩))
    · exact Or.inr (Or.inr (Or.inr ⟨x, hx', hb⟩))

theorem fp_spot {C : CLocks} {s : Spot} {c : CSpot} (hg : Al.get C.spots s = some c) : ∀ b, c.fp b → C.fp b := fun _ hb => Or.inr (Or.inr (Or.inr ⟨_, Al.mem_of_get hg, hb⟩))

/-- who waits has turned -/
theorem LocksOk.waited {w w' : World} {C : CLocks} (h : LocksOk w C) (ht : Turn (fun b => b = C.wb) w w') (ws : List (Int × Spot)) (hw : MapAt mtWaits w' C.wb ws) (hk : ∀ x ∈ ws, spotOk x.2) : LocksOk w' { C with waits := ws } :=
  ⟨(ht.block _ (h.lt _ (Or.inl rfl)) (by
      intro e
      have h1 := h.blk
      rw [e] at h1
      obtain ⟨es, clock, hb, _⟩ := h.waits
      rw [hb] at h1
      cases h1)).trans h.blk, h.spots.of_block (ht.block _ h.spots.lt h.ne), hw, fun x hx => (h.each x hx).of_blocks (fun b hb => ht.block b ((h.each x hx).lt b hb) (fun e => (h.own x hx).2.2 (e ▸ hb))), h.apart, h.own, h.ne, h.most, hk⟩

theorem LocksOk.lb_ne {w : World} {C : CLocks} (h : LocksOk w C) : C.lb ≠ C.sb ∧ C.lb ≠ C.wb := by
  have h1 := h.blk
  refine ⟨fun e => ?_, fun e => ?_⟩
  · rw [e] at h1
    obtain ⟨es, clock, hb, _⟩ := h.spots
    rw [hb] at h1
    cases h1
  · rw [e] at h1
    obtain ⟨es, clock, hb, _⟩ := h.waits
    rw [hb] at h1
    cases h1

/-- a spot is struck -/
theorem LocksOk.struck {w w' : World} {C : CLocks} (h : LocksOk w C) (ht : Turn (fun b => b = C.sb) w w') (s : Spot) (hw : MapAt mtSpots w' C.sb (Al.del C.spots s)) : LocksOk w' { C with spots := Al.del C.spots s } :=
  ⟨(ht.block _ (h.lt _ (Or.inl rfl)) h.lb_ne.1).trans h.blk, hw, h.waits.of_block (ht.block _ h.waits.lt (fun e => h.ne e.symm)), fun x hx => (h.each x (Al.mem_del hx).1).of_blocks (fun b hb => ht.block b ((h.each x (Al.mem_del hx).1).lt b hb) (fun e => (h.own x (Al.mem_del hx).1).2.1 (e ▸ hb))),
    fun x hx y hy => h.apart x (Al.mem_del hx).1 y (Al.mem_del hy).1, fun x hx => h.own x (Al.mem_del hx).1, h.ne, h.most, h.waitsOk⟩

theorem fp_del {C : CLocks} {s : Spot} : ∀ b, ({ C with spots := Al.del C.spots s } : CLocks).fp b → C.fp b := by
  rintro b (rfl | rfl | rfl | ⟨x, hx, hb⟩)
  · exact Or.inl rfl
  · exact Or.inr (Or.inl rfl)
  · exact Or.inr (Or.inr (Or.inl rfl))
  · exact Or.inr (Or.inr (Or.inr ⟨x, (Al.mem_del hx).1, hb⟩))

/-- a new spot -/
theorem LocksOk.added {w w' : World} {C : CLocks} (h : LocksOk w C) (ht : Turn (fun b => b = C.sb) w w') (s : Spot) (c : CSpot) (_ : Al.get C.spots s = none) (hw : MapAt mtSpots w' C.sb (Al.put C.spots s c)) (hc : SpotOk w' c) (hnew : ∀ b, c.fp b → ¬ C.fp b) : LocksOk w' { C with spots := Al.put C.spots s c } := by
  refine ⟨(ht.block _ (h.lt _ (Or.inl rfl)) h.lb_ne.1).trans h.blk, hw, h.waits.of_block (ht.block _ h.waits.lt (fun e => h.ne e.symm)), ?_, ?_, ?_, h.ne, h.most, h.waitsOk⟩
  · intro x hx
    rcases Al.mem_put hx with rfl | ⟨hx', _⟩
    · exact hc
    · exact (h.each x hx').of_blocks (fun b hb => ht.block b ((h.each x hx').lt b hb) (fun e => (h.own x hx').2.1 (e ▸ hb)))
  · intro x hx y hy hxy b hb hb'
    rcases Al.mem_put hx with rfl | ⟨hx', hk⟩ <;> rcases Al.mem_put hy with rfl | ⟨hy', hk'⟩
    · exact hxy rfl
    · exact hnew b hb (Or.inr (Or.inr (Or.inr ⟨y, hy', hb'⟩)))
    · exact hnew b hb' (Or.inr (Or.inr (Or.inr ⟨x, hx', hb⟩)))
    · exact h.apart x hx' y hy' hxy b hb hb'
  · intro x hx
    rcases Al.mem_put hx with rfl | ⟨hx', hk⟩
    · exact ⟨fun e => hnew _ e (Or.inl rfl), fun e => hnew _ e (Or.inr (Or.inl rfl)), fun e => hnew _ e (Or.inr (Or.inr (Or.inl rfl)))⟩
    · exact h.own x hx'
end Go.Proofs.Ytmolmeamnmefeaa
