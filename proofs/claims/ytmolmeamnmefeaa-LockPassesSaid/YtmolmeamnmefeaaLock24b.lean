/- A spot that turns, and whose rows may lie anew. -/
import Derived.Test.YtmolmeamnmefeaaLock24
namespace Go.Proofs.Ytmolmeamnmefeaa
open Go.RowKit Go.Shelf Go.Proofs Go.Sort

/-- one spot turned, its rows perhaps in blocks that are new -/
theorem LocksOk.turnedNew {w w' : World} {C : CLocks} {s : Spot} {c c' : CSpot} (h : LocksOk w C) (hg : Al.get C.spots s = some c) (ht : Turn c.fp w w') (hc : SpotOk w' c') (hp : c'.p = c.p) (hf : ∀ b, c'.fp b → c.fp b ∨ w.heap.size ≤ b) :
    LocksOk w' { C with spots := Al.put C.spots s c' } := by
  have hm := Al.mem_of_get hg
  have hown := h.own _ hm
  have hlt := h.lt
  refine ⟨(ht.block _ (h.lt _ (Or.inl rfl)) hown.1).trans h.blk, ?_, h.waits.of_block (ht.block _ h.waits.lt hown.2.2), ?_, ?_, ?_, h.ne, h.most, h.waitsOk⟩
  · refine (h.spots.of_block (ht.block _ h.spots.lt hown.2.1)).congr (Al.put_enc _ h.spots.nodup hg ?_).symm ?_
    · simp only [mtSpots, hp]
    · intro p hpm
      rcases Al.mem_put hpm with rfl | ⟨hp', _⟩
      · exact h.spots.keyOk (s, c) hm
      · exact h.spots.keyOk _ hp'
  · intro x hx
    rcases Al.mem_put hx with rfl | ⟨hx', hk⟩
    · exact hc
    · exact (h.each x hx').of_blocks (fun b hb => ht.block b ((h.each x hx').lt b hb) (h.apart x hx' _ hm hk b hb))
  · intro x hx y hy hxy b hb hb'
    rcases Al.mem_put hx with rfl | ⟨hx', hk⟩ <;> rcases Al.mem_put hy with rfl | ⟨hy', hk'⟩
    · exact hxy rfl
    · rcases hf b hb with e | e
      · exact h.apart _ hm y hy' hxy b e hb'
      · have := (h.each y hy').lt b hb'
        omega
    · rcases hf b hb' with e | e
      · exact h.apart x hx' _ hm hxy b hb e
      · have := (h.each x hx').lt b hb
        omega
    · exact h.apart x hx' y hy' hxy b hb hb'
  · intro x hx
    rcases Al.mem_put hx with rfl | ⟨hx', hk⟩
    · refine ⟨fun e => ?_, fun e => ?_, fun e => ?_⟩
      · rcases hf _ e with e | e
        · exact hown.1 e
        · exact absurd (hlt _ (Or.inl rfl)) (Nat.not_lt.2 e)
      · rcases hf _ e with e | e
        · exact hown.2.1 e
        · exact absurd (hlt _ (Or.inr (Or.inl rfl))) (Nat.not_lt.2 e)
      · rcases hf _ e with e | e
        · exact hown.2.2 e
        · exact absurd (hlt _ (Or.inr (Or.inr (Or.inl rfl)))) (Nat.not_lt.2 e)
    · exact h.own x hx'

theorem fp_putNew {C : CLocks} {n : Nat} {s : Spot} {c c' : CSpot} (hg : Al.get C.spots s = some c) (hf : ∀ b, c'.fp b → c.fp b ∨ n ≤ b) : ∀ b, ({ C with spots := Al.put C.spots s c' } : CLocks).fp b → C.fp b ∨ n ≤ b := by
  rintro b (rfl | rfl | rfl | ⟨x, hx, hb⟩)
  · exact Or.inl (Or.inl rfl)
  · exact Or.inl (Or.inr (Or.inl rfl))
  · exact Or.inl (Or.inr (Or.inr (Or.inl rfl)))
  · rcases Al.mem_put hx with rfl | ⟨hx', _⟩
    · rcases hf b hb with e | e
      · exact Or.inl (Or.inr (Or.inr (Or.inr ⟨_, Al.mem_of_get hg, e⟩)))
      · exact Or.inr e
    · exact Or.inl (Or.inr (Or.inr (Or.inr ⟨x, hx', hb⟩)))

/-- one more upgrades -/
theorem SpotOk.upped {w w6 : World} {c : CSpot} {v' : Value} {h0 : Hold} (h : SpotOk w c) (hr : Row etHold w6 0 v' (c.up ++ [h0])) (ht : Turn (fun b => c.vu.ownBlock = some b) w w6) (hn : v'.ownBlock = c.vu.ownBlock ∨ ∀ b, v'.ownBlock = some b → w.heap.size ≤ b) (hk : i64 h0.1 ∧ 1 ≤ h0.2 ∧ h0.2 ≤ 5) :
    SpotOk (w6.setCell ⟨c.p, 1, none⟩ v') { c with vu := v', up := c.up ++ [h0] } ∧ Turn c.fp w (w6.setCell ⟨c.p, 1, none⟩ v') ∧ ∀ b, ({ c with vu := v', up := c.up ++ [h0] } : CSpot).fp b → c.fp b ∨ w.heap.size ≤ b := by
  obtain ⟨hne, hrn⟩ := h.ne
  have hlt := h.lt
  have hvp : ∀ b, v'.ownBlock = some b → b ≠ c.p := by
    intro b hb e
    rcases hn with e1 | e1
    · exact (hrn b (Or.inl (e1 ▸ hb))).1 e
    · have := e1 b hb
      have := hlt _ (Or.inl rfl)
      omega
  have hp6 : w6.heap[c.p]? = some (.cells #[.map (some c.hb), c.vu, c.vr] 68 (0, 0)) := (ht.block _ (hlt _ (Or.inl rfl)) (fun e => (hrn _ (Or.inl e)).1 rfl)).trans h.blk
  have hot : ∀ b, b ≠ c.p → (w6.setCell ⟨c.p, 1, none⟩ v').heap[b]? = w6.heap[b]? := fun b hb => Below.heap_setCell _ _ _ _ hb
  refine ⟨⟨?_, ?_, ?_, ?_, ?_, h.modes, ?_, h.restOk⟩, ?_, ?_⟩
  · exact heap_setCell_at _ hp6
  · exact h.holds.of_block ((hot _ (fun e => hne e.symm)).trans (ht.block _ h.holds.lt (fun e => (hrn _ (Or.inl e)).2 rfl)))
  · exact hr.of_block (fun b hb => hot b (hvp b hb))
  · exact h.rest.of_block (fun b hb => (hot b (hrn b (Or.inr hb)).1).trans (ht.block b (h.rest.lt b hb).2 (fun e => h.apart b e hb)))
  · intro b hb hb'
    rcases hn with e | e
    · exact h.apart b (e ▸ hb) hb'
    · have := e b hb
      have := (h.rest.lt b hb').2
      omega
  · intro x hx
    rcases List.mem_append.1 hx with hx | hx
    · exact h.upOk x hx
    · simp at hx
      rw [hx]
      exact hk
  · exact Turn.setCell (fp := c.fp) (ht.mono (fun b _ e => Or.inr (Or.inr (Or.inl e)))) (Or.inl (Or.inl rfl)) _
  · rintro b (e | e | e | e)
    · exact Or.inl (Or.inl e)
    · exact Or.inl (Or.inr (Or.inl e))
    · rcases hn with e1 | e1
      · exact Or.inl (Or.inr (Or.inr (Or.inl (e1 ▸ e))))
      · exact Or.inr (e1 b e)
    · exact Or.inl (Or.inr (Or.inr (Or.inr e)))

/-- one more waits -/
theorem SpotOk.rested {w w6 : World} {c : CSpot} {v' : Value} {h0 : Hold} (h : SpotOk w c) (hr : Row etHold w6 0 v' (c.rest ++ [h0])) (ht : Turn (fun b => c.vr.ownBlock = some b) w w6) (hn : v'.ownBlock = c.vr.ownBlock ∨ ∀ b, v'.ownBlock = some b → w.heap.size ≤ b) (hk : i64 h0.1 ∧ 1 ≤ h0.2 ∧ h0.2 ≤ 5) :
    SpotOk (w6.setCell ⟨c.p, 2, none⟩ v') { c with vr := v', rest := c.rest ++ [h0] } ∧ Turn c.fp w (w6.setCell ⟨c.p, 2, none⟩ v') ∧ ∀ b, ({ c with vr := v', rest := c.rest ++ [h0] } : CSpot).fp b → c.fp b ∨ w.heap.size ≤ b := by
  obtain ⟨hne, hrn⟩ := h.ne
  have hlt := h.lt
  have hvp : ∀ b, v'.ownBlock = some b → b ≠ c.p := by
    intro b hb e
    rcases hn with e1 | e1
    · exact (hrn b (Or.inr (e1 ▸ hb))).1 e
    · have := e1 b hb
      have := hlt _ (Or.inl rfl)
      omega
  have hp6 : w6.heap[c.p]? = some (.cells #[.map (some c.hb), c.vu, c.vr] 68 (0, 0)) := (ht.block _ (hlt _ (Or.inl rfl)) (fun e => (hrn _ (Or.inr e)).1 rfl)).trans h.blk
  have hot : ∀ b, b ≠ c.p → (w6.setCell ⟨c.p, 2, none⟩ v').heap[b]? = w6.heap[b]? := fun b hb => Below.heap_setCell _ _ _ _ hb
  refine ⟨⟨?_, ?_, ?_, ?_, ?_, h.modes, h.upOk, ?_⟩, ?_, ?_⟩
  · exact heap_setCell_at _ hp6
  · exact h.holds.of_block ((hot _ (fun e => hne e.symm)).trans (ht.block _ h.holds.lt (fun e => (hrn _ (Or.inr e)).2 rfl)))
  · exact h.up.of_block (fun b hb => (hot b (hrn b (Or.inl hb)).1).trans (ht.block b (h.up.lt b hb).2 (fun e => h.apart b hb e)))
  · exact hr.of_block (fun b hb => hot b (hvp b hb))
  · intro b hb hb'
    rcases hn with e | e
    · exact h.apart b hb (e ▸ hb')
    · have := e b hb'
      have := (h.up.lt b hb).2
      omega
  · intro x hx
    rcases List.mem_append.1 hx with hx | hx
    · exact h.restOk x hx
    · simp at hx
      rw [hx]
      exact hk
  · exact Turn.setCell (fp := c.fp) (ht.mono (fun b _ e => Or.inr (Or.inr (Or.inr e)))) (Or.inl (Or.inl rfl)) _
  · rintro b (e | e | e | e)
    · exact Or.inl (Or.inl e)
    · exact Or.inl (Or.inr (Or.inl e))
    · exact Or.inl (Or.inr (Or.inr (Or.inl e)))
    · rcases hn with e1 | e1
      · exact Or.inl (Or.inr (Or.inr (Or.inr (e1 ▸ e))))
      · exact Or.inr (e1 b e)
end Go.Proofs.Ytmolmeamnmefeaa
