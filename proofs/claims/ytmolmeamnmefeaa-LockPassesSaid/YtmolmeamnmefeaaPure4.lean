/- A table of locks, plainly (4). -/
import Derived.Test.YtmolmeamnmefeaaPure3
namespace Go.Proofs.Ytmolmeamnmefeaa
open Go.RowKit

/-! ### how much there is -/
theorem wtS_put {S : St} (hn : (S.spots.map (·.1)).Nodup) (s : Spot) (y : Sp) (ws : List (Int × Spot)) : wtS { S with spots := Al.put S.spots s y, waits := ws } + ((Al.get S.spots s).getD sp0).wt = wtS S + y.wt := by
  have := Al.sum_put (fun p : Spot × Sp => p.2.holds.length + p.2.up.length + p.2.rest.length) hn s y
  unfold wtS Sp.wt
  cases hg : Al.get S.spots s with
  | none => rw [hg] at this; exact this
  | some x => rw [hg] at this; exact this
theorem usedS_put {S : St} (hn : (S.spots.map (·.1)).Nodup) (s : Spot) (y : Sp) (ws : List (Int × Spot)) : usedS { S with spots := Al.put S.spots s y, waits := ws } + ((Al.get S.spots s).getD sp0).used = usedS S + y.used := by
  have := Al.sum_put (fun p : Spot × Sp => p.2.holds.length + p.2.rest.length) hn s y
  unfold usedS Sp.used
  cases hg : Al.get S.spots s with
  | none => rw [hg] at this; exact this
  | some x => rw [hg] at this; exact this

/-- T has no more than S -/
structure Less (T S : St) : Prop where
  most : T.most = S.most
  wt : wtS T ≤ wtS S
  used : usedS T ≤ usedS S
theorem Less.refl (S : St) : Less S S := ⟨rfl, Nat.le_refl _, Nat.le_refl _⟩
theorem Less.trans {A B C : St} (h : Less A B) (k : Less B C) : Less A C := ⟨h.most.trans k.most, Nat.le_trans h.wt k.wt, Nat.le_trans h.used k.used⟩
theorem Less.put {S : St} (hn : (S.spots.map (·.1)).Nodup) {s : Spot} {x y : Sp} (hx : Al.get S.spots s = some x) (hw : y.wt ≤ x.wt) (hu : y.used ≤ x.used) (ws : List (Int × Spot)) : Less { S with spots := Al.put S.spots s y, waits := ws } S := by
  have h1 := wtS_put hn s y ws
  have h2 := usedS_put hn s y ws
  rw [spot_getD hx] at h1 h2
  exact ⟨rfl, by omega, by omega⟩

theorem Inv.lessWake {D : Spot → Prop} {S : St} (h : Inv D S) (s : Spot) : Less (wakeS S s).1 S := by
  cases hx : Al.get S.spots s with
  | none =>
    have : wakeS S s = (S, []) := by unfold wakeS; rw [hx]
    rw [this]
    exact Less.refl S
  | some x =>
    rw [wake_get hx]
    have hg := grantS_granted (h.each s x hx)
    by_cases he : (grantS x).1.holds = [] ∧ (grantS x).1.queue = []
    · simp only [if_pos he]
      exact ⟨rfl, Al.del_le _ _ _, Al.del_le _ _ _⟩
    · simp only [if_neg he]
      exact Less.put h.sn hx hg.wt hg.used _
theorem Inv.lessWoken : ∀ (l : List Spot) {D : Spot → Prop} {S : St}, Inv D S → Less (wokenS S l).1 S
  | [], _, S, _ => Less.refl S
  | s :: l, D, S, h => by
    rw [wokenS_cons]
    exact (Inv.lessWoken l (h.wake s)).trans (h.lessWake s)
theorem del_len (m : List Hold) (k : Int) : (Al.del m k).length ≤ m.length := List.length_filter_le _ _
theorem Inv.lessDrop {D : Spot → Prop} {S : St} (h : Inv D S) (who : Int) (s : Spot) : Less (dropS S who s) S := by
  unfold dropS
  cases hx : Al.get S.spots s with
  | none => exact Less.refl S
  | some x =>
    have := del_len x.holds who
    exact Less.put h.sn hx (by simp only [Sp.wt]; omega) (by simp only [Sp.used]; omega) S.waits
theorem Inv.lessLeaves {D : Spot → Prop} {S : St} (h : Inv D S) (who : Int) : Less (leavesS S who).1 S := by
  cases hs : Al.get S.waits who with
  | none => rw [leaves_none hs]; exact Less.refl S
  | some s =>
    obtain ⟨x, hx, hm⟩ := (h.wq who s).1 hs
    rw [leaves_some hs hx]
    have h1 := wo_le x.up who
    have h2 := wo_le x.rest who
    exact Less.put h.sn hx (by simp only [Sp.wt]; omega) (by simp only [Sp.used]; omega) _
theorem Inv.lessDrops {who : Int} : ∀ (l : List Spot) {D : Spot → Prop} {S : St}, Inv D S → Al.get S.waits who = none → Less (l.foldl (fun T s => dropS T who s) S) S
  | [], _, S, _, _ => Less.refl S
  | s :: l, D, S, h, hw => by
    rw [List.foldl_cons]
    exact (Inv.lessDrops l (h.drop hw s) (by rw [drop_waits]; exact hw)).trans (h.lessDrop who s)
theorem Inv.lessFree {D : Spot → Prop} {S : St} (h : Inv D S) (who : Int) (s : Spot) : Less (freeS S who s).1 S := by
  unfold freeS
  split
  · exact Less.refl S
  · rename_i hw
    split
    · exact Less.refl S
    · exact (Inv.lessWoken _ (h.drop (get_isSome_iff.2 hw) s)).trans (h.lessDrop who s)
theorem Inv.lessCancel {D : Spot → Prop} {S : St} (h : Inv D S) (who : Int) : Less (cancelS S who).1 S := by
  unfold cancelS
  split
  · exact Less.refl S
  · exact (Inv.lessWoken _ (h.leaves who).1).trans (h.lessLeaves who)
theorem Inv.lessLeave {D : Spot → Prop} {S : St} (h : Inv D S) (who : Int) : Less (leaveS S who).1 S := by
  unfold leaveS
  exact (Inv.lessWoken _ (Inv.drops _ (h.leaves who).1 (h.leaves who).2)).trans ((Inv.lessDrops _ (h.leaves who).1 (h.leaves who).2).trans (h.lessLeaves who))

theorem Inv.wishBound {D : Spot → Prop} {S : St} (h : Inv D S) (who : Int) (s : Spot) (h0 : heldS S who s = 0 → (usedS S : Int) < S.most) (hm : (usedS S : Int) ≤ S.most) (j : Int) :
    (wishS S who s j (heldS S who s != 0)).1.most = S.most ∧ wtS (wishS S who s j (heldS S who s != 0)).1 ≤ wtS S + 1 ∧ (usedS (wishS S who s j (heldS S who s != 0)).1 : Int) ≤ S.most := by
  have hheld := ((h.spot s).held (who := who)).1
  rw [← held_get] at hheld
  have hw := fun y ws => wtS_put h.sn s y ws
  have hu := fun y ws => usedS_put h.sn s y ws
  unfold wishS
  generalize (Al.get S.spots s).getD sp0 = x at *
  simp only
  have hl := Al.put_len x.holds who j
  split
  · refine ⟨rfl, ?_, ?_⟩ <;> dsimp only
    · have := hw { x with holds := Al.put x.holds who j } S.waits
      simp only [Sp.wt] at this
      split at hl <;> omega
    · have := hu { x with holds := Al.put x.holds who j } S.waits
      simp only [Sp.used] at this
      by_cases e : heldS S who s = 0
      · have := h0 e
        split at hl <;> omega
      · have hs : (Al.get x.holds who).isSome = true := by
          cases hg : Al.get x.holds who with
          | none => exact absurd (hheld.2 hg) e
          | some _ => rfl
        rw [if_pos hs] at hl
        omega
  · split
    · refine ⟨rfl, ?_, ?_⟩ <;> dsimp only
      · have := hw { x with up := x.up ++ [(who, j)] } (Al.put S.waits who s)
        simp only [Sp.wt, List.length_append, List.length_singleton] at this
        omega
      · have := hu { x with up := x.up ++ [(who, j)] } (Al.put S.waits who s)
        simp only [Sp.used] at this
        omega
    · rename_i e
      simp only [bne_iff_ne, ne_eq, Decidable.not_not] at e
      have := h0 e
      refine ⟨rfl, ?_, ?_⟩ <;> dsimp only
      · have := hw { x with rest := x.rest ++ [(who, j)] } (Al.put S.waits who s)
        simp only [Sp.wt, List.length_append, List.length_singleton] at this
        omega
      · have := hu { x with rest := x.rest ++ [(who, j)] } (Al.put S.waits who s)
        simp only [Sp.used, List.length_append, List.length_singleton] at this
        omega
theorem Inv.askBound {D : Spot → Prop} {S : St} (h : Inv D S) (who : Int) (s : Spot) (m : Int) (hm : (usedS S : Int) ≤ S.most) :
    (askS S who s m).1.most = S.most ∧ wtS (askS S who s m).1 ≤ wtS S + 1 ∧ (usedS (askS S who s m).1 : Int) ≤ S.most := by
  have h0 : S.most = S.most ∧ wtS S ≤ wtS S + 1 ∧ (usedS S : Int) ≤ S.most := ⟨rfl, by omega, hm⟩
  unfold askS
  split
  · exact h0
  · split
    · exact h0
    · split
      · exact h0
      · split
        · exact h0
        · rename_i e
          exact h.wishBound who s (fun e0 => by
            have := not_and.1 e e0
            omega) hm _

/-- what holds at all times -/
structure Good (S : St) (k : Nat) : Prop where
  inv : Inv (fun _ => False) S
  wt : wtS S ≤ k
  used : (usedS S : Int) ≤ S.most
theorem Good.new {most : Int} (h : 0 ≤ most) : Good ⟨most, [], []⟩ 0 := ⟨Inv.new most, by simp [wtS], by simp [usedS, h]⟩
theorem Good.ask {S : St} {k : Nat} (h : Good S k) (who : Int) (s : Spot) (m : Int) : Good (askS S who s m).1 (k + 1) := by
  obtain ⟨h1, h2, h3⟩ := h.inv.askBound who s m h.used
  exact ⟨h.inv.ask who s m, by have := h.wt; omega, by rw [h1]; exact h3⟩
theorem Good.less {S T : St} {k : Nat} (h : Good S k) (hl : Less T S) (hi : Inv (fun _ => False) T) : Good T k :=
  ⟨hi, Nat.le_trans hl.wt h.wt, by rw [hl.most]; have := hl.used; have := h.used; omega⟩
theorem Good.more {S : St} {k k' : Nat} (h : Good S k) (hk : k ≤ k') : Good S k' := ⟨h.inv, Nat.le_trans h.wt hk, h.used⟩
theorem Good.free {S : St} {k : Nat} (h : Good S k) (who : Int) (s : Spot) : Good (freeS S who s).1 k := h.less (h.inv.lessFree who s) (h.inv.free who s)
theorem Good.cancel {S : St} {k : Nat} (h : Good S k) (who : Int) : Good (cancelS S who).1 k := h.less (h.inv.lessCancel who) (h.inv.cancel who)
theorem Good.leave {S : St} {k : Nat} (h : Good S k) (who : Int) : Good (leaveS S who).1 k := h.less (h.inv.lessLeave who) (h.inv.leave who)
end Go.Proofs.Ytmolmeamnmefeaa
