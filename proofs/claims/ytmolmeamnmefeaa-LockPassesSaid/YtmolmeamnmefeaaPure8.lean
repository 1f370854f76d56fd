/- Sorting by insertion, to reckon with; the chapter's example. -/
import Derived.Test.YtmolmeamnmefeaaPure7
import Derived.Test.YtmolmeamnmefeaaLock12
namespace Go.Proofs.Ytmolmeamnmefeaa
open Go.RowKit

section
variable {α : Type}
def insB (le : α → α → Bool) (x : α) : List α → List α
  | [] => [x]
  | y :: l => if le x y then x :: y :: l else y :: insB le x l
def isortB (le : α → α → Bool) : List α → List α
  | [] => []
  | x :: l => insB le x (isortB le l)
theorem insB_perm (le : α → α → Bool) (x : α) : ∀ l, (insB le x l).Perm (x :: l)
  | [] => List.Perm.refl _
  | y :: l => by
    unfold insB
    split
    · exact List.Perm.refl _
    · exact (List.Perm.cons y (insB_perm le x l)).trans (List.Perm.swap x y l)
theorem isortB_perm (le : α → α → Bool) : ∀ l, (isortB le l).Perm l
  | [] => List.Perm.refl _
  | x :: l => (insB_perm le x _).trans (List.Perm.cons x (isortB_perm le l))
theorem insB_sorted (le : α → α → Bool) (ht : ∀ a b, le a b = true ∨ le b a = true) (hr : ∀ a b c, le a b = true → le b c = true → le a c = true) (x : α) : ∀ l, l.Pairwise (fun a b => le a b = true) → (insB le x l).Pairwise (fun a b => le a b = true)
  | [], _ => by simp [insB]
  | y :: l, h => by
    have h' := List.pairwise_cons.1 h
    unfold insB
    split
    · rename_i hxy
      refine List.pairwise_cons.2 ⟨fun z hz => ?_, h⟩
      rcases List.mem_cons.1 hz with rfl | hz
      · exact hxy
      · exact hr _ _ _ hxy (h'.1 z hz)
    · rename_i hxy
      refine List.pairwise_cons.2 ⟨fun z hz => ?_, insB_sorted le ht hr x l h'.2⟩
      rcases List.mem_cons.1 ((insB_perm le x l).mem_iff.1 hz) with rfl | hz
      · rcases ht z y with h1 | h1
        · exact absurd h1 hxy
        · exact h1
      · exact h'.1 z hz
theorem isortB_sorted (le : α → α → Bool) (ht : ∀ a b, le a b = true ∨ le b a = true) (hr : ∀ a b c, le a b = true → le b c = true → le a c = true) : ∀ l, (isortB le l).Pairwise (fun a b => le a b = true)
  | [] => by simp [isortB]
  | x :: l => insB_sorted le ht hr x _ (isortB_sorted le ht hr l)
end
def iI (L : List Int) : List Int := isortB (fun a b => decide (a ≤ b)) L
theorem sortI_i (L : List Int) : sortI L = iI L := by
  have hs := isortB_sorted (fun a b : Int => decide (a ≤ b)) (fun a b => by simp; omega) (fun a b c h1 h2 => by simp at *; omega) L
  refine List.Perm.eq_of_pairwise (le := fun x y => x ≤ y) (fun x y _ _ h1 h2 => by omega) (sortI_sorted L) (by simp only [decide_eq_true_eq] at hs; exact hs) ((sortI_perm L).trans (isortB_perm _ L).symm)
def iS (L : List Spot) : List Spot := isortB (fun a b => !spotLt b a) L
theorem sortS_i (L : List Spot) : sortS L = iS L := by
  have hs := isortB_sorted (fun a b : Spot => !spotLt b a) (fun a b => by
    cases h1 : spotLt b a with
    | false => simp
    | true =>
      right
      cases h2 : spotLt a b with
      | false => simp
      | true => exact absurd (spotLt_swo.trans _ _ _ h1 h2) (by rw [spotLt_swo.irrefl]; simp)) (fun a b c h1 h2 => by
    simp only [Bool.not_eq_true'] at *
    exact spotLt_swo.ntrans _ _ _ h2 h1) L
  refine List.Perm.eq_of_pairwise (le := fun x y => (!spotLt y x) = true) (fun x y _ _ h1 h2 => ?_) (sortS_sorted L) hs ((sortS_perm L).trans (isortB_perm _ L).symm)
  simp at h1 h2
  exact spotLt_total h2 h1

def holdersI (S : St) (s : Spot) : List Hold := match Al.get S.spots s with | none => [] | some c => (iI (c.holds.map (·.1))).map (fun x => (x, (Al.get c.holds x).getD 0))
theorem holders_i (S : St) (s : Spot) : holdersS S s = holdersI S s := by
  unfold holdersS holdersI holdersOf
  cases Al.get S.spots s with
  | none => rfl
  | some c => simp only [sortI_i]
def forI (S : St) (who : Int) : List Int := match waitsS S who with
  | none => []
  | some (s, m) => dedupI (iI (((holdersI S s).filter (fun h => decide (h.1 ≠ who) && !Md.bes (Md.n m) (Md.n h.2))).map (·.1) ++ ((queueS S s).takeWhile (fun h => decide (h.1 ≠ who))).map (·.1)))
theorem for_i (S : St) (who : Int) : forS S who = forI S who := by
  unfold forS forI forRaw
  cases waitsS S who with
  | none => rfl
  | some p => simp only [sortI_i, holders_i]
def spotsI (S : St) (who : Int) : List Spot := iS ((S.spots.filter (fun x => (Al.get x.2.holds who).isSome)).map (·.1))
theorem spots_i (S : St) (who : Int) : spotsS S who = spotsI S who := by
  unfold spotsS spotsI
  rw [sortS_i]
def leaveI (S : St) (who : Int) : St × List Int :=
  wokenS ((spotsI S who ++ (leavesS S who).2.toList).foldl (fun T s => dropS T who s) (leavesS S who).1) (onceS (iS (spotsI S who ++ (leavesS S who).2.toList)))
theorem leave_i (S : St) (who : Int) : leaveS S who = leaveI S who := by
  unfold leaveS leaveI allS
  rw [spots_i, sortS_i]

/-! ### the chapter's example -/
def exW (k : Nat) : St := match k with
  | 0 => ⟨9, [], []⟩
  | 1 => (askS ⟨9, [], []⟩ 1 (0, true, 3) 3).1
  | 2 => (askS (askS ⟨9, [], []⟩ 1 (0, true, 3) 3).1 2 (0, true, 3) 3).1
  | 3 => (askS (askS (askS ⟨9, [], []⟩ 1 (0, true, 3) 3).1 2 (0, true, 3) 3).1 3 (0, true, 3) 5).1
  | 4 => (askS (askS (askS (askS ⟨9, [], []⟩ 1 (0, true, 3) 3).1 2 (0, true, 3) 3).1 3 (0, true, 3) 5).1 4 (0, true, 3) 3).1
  | _ => (askS (askS (askS (askS (askS ⟨9, [], []⟩ 1 (0, true, 3) 3).1 2 (0, true, 3) 3).1 3 (0, true, 3) 5).1 4 (0, true, 3) 3).1 1 (0, true, 3) 5).1
theorem ex_ask : (askS (exW 0) 1 (0, true, 3) 3).2 = (true, 0) ∧ (askS (exW 1) 2 (0, true, 3) 3).2 = (true, 0) ∧ (askS (exW 2) 3 (0, true, 3) 5).2 = (false, 0) ∧ (askS (exW 3) 4 (0, true, 3) 3).2 = (false, 0) ∧ (askS (exW 4) 1 (0, true, 3) 5).2 = (false, 0) := by decide +kernel
theorem ex_for : forI (exW 5) 1 = [2] ∧ forI (exW 5) 3 = [1, 2] ∧ forI (exW 5) 4 = [1, 3] := by decide +kernel
theorem ex_leave : (leaveI (exW 5) 2).2 = [1] ∧ heldS (leaveI (exW 5) 2).1 1 (0, true, 3) = 5 ∧ usedS (leaveI (exW 5) 2).1 = 3 := by decide +kernel
end Go.Proofs.Ytmolmeamnmefeaa
