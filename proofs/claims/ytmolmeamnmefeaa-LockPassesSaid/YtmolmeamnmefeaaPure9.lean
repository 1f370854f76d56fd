/- Who passes whom: reckoned. -/
import Derived.Test.YtmolmeamnmefeaaPure8
namespace Go.Proofs.Ytmolmeamnmefeaa
open Go.RowKit

def spP : Spot := (3, false, 0)
def mdP (sh : Bool) : Int := if sh then 3 else 1
def paA (sh : Bool) : St := (askS ⟨100, [], []⟩ 1 spP (mdP sh)).1
def paB (be sh : Bool) : St := if be then (askS (paA sh) 2 spP (mdP sh)).1 else paA sh
def paI (be sh : Bool) : Nat → St
  | 0 => paB be sh
  | i + 1 => (askS (paI be sh i) (10 + (i : Int)) spP 5).1
def paQ (be sh : Bool) (k : Nat) : St := (askS (paI be sh k) 1 spP 5).1
def paR (be sh : Bool) (k : Nat) : St := if be then (leaveI (paQ be sh k) 2).1 else paQ be sh k
def lastP (i : Nat) : Int := if i = 0 then 1 else 9 + (i : Int)
def lvP (T : St) (i : Nat) : St := (leaveI T (lastP i)).1
def itP (T : St) (i : Nat) : Nat → St
  | 0 => T
  | j + 1 => itP (lvP T i) (i + 1) j
def condP (T : St) (i : Nat) : Bool := decide ((leaveI T (lastP i)).2 = [10 + (i : Int)]) && decide (heldS (lvP T i) (10 + (i : Int)) spP = 5)
def chkP (T : St) (i : Nat) : Nat → Bool
  | 0 => true
  | n + 1 => condP T i && chkP (lvP T i) (i + 1) n
theorem itP_succ : ∀ (j : Nat) (T : St) (i : Nat), itP T i (j + 1) = lvP (itP T i j) (i + j)
  | 0, _, _ => rfl
  | j + 1, T, i => by
    show itP (lvP T i) (i + 1) (j + 1) = _
    rw [itP_succ j (lvP T i) (i + 1)]
    show lvP (itP (lvP T i) (i + 1) j) _ = lvP (itP (lvP T i) (i + 1) j) _
    congr 1
    omega
theorem chkP_at : ∀ (n : Nat) (T : St) (i : Nat), chkP T i n = true → ∀ j, j < n → condP (itP T i j) (i + j) = true
  | 0, _, _, _, j, hj => by omega
  | n + 1, T, i, h, j, hj => by
    unfold chkP at h
    simp only [Bool.and_eq_true] at h
    cases j with
    | zero => exact h.1
    | succ j =>
      have := chkP_at n (lvP T i) (i + 1) h.2 j (by omega)
      rw [show i + (j + 1) = i + 1 + j from by omega]
      exact this
/-- the state with the asks done one by one, checked -/
def chkA (T : St) (i : Nat) : Nat → Bool
  | 0 => true
  | n + 1 => decide ((askS T (10 + (i : Int)) spP 5).2 = (false, 0)) && chkA (askS T (10 + (i : Int)) spP 5).1 (i + 1) n
theorem chkA_at (be sh : Bool) : ∀ (n i : Nat), chkA (paI be sh i) i n = true → ∀ j, i ≤ j → j < i + n → (askS (paI be sh j) (10 + (j : Int)) spP 5).2 = (false, 0)
  | 0, i, _, j, h1, h2 => by omega
  | n + 1, i, h, j, h1, h2 => by
    unfold chkA at h
    simp only [Bool.and_eq_true, decide_eq_true_eq] at h
    by_cases e : j = i
    · rw [e]
      exact h.1
    · exact chkA_at be sh n (i + 1) h.2 j (by omega) (by omega)

theorem pa_one : ∀ sh : Bool, (askS ⟨100, [], []⟩ 1 spP (mdP sh)).2 = (true, 0) ∧ (askS (paA sh) 2 spP (mdP sh)).2 = (true, 0) := by decide +kernel
theorem pa_asks : ∀ be sh : Bool, chkA (paI be sh 0) 0 20 = true := by decide +kernel
/-- what is asked of the state when all wait -/
def midP (be sh : Bool) (k : Nat) : Bool :=
  decide ((askS (paI be sh k) 1 spP 5).2 = (!be, 0)) && (!be || (decide ((queueS (paQ be sh k) spP).length = k + 1) && decide (((queueS (paQ be sh k) spP).head?).map (·.1) = some 1) && decide ((leaveI (paQ be sh k) 2).2 = [1])))
    && decide (heldS (paR be sh k) 1 spP = 5) && decide ((queueS (paR be sh k) spP).length = k) && chkP (paR be sh k) 0 k
theorem pa_mid : ∀ be sh : Bool, ∀ k : Fin 20, midP be sh (k.val + 1) = true := by decide +kernel
end Go.Proofs.Ytmolmeamnmefeaa
