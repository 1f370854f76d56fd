/- The memory of a table of locks: its maps' types, spots, rows of holds; what it holds in blocks. -/
import Derived.Test.YtmolmeamnmefeaaMode
import Derived.Maps.AppendAt
import Derived.OwnWalkIn
import Derived.DeepKeys4
import Derived.OpenShut
namespace Go.Proofs.Ytmolmeamnmefeaa
open Go.RowKit
open Go.Maps (Keyed)

abbrev Spot := Int × Bool × Int
abbrev Hold := Int × Int
def spotV (s : Spot) : Value := .agg #[.int .i64 s.1, .bool s.2.1, .int .i64 s.2.2]
def i64 (n : Int) : Prop := (Lit.int .i64 n).wf = true
def u8 (n : Int) : Prop := (Lit.int .u8 n).wf = true
def spotOk (s : Spot) : Prop := i64 s.1 ∧ i64 s.2.2
theorem i64.bounds {n : Int} (h : i64 n) : -9223372036854775808 ≤ n ∧ n ≤ 9223372036854775807 := bounds_i64 h
theorem u8.bounds {n : Int} (h : u8 n) : 0 ≤ n ∧ n ≤ 255 := bounds_u8 h
theorem i64.mk {n : Int} (h : -9223372036854775808 ≤ n ∧ n ≤ 9223372036854775807) : i64 n := WalkArith.wf_i64 h
theorem u8.mk {n : Int} (h : 0 ≤ n ∧ n ≤ 255) : u8 n := WalkArith.wf_u8 h

theorem laidOut : laidOutB Try.prog = true := by kernel_rfl
theorem keyedInt64 : Keyed Try.prog 2 := Maps.int_keyed Try.underlying2
theorem keyedSpot : Keyed Try.prog 26 := Keyed.of_law (deep_law_laid laidOut (m := 2) (by omega) (of_decide_eq_true (by kernel_rfl)) (by kernel_rfl) (by rw [Try.underlying26]))
theorem zeroMode (w : World) : (zeroValue 22).run Try.prog w = .ok (.int .u8 0) w := by kernel_rfl
theorem zeroSpotPtr (w : World) : (zeroValue 65).run Try.prog w = .ok (.pointer none) w := by kernel_rfl
theorem zeroSpot (w : World) : (zeroValue 26).run Try.prog w = .ok (spotV (0, false, 0)) w := by kernel_rfl

theorem keyLits_spot (s : Spot) (h : spotOk s) (d : Nat) : Try.prog.keyLits (d + 2) 26 [.int .i64 s.1, .bool s.2.1, .int .i64 s.2.2] = some [.int .i64 s.1, .bool s.2.1, .int .i64 s.2.2] := by
  have hc : Try.prog.cellsOf 26 = 3 := by kernel_rfl
  have c3 : Try.prog.cellsOf 3 = 1 := by kernel_rfl
  have c4 : Try.prog.cellsOf 4 = 1 := by kernel_rfl
  have c2 : Try.prog.cellsOf 2 = 1 := by kernel_rfl
  have h1 : (Lit.int .i64 s.1).wf = true := h.1
  have h2 : (Lit.int .i64 s.2.2).wf = true := h.2
  simp [Program.keyLits, Try.underlying26, Try.underlying3, Try.underlying4, Try.underlying2, hc, c3, c4, c2, h1, h2]

theorem spot_key (s : Spot) (h : spotOk s) : ∃ l, keyOf Try.prog 26 (spotV s) = some l := by
  have hk : Try.prog.keyType 26 = true := by kernel_rfl
  have hs : ∃ d, Try.prog.types.size + 1 = d + 2 := ⟨Try.prog.types.size - 1, by have : 0 < Try.prog.types.size := of_decide_eq_true (by kernel_rfl); omega⟩
  have hc : Try.prog.cellsOf 26 = 3 := by kernel_rfl
  obtain ⟨d, hd⟩ := hs
  have hl := keyLits_spot s h d
  rw [← hd] at hl
  have hf : (spotV s).formed Try.prog 26 = true := by simp [spotV, Value.formed, Try.underlying26, hc]
  unfold keyOf
  rw [Try.underlying26]
  simp only [hk, hf, Bool.and_self, if_true]
  have : (spotV s).cells.toList = [.int .i64 s.1, .bool s.2.1, .int .i64 s.2.2] := rfl
  rw [this, hl]
  exact ⟨_, rfl⟩

theorem spotV_inj (x y : Spot) (h : spotV x = spotV y) : x = y := by
  obtain ⟨a, b, c⟩ := x
  obtain ⟨a', b', c'⟩ := y
  simp [spotV] at h
  obtain ⟨rfl, rfl, rfl⟩ := h
  rfl

/-- who holds a spot -/
def mtHolds : MT Try.prog 66 Int Int where
  k := 2
  e := 22
  K := keyedInt64
  ht := Try.underlying66
  encK := Value.int .i64
  ok := i64
  hkey := fun _ h => ⟨_, Maps.keyOf_int_mk Try.underlying2 h⟩
  inj := fun _ _ h => by cases h; rfl
  encV := Value.int .u8
  zv := .int .u8 0
  hz := zeroMode
/-- what one waits for -/
def mtWaits : MT Try.prog 60 Int Spot where
  k := 2
  e := 26
  K := keyedInt64
  ht := Try.underlying60
  encK := Value.int .i64
  ok := i64
  hkey := fun _ h => ⟨_, Maps.keyOf_int_mk Try.underlying2 h⟩
  inj := fun _ _ h => by cases h; rfl
  encV := spotV
  zv := spotV (0, false, 0)
  hz := zeroSpot

/-- A spot's memory: its block, its map of holds, its two rows; and what they hold. -/
structure CSpot where
  p : Nat
  hb : Nat
  vu : Value
  vr : Value
  holds : List Hold
  up : List Hold
  rest : List Hold

def mtSpots : MT Try.prog 59 Spot CSpot where
  k := 26
  e := 65
  K := keyedSpot
  ht := Try.underlying59
  encK := spotV
  ok := spotOk
  hkey := spot_key
  inj := spotV_inj
  encV := fun c => .pointer (some ⟨c.p, 0, none⟩)
  zv := .pointer none
  hz := zeroSpotPtr

/-! ### the step of a range, with what comes written out -/
section
variable (w : World) {ops : Array Oper} {rest : List Oper} {o : Oper} {a : Act} {Q : Exit → Act → World → Prop}
theorem wpList_next_holds (hg : o.guard = none) (it : Operand) (hop : o.op = Op.next it false) (b r : Nat) (m left : List Hold) (hit : a.eval it = .pointer (some ⟨r, 0, none⟩)) (h : RangeAt mtHolds w b r m left)
    (hDone : left = [] → wpList Try.prog ops Q rest (a.put o.dst (.tuple #[.bool false])) w)
    (hMore : ∀ (p : Hold) w', p ∈ left → RangeAt mtHolds w' b r m (Al.del left p.1) → (Al.del left p.1).length < left.length → w.grownBy w' (some r) → w'.heap.size = w.heap.size →
      (Instr.entry (.pointer (some ⟨r, 0, none⟩))).run Try.prog w' = .ok (.tuple #[.int .i64 p.1, .int .u8 p.2]) w' → wpList Try.prog ops Q rest (a.put o.dst (.tuple #[.bool true, .int .i64 p.1, .int .u8 p.2])) w') : wpList Try.prog ops Q (o :: rest) a w :=
  wpList_next_at mtHolds w hg it hop b r m left hit h hDone hMore
theorem wpList_next_spots (hg : o.guard = none) (it : Operand) (hop : o.op = Op.next it false) (b r : Nat) (m left : List (Spot × CSpot)) (hit : a.eval it = .pointer (some ⟨r, 0, none⟩)) (h : RangeAt mtSpots w b r m left)
    (hDone : left = [] → wpList Try.prog ops Q rest (a.put o.dst (.tuple #[.bool false])) w)
    (hMore : ∀ (p : Spot × CSpot) w', p ∈ left → RangeAt mtSpots w' b r m (Al.del left p.1) → (Al.del left p.1).length < left.length → w.grownBy w' (some r) → w'.heap.size = w.heap.size →
      (Instr.entry (.pointer (some ⟨r, 0, none⟩))).run Try.prog w' = .ok (.tuple #[.agg #[.int .i64 p.1.1, .bool p.1.2.1, .int .i64 p.1.2.2], .pointer (some ⟨p.2.p, 0, none⟩)]) w' → wpList Try.prog ops Q rest (a.put o.dst (.tuple #[.bool true, .agg #[.int .i64 p.1.1, .bool p.1.2.1, .int .i64 p.1.2.2], .pointer (some ⟨p.2.p, 0, none⟩)])) w') : wpList Try.prog ops Q (o :: rest) a w :=
  wpList_next_at mtSpots w hg it hop b r m left hit h hDone hMore
end
end Go.Proofs.Ytmolmeamnmefeaa
