/- What may turn; may; New; leaves. -/
import Derived.Test.YtmolmeamnmefeaaLock12
namespace Go.Proofs.Ytmolmeamnmefeaa
open Go.RowKit Go.Shelf Go.Proofs Go.Sort

/-- of what was there only the blocks of fp may have turned -/
structure Turn (fp : Nat → Prop) (w w' : World) : Prop where
  os : w'.os = w.os
  tape : w'.tape = w.tape
  output : w'.output = w.output
  size : w.heap.size ≤ w'.heap.size
  block : ∀ b, b < w.heap.size → ¬ fp b → w'.heap[b]? = w.heap[b]?

variable {fp : Nat → Prop} {w w' w'' : World}
theorem Turn.refl (fp : Nat → Prop) (w : World) : Turn fp w w := ⟨rfl, rfl, rfl, Nat.le_refl _, fun _ _ _ => rfl⟩
theorem Turn.trans (h : Turn fp w w') (k : Turn fp w' w'') : Turn fp w w'' :=
  ⟨k.os.trans h.os, k.tape.trans h.tape, k.output.trans h.output, Nat.le_trans h.size k.size, fun b hb hn => (k.block b (Nat.lt_of_lt_of_le hb h.size) hn).trans (h.block b hb hn)⟩
theorem Turn.mono (h : Turn fp w w') {fp' : Nat → Prop} (hs : ∀ b, b < w.heap.size → fp b → fp' b) : Turn fp' w w' := ⟨h.os, h.tape, h.output, h.size, fun b hb hn => h.block b hb (fun h' => hn (hs b hb h'))⟩
theorem Turn.of_below (h : Below w.heap.size w w') : Turn fp w w' := ⟨h.os, h.tape, h.output, h.size, fun b hb _ => h.block b hb⟩
theorem Turn.of_grown {row : Option Nat} (h : w.grownBy w' row) (hr : ∀ b, row = some b → fp b) : Turn fp w w' := ⟨h.os, h.tape, h.output, h.size, fun b hb hn => h.block b hb (fun e => hn (hr b e.symm))⟩
theorem Turn.alloc (h : Turn fp w w') (o : Obj) : Turn fp w (w'.alloc o) := h.trans (.of_below (below_box _))
theorem Turn.drew (h : Turn fp w w') : Turn fp w w'.drew := ⟨h.os, h.tape, h.output, h.size, h.block⟩
theorem Turn.setCell (h : Turn fp w w') {a : Addr} (ha : fp a.block ∨ w.heap.size ≤ a.block) (u : Value) : Turn fp w (w'.setCell a u) :=
  ⟨h.os, h.tape, h.output, by show w.heap.size ≤ (w'.heap.modify _ _).size; rw [Array.size_modify]; exact h.size, fun b hb hn => (Below.heap_setCell _ _ _ _ (fun e => by subst e; rcases ha with ha | ha; exact hn ha; omega)).trans (h.block b hb hn)⟩
theorem Turn.cell (h : Turn fp w w') {p : Addr} (hp : p.block < w.heap.size) (hn : ¬ fp p.block) : w'.cell? p = w.cell? p := World.cell?_of_block (w := w) (h.block p.block hp hn)
theorem Turn.frozen (h : Turn fp w w') {p : Addr} (hp : p.block < w.heap.size) (hn : ¬ fp p.block) : w'.frozen? p = w.frozen? p := World.frozen?_of_block (w := w) (h.block p.block hp hn)
/-- Nothing below B was of fp, and what is new does not count -/
theorem Turn.below (h : Turn fp w w') {B : Nat} (hB : B ≤ w.heap.size) (hn : ∀ b, b < B → ¬ fp b) : Below B w w' := ⟨h.os, h.tape, h.output, h.size, fun b hb => h.block b (by omega) (hn b hb)⟩
theorem Turn.ofBelow {B : Nat} (h : Below B w w') : Turn (fun b => B ≤ b) w w' := ⟨h.os, h.tape, h.output, h.size, fun b _ hn => h.block b (by omega)⟩

/-! ### may -/
def mayS (s : Spot) (m : Int) : Bool := decide (m ≤ 5) && m != 0 && decide (0 ≤ s.1) && (s.2.1 || s.2.2 == 0)

set_option maxHeartbeats 1600000 in
theorem may_any (s : Spot) (m : Int) (w : World) :
    Calls Try.prog 26 #[.agg #[.int .i64 s.1, .bool s.2.1, .int .i64 s.2.2], .int .u8 m] w fun e w' => e = .returned (.bool (mayS s m)) ∧ Below w.heap.size w w' := by
  have hbx := below_box (w := w) (.cells #[.int .i64 s.1, .bool s.2.1, .int .i64 s.2.2] 26)
  obtain ⟨a, b, c⟩ := s
  unfold mayS
  simp only at hbx ⊢
  by_cases h1 : m ≤ 5
  · have d1 : decide (m ≤ 5) = true := by simpa using h1
    rw [d1]
    cases d2 : m != 0
    · go_enter Try.func26, Try.ntmps26
      go_wp2_with (go_at_call 47; refine (known_any _ _).mono ?_; rintro e w' ⟨rfl, rfl⟩; rw [d1])
      go_ret
      exact ⟨by simp, hbx⟩
    · by_cases h3 : 0 ≤ a
      · have d3 : decide (0 ≤ a) = true := by simpa using h3
        rw [d3]
        cases b
        · cases d4 : c == 0
          · go_enter Try.func26, Try.ntmps26
            go_wp2_with (go_at_call 47; refine (known_any _ _).mono ?_; rintro e w' ⟨rfl, rfl⟩; rw [d1])
            go_ret
            exact ⟨by simp, hbx⟩
          · go_enter Try.func26, Try.ntmps26
            go_wp2_with (go_at_call 47; refine (known_any _ _).mono ?_; rintro e w' ⟨rfl, rfl⟩; rw [d1])
            go_ret
            exact ⟨by simp, hbx⟩
        · go_enter Try.func26, Try.ntmps26
          go_wp2_with (go_at_call 47; refine (known_any _ _).mono ?_; rintro e w' ⟨rfl, rfl⟩; rw [d1])
          go_ret
          exact ⟨by simp, hbx⟩
      · have d3 : decide (0 ≤ a) = false := by simpa using h3
        rw [d3]
        go_enter Try.func26, Try.ntmps26
        go_wp2_with (go_at_call 47; refine (known_any _ _).mono ?_; rintro e w' ⟨rfl, rfl⟩; rw [d1])
        go_ret
        exact ⟨by simp, hbx⟩
  · have d1 : decide (m ≤ 5) = false := by simpa using h1
    rw [d1]
    go_enter Try.func26, Try.ntmps26
    go_wp2_with (go_at_call 47; refine (known_any _ _).mono ?_; rintro e w' ⟨rfl, rfl⟩; rw [d1])
    go_ret
    exact ⟨by simp, hbx⟩

/-! ### New -/
set_option maxHeartbeats 1600000 in
theorem new_any (most : Int) (hm : i64 most) (w : World) :
    Calls Try.prog 8 #[.int .i64 most] w fun e w' => ∃ C : CLocks, e = .returned (.pointer (some ⟨C.lb, 0, none⟩)) ∧ LocksOk w' C ∧ C.abs = ⟨max 0 most, [], []⟩ ∧ (∀ b, C.fp b → w.heap.size ≤ b) ∧ Below w.heap.size w w' := by
  have hb := hm.bounds
  have e : (if (0 : Int) < most then most else 0) = max 0 most := by omega
  have E := Lib.hid e
  clear e
  have m1 : (Instr.makeMap 59 none).run Try.prog w = .ok (.map (some w.heap.size)) (w.alloc (.map #[] 0)) := by kernel_rfl
  have m2 : (Instr.makeMap 60 none).run Try.prog (w.alloc (.map #[] 0)) = .ok (.map (some (w.heap.size + 1))) ((w.alloc (.map #[] 0)).alloc (.map #[] 0)) := by
    have h : (Instr.makeMap 60 none).run Try.prog (w.alloc (.map #[] 0)) = .ok (.map (some (w.alloc (.map #[] 0)).heap.size)) ((w.alloc (.map #[] 0)).alloc (.map #[] 0)) := by kernel_rfl
    rwa [World.size_alloc] at h
  go_enter Try.func8, Try.ntmps8
  go_wp2_with fail
  go_ret
  have n0 := MapAt.made mtSpots w
  have n1 := MapAt.made mtWaits (w.alloc (.map #[] 0))
  have n2 := heap_alloc_new ((w.alloc (.map #[] 0)).alloc (.map #[] 0)) (.cells #[.int .i64 (max 0 most), .map (some w.heap.size), .map (some (w.heap.size + 1))] 62)
  simp only [World.size_alloc] at n1 n2
  refine ⟨⟨w.heap.size + 1 + 1, w.heap.size, w.heap.size + 1, max 0 most, [], []⟩, rfl, ?_, rfl, ?_, ?_⟩
  · refine ⟨n2, (n0.of_block (heap_alloc_old _ _ (by simp))).of_block (heap_alloc_old _ _ (by simp; omega)), n1.of_block (heap_alloc_old _ _ (by simp)), by simp, by simp, by simp, by simp, by show 0 ≤ max 0 most ∧ max 0 most ≤ _; omega, by simp⟩
  · rintro b (rfl | rfl | rfl | ⟨x, hx, _⟩)
    · simp; omega
    · simp
    · simp
    · simp at hx
  · exact ((((Below.refl _ w).alloc (Nat.le_refl _) _).alloc (by simp) _).alloc (by simp; omega) _)
end Go.Proofs.Ytmolmeamnmefeaa
