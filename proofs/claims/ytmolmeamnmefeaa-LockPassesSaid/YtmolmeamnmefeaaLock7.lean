/- The order of spots. -/
import Derived.Test.YtmolmeamnmefeaaLock6
import Derived.Deep.RegionHeld3
import Derived.IntWalk
namespace Go.Proofs.Ytmolmeamnmefeaa
open Go.RowKit Go.Shelf Go.Proofs Go.Sort

def rowI (s : Spot) : Int := if s.2.1 then 1 else 0
def orI (x y z : Int) : Int := if x ≠ 0 then x else if y ≠ 0 then y else z
def spotCmp (a b : Spot) : Int := orI (Lib.compareInt a.1 b.1) (rowI a - rowI b) (Lib.compareInt a.2.2 b.2.2)

theorem rowI_any (s : Spot) (w : World) :
    Calls Try.prog 54 #[.agg #[.int .i64 s.1, .bool s.2.1, .int .i64 s.2.2]] w fun e w' => e = .returned (.int .i64 (rowI s)) ∧ w' = w.alloc (.cells #[.int .i64 s.1, .bool s.2.1, .int .i64 s.2.2] 26) := by
  obtain ⟨a, b, c⟩ := s
  cases b
  · go_enter Try.func54, Try.ntmps54
    go_wp2
    go_ret
    exact ⟨rfl, rfl⟩
  · go_enter Try.func54, Try.ntmps54
    go_wp2
    go_ret
    exact ⟨rfl, rfl⟩

theorem or_any (k : Nat) (x y z : Int) (w : World) (hx : w.cell? ⟨k, 0, none⟩ = some (.int .i64 x)) (hy : w.cell? ⟨k, 1, none⟩ = some (.int .i64 y)) (hz : w.cell? ⟨k, 2, none⟩ = some (.int .i64 z)) :
    Calls Try.prog 55 #[.slice (some ⟨k, 0, none⟩) 3 3] w fun e w' => e = .returned (.int .i64 (orI x y z)) ∧ w' = w := by
  by_cases h1 : x = 0
  · subst h1
    by_cases h2 : y = 0
    · subst h2
      have hb : ((0 : Int) != 0) = false := by decide
      by_cases h3 : z = 0
      · subst h3
        go_enter Try.func55, Try.ntmps55
        go_wp2_with fail
        refine wp_loop_rounds 4 ?_
        rw [rounds_succ]
        go_wp2
        rw [rounds_succ]
        go_wp2
        rw [rounds_succ]
        go_wp2
        rw [rounds_succ]
        go_wp2
        go_ret
        exact ⟨rfl, rfl⟩
      · have hb3 : (z != 0) = true := by simpa using h3
        have E := Lib.hid (show orI 0 0 z = z by simp [orI])
        clear h3
        go_enter Try.func55, Try.ntmps55
        go_wp2_with fail
        refine wp_loop_rounds 3 ?_
        rw [rounds_succ]
        go_wp2
        rw [rounds_succ]
        go_wp2
        rw [rounds_succ]
        go_wp2
        go_ret
        exact ⟨ret_int E.out.symm, rfl⟩
    · have hb : (y != 0) = true := by simpa using h2
      have E := Lib.hid (show orI 0 y z = y by simp [orI, h2])
      clear h2
      go_enter Try.func55, Try.ntmps55
      go_wp2_with fail
      refine wp_loop_rounds 2 ?_
      rw [rounds_succ]
      go_wp2
      rw [rounds_succ]
      go_wp2
      go_ret
      exact ⟨ret_int E.out.symm, rfl⟩
  · have hb : (x != 0) = true := by simpa using h1
    have E := Lib.hid (show orI x y z = x by simp [orI, h1])
    clear h1
    go_enter Try.func55, Try.ntmps55
    go_wp2_with fail
    refine wp_loop_rounds 1 ?_
    rw [rounds_succ]
    go_wp2
    go_ret
    exact ⟨ret_int E.out.symm, rfl⟩

/-- w' is w with draws and blocks behind it -/
def Gr (w w' : World) : Prop := ∃ q os, w' = grow (w.drewN q) os
theorem Gr.refl (w : World) : Gr w w := ⟨0, #[], by rw [grow_empty]; rfl⟩
theorem Gr.alloc {w w' : World} (h : Gr w w') (o : Obj) : Gr w (w'.alloc o) := by
  obtain ⟨q, os, rfl⟩ := h
  refine ⟨q, os.push o, ?_⟩
  show World.mk .. = World.mk ..
  simp [grow]
theorem Gr.drew {w w' : World} (h : Gr w w') : Gr w w'.drew := by
  obtain ⟨q, os, rfl⟩ := h
  exact ⟨q + 1, os, rfl⟩

set_option maxHeartbeats 3200000 in
set_option maxRecDepth 100000 in
theorem order_any (a b : Spot) (w : World) :
    Calls Try.prog 33 #[.agg #[.int .i64 a.1, .bool a.2.1, .int .i64 a.2.2], .agg #[.int .i64 b.1, .bool b.2.1, .int .i64 b.2.2]] w fun e w' => e = .returned (.int .i64 (spotCmp a b)) ∧ Gr w w' := by
  have hG := ((Gr.refl w).alloc (.cells #[.int .i64 a.1, .bool a.2.1, .int .i64 a.2.2] 26)).alloc (.cells #[.int .i64 b.1, .bool b.2.1, .int .i64 b.2.2] 26)
  have hz : ((w.alloc (.cells #[.int .i64 a.1, .bool a.2.1, .int .i64 a.2.2] 26)).alloc (.cells #[.int .i64 b.1, .bool b.2.1, .int .i64 b.2.2] 26)).heap.size = w.heap.size + 2 := by simp
  have a0 := cell_new w #[.int .i64 a.1, .bool a.2.1, .int .i64 a.2.2] 26 0
  have a1 := cell_new w #[.int .i64 a.1, .bool a.2.1, .int .i64 a.2.2] 26 1
  have a2 := cell_new w #[.int .i64 a.1, .bool a.2.1, .int .i64 a.2.2] 26 2
  have a0 := Lib.cell?_alloc_some (.cells #[.int .i64 b.1, .bool b.2.1, .int .i64 b.2.2] 26) (show _ = some (Value.int .i64 a.1) from a0)
  have a1 := Lib.cell?_alloc_some (.cells #[.int .i64 b.1, .bool b.2.1, .int .i64 b.2.2] 26) (show _ = some (Value.bool a.2.1) from a1)
  have a2 := Lib.cell?_alloc_some (.cells #[.int .i64 b.1, .bool b.2.1, .int .i64 b.2.2] 26) (show _ = some (Value.int .i64 a.2.2) from a2)
  have b0 := cell_new (w.alloc (.cells #[.int .i64 a.1, .bool a.2.1, .int .i64 a.2.2] 26)) #[.int .i64 b.1, .bool b.2.1, .int .i64 b.2.2] 26 0
  have b1 := cell_new (w.alloc (.cells #[.int .i64 a.1, .bool a.2.1, .int .i64 a.2.2] 26)) #[.int .i64 b.1, .bool b.2.1, .int .i64 b.2.2] 26 1
  have b2 := cell_new (w.alloc (.cells #[.int .i64 a.1, .bool a.2.1, .int .i64 a.2.2] 26)) #[.int .i64 b.1, .bool b.2.1, .int .i64 b.2.2] 26 2
  rw [World.size_alloc] at b0 b1 b2
  have b0 : _ = some (Value.int .i64 b.1) := b0
  have b1 : _ = some (Value.bool b.2.1) := b1
  have b2 : _ = some (Value.int .i64 b.2.2) := b2
  have hwr : IntKind.i64.wrap (rowI a - rowI b) = rowI a - rowI b := IntWalk.i64_in _ (by unfold rowI; split <;> split <;> omega)
  go_enter Try.func33, Try.ntmps33
  go_wp2_with fail
  generalize (w.alloc (.cells #[.int .i64 a.1, .bool a.2.1, .int .i64 a.2.2] 26)).alloc (.cells #[.int .i64 b.1, .bool b.2.1, .int .i64 b.2.2] 26) = w1 at hG hz a0 a1 a2 b0 b1 b2 ⊢
  go_region_held3 (fun w' => w'.cell? ⟨w.heap.size, 0, none⟩ = some (.int .i64 a.1) ∧ w'.cell? ⟨w.heap.size, 1, none⟩ = some (.bool a.2.1) ∧ w'.cell? ⟨w.heap.size, 2, none⟩ = some (.int .i64 a.2.2) ∧ w'.cell? ⟨w.heap.size + 1, 0, none⟩ = some (.int .i64 b.1) ∧ w'.cell? ⟨w.heap.size + 1, 1, none⟩ = some (.bool b.2.1) ∧ w'.cell? ⟨w.heap.size + 1, 2, none⟩ = some (.int .i64 b.2.2)) (first | exact ⟨a0, a1, a2, b0, b1, b2⟩ | (refine ⟨?_, ?_, ?_, ?_, ?_, ?_⟩ <;> (repeat (first | assumption | refine cell_kept1 _ ?_)))) (first | (go_at_call 56; refine (AnyG.cmp_Compare_int Try.cmpInt _ _ _).mono ?_; rintro e w' ⟨rfl, rfl⟩) | (go_at_call 57; refine (AnyG.cmp_Compare_int Try.cmpInt64 _ _ _).mono ?_; rintro e w' ⟨rfl, rfl⟩) | (go_at_call 54; refine (rowI_any _ _).mono ?_; rintro e w' ⟨rfl, rfl⟩) | (go_at_call 55; refine (or_any _ _ _ _ _ (World.cell?_alloc_at _ _ _ _ (by simp [hz])) (World.cell?_alloc_at _ _ _ _ (by simp [hz])) (World.cell?_alloc_at _ _ _ _ (by simp [hz]))).mono ?_; rintro e w' ⟨rfl, rfl⟩))
  all_goals (
    go_wp2
    go_ret
    refine ⟨rfl, ?_⟩
    repeat (first | exact hG | refine Gr.drew ?_ | refine Gr.alloc ?_ _))
end Go.Proofs.Ytmolmeamnmefeaa
