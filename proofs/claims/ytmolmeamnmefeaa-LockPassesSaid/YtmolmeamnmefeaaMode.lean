/- Modes: what the functions of mode and interlockref01 answer, as tables over six modes. -/
import Derived.Test.YtmolmeamnmefeaaProg
import Derived.Test.YtmolmeamnmefeaaBase
import Derived.Deep.RegionWith
namespace Go.Proofs.Ytmolmeamnmefeaa
open Go.RowKit

/-- a mode's place; what is none is 0 -/
def Md.n (m : Int) : Fin 6 := if m = 5 then 5 else if m = 4 then 4 else if m = 2 then 2 else if m = 1 then 1 else if m = 3 then 3 else 0
def Md.al (i : Fin 6) : Int := match i with | 0 => 0 | 1 => 1 | 2 => 3 | 3 => 5 | 4 => 7 | 5 => 15
def Md.leastT (b : Int) : Int := if b ≥ 8 then 5 else if b = 7 ∨ b = 6 then 4 else if b = 5 ∨ b = 4 then 3 else if b = 3 ∨ b = 2 then 2 else if b = 1 then 1 else 0

theorem allows_any (m : Int) (w : World) : Calls Try.prog 48 #[.int .u8 m] w fun e w' => e = .returned (.int .u8 (Md.al (Md.n m))) ∧ w = w' := by
  by_cases h5 : m = 5
  · subst h5
    go_enter Try.func48, Try.ntmps48
    go_wp2
    go_ret
    exact ⟨rfl, rfl⟩
  by_cases h4 : m = 4
  · subst h4
    go_enter Try.func48, Try.ntmps48
    go_wp2
    go_ret
    exact ⟨rfl, rfl⟩
  by_cases h2 : m = 2
  · subst h2
    go_enter Try.func48, Try.ntmps48
    go_wp2
    go_ret
    exact ⟨rfl, rfl⟩
  by_cases h1 : m = 1
  · subst h1
    go_enter Try.func48, Try.ntmps48
    go_wp2
    go_ret
    exact ⟨rfl, rfl⟩
  by_cases h3 : m = 3
  · subst h3
    go_enter Try.func48, Try.ntmps48
    go_wp2
    go_ret
    exact ⟨rfl, rfl⟩
  have e : Md.n m = 0 := by simp [Md.n, h5, h4, h2, h1, h3]
  rw [e]
  have b5 : (m == 5) = false := by simpa using h5
  have b4 : (m == 4) = false := by simpa using h4
  have b2 : (m == 2) = false := by simpa using h2
  have b1 : (m == 1) = false := by simpa using h1
  have b3 : (m == 3) = false := by simpa using h3
  clear h5 h4 h2 h1 h3 e
  go_enter Try.func48, Try.ntmps48
  go_wp2
  go_ret
  exact ⟨rfl, rfl⟩


def Md.cov (i j : Fin 6) : Bool := bits BinOp.andNot IntKind.u8 (Md.al j) (Md.al i) == 0
def Md.join (i j : Fin 6) : Fin 6 := Md.n (Md.leastT (bits BinOp.or IntKind.u8 (bits BinOp.or IntKind.u8 0 (Md.al i)) (Md.al j)))
def Md.bars (x y : Int) : Bool := decide (0 < bits BinOp.and IntKind.u8 x 8) || (decide (0 < bits BinOp.and IntKind.u8 x 2) && decide (0 < bits BinOp.and IntKind.u8 y 4))
def Md.bes (i j : Fin 6) : Bool := if i = 0 ∨ j = 0 then true else !Md.bars (Md.al i) (Md.al j) && !Md.bars (Md.al j) (Md.al i)
def Md.v (i : Fin 6) : Int := match i with | 0 => 0 | 1 => 1 | 2 => 2 | 3 => 3 | 4 => 4 | 5 => 5
theorem Md.n_v : ∀ i : Fin 6, Md.n (Md.v i) = i := by decide
theorem Md.v_n {m : Int} (h0 : 0 ≤ m) (h5 : m ≤ 5) : Md.v (Md.n m) = m := by
  rcases (show m = 0 ∨ m = 1 ∨ m = 2 ∨ m = 3 ∨ m = 4 ∨ m = 5 from by omega) with rfl | rfl | rfl | rfl | rfl | rfl <;> rfl
theorem Md.v_range (i : Fin 6) : 0 ≤ Md.v i ∧ Md.v i ≤ 5 := by revert i; decide
theorem Md.n_zero {m : Int} (h : ¬ m ≤ 5) : Md.n m = 0 := by
  simp only [Md.n]
  rw [if_neg (by omega), if_neg (by omega), if_neg (by omega), if_neg (by omega), if_neg (by omega)]

theorem covers_any (a b : Int) (w : World) : Calls Try.prog 27 #[.int .u8 a, .int .u8 b] w fun e w' => e = .returned (.bool (Md.cov (Md.n a) (Md.n b))) ∧ w = w' := by
  go_enter Try.func27, Try.ntmps27
  go_wp2_with fail
  refine (allows_any _ _).mono ?_
  rintro e w' ⟨rfl, rfl⟩
  go_wp2_with fail
  refine (allows_any _ _).mono ?_
  rintro e w' ⟨rfl, rfl⟩
  go_wp2
  go_ret
  exact ⟨rfl, rfl⟩

theorem known_any (m : Int) (w : World) : Calls Try.prog 47 #[.int .u8 m] w fun e w' => e = .returned (.bool (decide (m ≤ 5))) ∧ w = w' := by
  go_enter Try.func47, Try.ntmps47
  go_wp2
  go_ret
  exact ⟨rfl, rfl⟩

theorem least_any (b : Int) (hb : 0 ≤ b ∧ b ≤ 15) (w : World) : Calls Try.prog 49 #[.int .u8 b] w fun e w' => e = .returned (.int .u8 (Md.leastT b)) ∧ w = w' := by
  rcases (show b = 0 ∨ b = 1 ∨ b = 2 ∨ b = 3 ∨ b = 4 ∨ b = 5 ∨ b = 6 ∨ b = 7 ∨ b = 8 ∨ b = 9 ∨ b = 10 ∨ b = 11 ∨ b = 12 ∨ b = 13 ∨ b = 14 ∨ b = 15 from by omega) with rfl | rfl | rfl | rfl | rfl | rfl | rfl | rfl | rfl | rfl | rfl | rfl | rfl | rfl | rfl | rfl
  all_goals
    clear hb
    go_enter Try.func49, Try.ntmps49
    go_wp2
    go_ret
    exact ⟨rfl, rfl⟩

theorem Md.al_or : ∀ i j : Fin 6, 0 ≤ bits BinOp.or IntKind.u8 (bits BinOp.or IntKind.u8 0 (Md.al i)) (Md.al j) ∧ bits BinOp.or IntKind.u8 (bits BinOp.or IntKind.u8 0 (Md.al i)) (Md.al j) ≤ 15 := by decide
theorem Md.least_v : ∀ i j : Fin 6, Md.leastT (bits BinOp.or IntKind.u8 (bits BinOp.or IntKind.u8 0 (Md.al i)) (Md.al j)) = Md.v (Md.join i j) := by decide

/-- mode.Join of two modes, which lie in a block of the caller's -/
theorem join_any (a b : Int) (k : Nat) (w : World) (h0 : w.cell? ⟨k, 0, none⟩ = some (.int .u8 a)) (h1 : w.cell? ⟨k, 1, none⟩ = some (.int .u8 b)) :
    Calls Try.prog 28 #[.slice (some ⟨k, 0, none⟩) 2 2] w fun e w' => e = .returned (.int .u8 (Md.v (Md.join (Md.n a) (Md.n b)))) ∧ w = w' := by
  go_enter Try.func28, Try.ntmps28
  go_wp2
  go_loop [3, 8] (fun r i => ∃ n : Nat, n ≤ 2 ∧ i = .int .i64 n ∧ r = .int .u8 (if n = 0 then 0 else if n = 1 then bits BinOp.or IntKind.u8 0 (Md.al (Md.n a)) else bits BinOp.or IntKind.u8 (bits BinOp.or IntKind.u8 0 (Md.al (Md.n a))) (Md.al (Md.n b)))) (fun _ i => 2 - (intOf i).toNat)
  case atStart => exact ⟨0, by omega, rfl, rfl⟩
  case round =>
    obtain ⟨n, hn, rfl, rfl⟩ := hrel
    rcases (show n = 0 ∨ n = 1 ∨ n = 2 from by omega) with rfl | rfl | rfl
    · go_wp2_with fail
      refine (allows_any _ _).mono ?_
      rintro e w' ⟨rfl, rfl⟩
      go_wp2
      go_round
      case rel => exact ⟨1, by omega, rfl, rfl⟩
      case measure => simp [intOf]
    · go_wp2_with fail
      refine (allows_any _ _).mono ?_
      rintro e w' ⟨rfl, rfl⟩
      go_wp2
      go_round
      case rel => exact ⟨2, by omega, rfl, rfl⟩
      case measure => simp [intOf]
    · go_wp2_with fail
      refine (least_any _ (Md.al_or _ _) _).mono ?_
      rintro e w' ⟨rfl, rfl⟩
      go_wp2
      go_ret
      exact ⟨congrArg (fun x => Ending.returned (.int .u8 x)) (Md.least_v (Md.n a) (Md.n b)), rfl⟩

theorem bars_any (x y : Int) (w : World) : Calls Try.prog 59 #[.int .u8 x, .int .u8 y] w fun e w' => e = .returned (.bool (Md.bars x y)) ∧ w = w' := by
  by_cases h8 : 0 < bits BinOp.and IntKind.u8 x 8
  · have e : Md.bars x y = true := by simp [Md.bars, h8]
    rw [e]
    clear e
    go_enter Try.func59, Try.ntmps59
    go_wp2
    go_ret
    exact ⟨rfl, rfl⟩
  · by_cases h2 : 0 < bits BinOp.and IntKind.u8 x 2
    · have e : Md.bars x y = decide (0 < bits BinOp.and IntKind.u8 y 4) := by simp [Md.bars, h8, h2]
      rw [e]
      clear e
      go_enter Try.func59, Try.ntmps59
      go_wp2
      go_ret
      exact ⟨rfl, rfl⟩
    · have e : Md.bars x y = false := by simp [Md.bars, h8, h2]
      rw [e]
      clear e
      go_enter Try.func59, Try.ntmps59
      go_wp2
      go_ret
      exact ⟨rfl, rfl⟩

theorem Md.al_range : ∀ i : Fin 6, 0 ≤ Md.al i ∧ Md.al i ≤ 15 := by decide
theorem Md.al_zero : ∀ i : Fin 6, (Md.al i == 0) = decide (i = 0) := by decide
theorem beside_any (a b : Int) (w : World) : Calls Try.prog 37 #[.int .u8 a, .int .u8 b] w fun e w' => e = .returned (.bool (Md.bes (Md.n a) (Md.n b))) ∧ w = w' := by
  have za := Md.al_zero (Md.n a)
  have zb := Md.al_zero (Md.n b)
  by_cases ha : Md.n a = 0
  · have e : Md.bes (Md.n a) (Md.n b) = true := by simp [Md.bes, ha]
    rw [e]
    have ea : (Md.al (Md.n a) == 0) = true := by rw [za]; simpa using ha
    clear za zb ha e
    go_enter Try.func37, Try.ntmps37
    go_wp2_with fail
    refine (allows_any _ _).mono ?_
    rintro e w' ⟨rfl, rfl⟩
    go_wp2_with fail
    refine (allows_any _ _).mono ?_
    rintro e w' ⟨rfl, rfl⟩
    go_wp2
    go_ret
    exact ⟨rfl, rfl⟩
  · by_cases hb : Md.n b = 0
    · have e : Md.bes (Md.n a) (Md.n b) = true := by simp [Md.bes, hb]
      rw [e]
      have ea : (Md.al (Md.n a) == 0) = false := by rw [za]; simpa using ha
      have eb : (Md.al (Md.n b) == 0) = true := by rw [zb]; simpa using hb
      clear za zb ha hb e
      go_enter Try.func37, Try.ntmps37
      go_wp2_with fail
      refine (allows_any _ _).mono ?_
      rintro e w' ⟨rfl, rfl⟩
      go_wp2_with fail
      refine (allows_any _ _).mono ?_
      rintro e w' ⟨rfl, rfl⟩
      go_wp2
      go_ret
      exact ⟨rfl, rfl⟩
    · have e : Md.bes (Md.n a) (Md.n b) = (!Md.bars (Md.al (Md.n a)) (Md.al (Md.n b)) && !Md.bars (Md.al (Md.n b)) (Md.al (Md.n a))) := by simp [Md.bes, ha, hb]
      rw [e]
      have ea : (Md.al (Md.n a) == 0) = false := by rw [za]; simpa using ha
      have eb : (Md.al (Md.n b) == 0) = false := by rw [zb]; simpa using hb
      clear za zb ha hb e
      by_cases h1 : Md.bars (Md.al (Md.n a)) (Md.al (Md.n b)) = true
      · have e2 : (!Md.bars (Md.al (Md.n a)) (Md.al (Md.n b)) && !Md.bars (Md.al (Md.n b)) (Md.al (Md.n a))) = false := by rw [h1]; rfl
        rw [e2]
        have H := Lib.hid h1
        clear h1 e2
        go_enter Try.func37, Try.ntmps37
        go_wp2_with fail
        refine (allows_any _ _).mono ?_
        rintro e w' ⟨rfl, rfl⟩
        go_wp2_with fail
        refine (allows_any _ _).mono ?_
        rintro e w' ⟨rfl, rfl⟩
        go_wp2_with fail
        refine (bars_any _ _ _).mono ?_
        rintro e w' ⟨rfl, rfl⟩
        rw [H.out]
        go_wp2
        go_ret
        exact ⟨rfl, rfl⟩
      · have h1 : Md.bars (Md.al (Md.n a)) (Md.al (Md.n b)) = false := by simpa using h1
        have e2 : (!Md.bars (Md.al (Md.n a)) (Md.al (Md.n b)) && !Md.bars (Md.al (Md.n b)) (Md.al (Md.n a))) = !Md.bars (Md.al (Md.n b)) (Md.al (Md.n a)) := by rw [h1]; rfl
        rw [e2]
        have H := Lib.hid h1
        clear h1 e2
        go_enter Try.func37, Try.ntmps37
        go_wp2_with fail
        refine (allows_any _ _).mono ?_
        rintro e w' ⟨rfl, rfl⟩
        go_wp2_with fail
        refine (allows_any _ _).mono ?_
        rintro e w' ⟨rfl, rfl⟩
        go_wp2_with fail
        refine (bars_any _ _ _).mono ?_
        rintro e w' ⟨rfl, rfl⟩
        rw [H.out]
        go_wp2_with fail
        refine (bars_any _ _ _).mono ?_
        rintro e w' ⟨rfl, rfl⟩
        go_wp2
        go_ret
        exact ⟨rfl, rfl⟩

/-! ### interlockref01 -/
def Md.st (x m : Int) : Bool := decide (x = 1 ∧ m = 0) || decide (x = 2 ∧ m = 1) || decide (x = 3 ∧ m = 1) || decide (x = 4 ∧ m = 2) || decide (x = 4 ∧ m = 3) || decide (x = 5 ∧ m = 4)

theorem refKnown_any (m : Int) (w : World) : Calls Try.prog 61 #[.int .u8 m] w fun e w' => e = .returned (.bool (decide (m ≤ 5))) ∧ w = w' := by
  go_enter Try.func61, Try.ntmps61
  go_wp2
  go_ret
  exact ⟨rfl, rfl⟩

theorem of_any (m : Int) (h0 : 0 ≤ m) (w : World) : Calls Try.prog 40 #[.int .u8 m] w fun e w' => e = .returned (.int .u8 (Md.v (Md.n m))) ∧ w = w' := by
  by_cases h5 : m ≤ 5
  · rw [Md.v_n h0 h5]
    go_enter Try.func40, Try.ntmps40
    go_wp2_with fail
    refine (refKnown_any _ _).mono ?_
    rintro e w' ⟨rfl, rfl⟩
    go_wp2
    go_ret
    exact ⟨rfl, rfl⟩
  · rw [Md.n_zero h5]
    have b5 : decide (m ≤ 5) = false := by simpa using h5
    clear h5
    go_enter Try.func40, Try.ntmps40
    go_wp2_with fail
    refine (refKnown_any _ _).mono ?_
    rintro e w' ⟨rfl, rfl⟩
    go_wp2
    go_ret
    exact ⟨rfl, rfl⟩

set_option maxHeartbeats 1600000 in
theorem step_any (x m : Int) (hx : 0 ≤ x ∧ x ≤ 5) (hm : 0 ≤ m ∧ m ≤ 5) (w : World) : Calls Try.prog 41 #[.int .u8 x, .int .u8 m] w fun e w' => e = .returned (.bool (Md.st x m)) ∧ w = w' := by
  rcases (show x = 0 ∨ x = 1 ∨ x = 2 ∨ x = 3 ∨ x = 4 ∨ x = 5 from by omega) with rfl | rfl | rfl | rfl | rfl | rfl
  all_goals
    rcases (show m = 0 ∨ m = 1 ∨ m = 2 ∨ m = 3 ∨ m = 4 ∨ m = 5 from by omega) with rfl | rfl | rfl | rfl | rfl | rfl
    all_goals
      clear hx hm
      go_enter Try.func41, Try.ntmps41
      go_wp2
      go_ret
      exact ⟨rfl, rfl⟩

theorem Md.cov_self : ∀ i : Fin 6, Md.cov i i = true := by decide
theorem Md.cov_step : ∀ i j k : Fin 6, Md.st (Md.v i) (Md.v k) = true → Md.cov k j = true → Md.cov i j = true := by decide
theorem Md.st_less : ∀ i k : Fin 6, Md.st (Md.v i) (Md.v k) = true → k.val < i.val := by decide
theorem Md.cov_none : ∀ i j : Fin 6, i ≠ j → (∀ k : Fin 6, Md.st (Md.v i) (Md.v k) = true → Md.cov k j = false) → Md.cov i j = false := by decide
theorem Md.v_val : ∀ c : Fin 6, Md.v c = (c.val : Int) := by decide
theorem Md.v_inj : ∀ i j : Fin 6, Md.v i = Md.v j → i = j := by decide

set_option maxHeartbeats 1600000 in
/-- Step by step, each step to a mode further down. -/
theorem refCovers_at : ∀ (f : Nat) (a b : Int) (_ : 0 ≤ a) (_ : 0 ≤ b) (_ : (Md.n a).val < f) (w : World), Calls Try.prog 19 #[.int .u8 a, .int .u8 b] w fun e w' => e = .returned (.bool (Md.cov (Md.n a) (Md.n b))) ∧ w = w'
  | 0, _, _, _, _, h, _ => absurd h (by omega)
  | f + 1, a, b, ha, hb, hf, w => by
    have ih := Lib.hid (refCovers_at f)
    obtain ⟨i, hi⟩ : ∃ i, i = Md.n a := ⟨_, rfl⟩
    obtain ⟨j, hj⟩ : ∃ j, j = Md.n b := ⟨_, rfl⟩
    rw [← hi, ← hj]
    have Hi := Lib.hid hi
    have Hj := Lib.hid hj
    rw [← hi] at hf
    clear hi hj
    have rv := Md.v_range i
    by_cases hij : i = j
    · subst hij
      rw [Md.cov_self]
      go_enter Try.func19, Try.ntmps19
      go_wp2_with fail
      refine (of_any a ha _).mono ?_
      rintro e w' ⟨rfl, rfl⟩
      rw [← Hi.out]
      go_wp2_with fail
      refine (of_any b hb _).mono ?_
      rintro e w' ⟨rfl, rfl⟩
      rw [← Hj.out]
      go_wp2
      go_ret
      exact ⟨rfl, rfl⟩
    · have hne : (Md.v i == Md.v j) = false := by simpa using fun e => hij (Md.v_inj _ _ e)
      have Hij := Lib.hid hij
      clear hij
      go_enter Try.func19, Try.ntmps19
      go_wp2_with fail
      refine (of_any a ha _).mono ?_
      rintro e w' ⟨rfl, rfl⟩
      rw [← Hi.out]
      go_wp2_with fail
      refine (of_any b hb _).mono ?_
      rintro e w' ⟨rfl, rfl⟩
      rw [← Hj.out]
      go_wp2_with fail
      go_loop [7] (fun m => ∃ k : Nat, k ≤ 6 ∧ m = .int .u8 k ∧ ∀ c : Fin 6, c.val < k → Md.st (Md.v i) (Md.v c) = true → Md.cov c j = false) (fun m => 6 - (intOf m).toNat)
      case atStart => exact ⟨0, by omega, rfl, fun c hc => absurd hc (by omega)⟩
      case round =>
        obtain ⟨k, hk, rfl, hall⟩ := hrel
        have Hall := Lib.hid hall
        clear hall
        by_cases h5 : k ≤ 5
        · obtain ⟨c, hc⟩ : ∃ c : Fin 6, c.val = k := ⟨⟨k, by omega⟩, rfl⟩
          have hv : Md.v c = (k : Int) := by rw [Md.v_val, hc]
          have Hv := Lib.hid hv
          have Hc := Lib.hid hc
          clear hv hc
          by_cases hst : Md.st (Md.v i) k = true
          · have hst' : Md.st (Md.v i) (Md.v c) = true := by rw [Hv.out]; exact hst
            have hlt := Md.st_less i c hst'
            have Hst := Lib.hid hst
            have Hst' := Lib.hid hst'
            clear hst hst'
            have hnc : Md.n (k : Int) = c := by rw [← Hv.out, Md.n_v]
            have Hnc := Lib.hid hnc
            clear hnc
            cases hcov : Md.cov c j
            · have Hcov := Lib.hid hcov
              clear hcov
              go_wp2_with fail
              refine (step_any _ _ rv (by omega) _).mono ?_
              rintro e w' ⟨rfl, rfl⟩
              rw [Hst.out]
              go_wp2_with fail
              refine (ih.out (k : Int) (Md.v j) (by omega) (Md.v_range j).1 (by rw [Hnc.out]; omega) _).mono ?_
              rintro e w' ⟨rfl, rfl⟩
              rw [Hnc.out, Md.n_v, Hcov.out]
              go_wp2
              go_round
              case rel =>
                refine ⟨k + 1, by omega, by go_num, fun d hd hs => ?_⟩
                rcases (show d.val < k ∨ d.val = k from by omega) with h | h
                · exact Hall.out d h hs
                · have : d = c := Fin.ext (by rw [h, Hc.out])
                  rw [this]
                  exact Hcov.out
              case measure => simp [intOf]; omega
            · have e : Md.cov i j = true := Md.cov_step i j c Hst'.out hcov
              have E := Lib.hid e
              have Hcov := Lib.hid hcov
              clear hcov e
              go_wp2_with fail
              refine (step_any _ _ rv (by omega) _).mono ?_
              rintro e w' ⟨rfl, rfl⟩
              rw [Hst.out]
              go_wp2_with fail
              refine (ih.out (k : Int) (Md.v j) (by omega) (Md.v_range j).1 (by rw [Hnc.out]; omega) _).mono ?_
              rintro e w' ⟨rfl, rfl⟩
              rw [Hnc.out, Md.n_v, Hcov.out]
              go_wp2
              go_ret
              exact ⟨ret_bool E.out.symm, rfl⟩
          · have hst' : Md.st (Md.v i) k = false := by simpa using hst
            have Hst := Lib.hid hst'
            clear hst hst'
            go_wp2_with fail
            refine (step_any _ _ rv (by omega) _).mono ?_
            rintro e w' ⟨rfl, rfl⟩
            rw [Hst.out]
            go_wp2
            go_round
            case rel =>
              refine ⟨k + 1, by omega, by go_num, fun d hd hs => ?_⟩
              rcases (show d.val < k ∨ d.val = k from by omega) with h | h
              · exact Hall.out d h hs
              · have : d = c := Fin.ext (by rw [h, Hc.out])
                rw [this, Hv.out, Hst.out] at hs
                cases hs
            case measure => simp [intOf]; omega
        · have h6 : ¬ ((k : Int) ≤ 5) := by omega
          have e : Md.cov i j = false := Md.cov_none i j Hij.out (fun c => Hall.out c (by omega))
          have E := Lib.hid e
          clear e
          go_wp2
          go_ret
          exact ⟨ret_bool E.out.symm, rfl⟩

theorem refCovers_any (a b : Int) (ha : 0 ≤ a) (hb : 0 ≤ b) (w : World) : Calls Try.prog 19 #[.int .u8 a, .int .u8 b] w fun e w' => e = .returned (.bool (Md.cov (Md.n a) (Md.n b))) ∧ w = w' :=
  refCovers_at 6 a b ha hb (Md.n a).isLt w
end Go.Proofs.Ytmolmeamnmefeaa
