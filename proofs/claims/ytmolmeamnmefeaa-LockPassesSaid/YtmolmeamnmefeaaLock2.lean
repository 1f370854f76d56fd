/- A spot: its memory; can a wish be granted? -/
import Derived.Test.YtmolmeamnmefeaaLock1
namespace Go.Proofs.Ytmolmeamnmefeaa
open Go.RowKit

/-- which blocks a spot owns -/
def CSpot.fp (c : CSpot) (b : Nat) : Prop := b = c.p ∨ b = c.hb ∨ c.vu.ownBlock = some b ∨ c.vr.ownBlock = some b

structure SpotOk (w : World) (c : CSpot) : Prop where
  blk : w.heap[c.p]? = some (.cells #[.map (some c.hb), c.vu, c.vr] 68 (0, 0))
  holds : MapAt mtHolds w c.hb c.holds
  up : Row etHold w 0 c.vu c.up
  rest : Row etHold w 0 c.vr c.rest
  apart : ∀ b, c.vu.ownBlock = some b → c.vr.ownBlock ≠ some b
  modes : ∀ h ∈ c.holds, 1 ≤ h.2 ∧ h.2 ≤ 5
  upOk : ∀ h ∈ c.up, i64 h.1 ∧ 1 ≤ h.2 ∧ h.2 ≤ 5
  restOk : ∀ h ∈ c.rest, i64 h.1 ∧ 1 ≤ h.2 ∧ h.2 ≤ 5

theorem SpotOk.lt {w : World} {c : CSpot} (h : SpotOk w c) : ∀ b, c.fp b → b < w.heap.size := by
  rintro b (rfl | rfl | hb | hb)
  · exact (Array.getElem?_eq_some_iff.1 h.blk).1
  · exact h.holds.lt
  · exact (h.up.lt b hb).2
  · exact (h.rest.lt b hb).2

theorem SpotOk.of_blocks {w w' : World} {c : CSpot} (h : SpotOk w c) (hb : ∀ b, c.fp b → w'.heap[b]? = w.heap[b]?) : SpotOk w' c where
  blk := (hb c.p (Or.inl rfl)).trans h.blk
  holds := h.holds.of_block (hb c.hb (Or.inr (Or.inl rfl)))
  up := h.up.of_block (fun b e => hb b (Or.inr (Or.inr (Or.inl e))))
  rest := h.rest.of_block (fun b e => hb b (Or.inr (Or.inr (Or.inr e))))
  apart := h.apart
  modes := h.modes
  upOk := h.upOk
  restOk := h.restOk

theorem SpotOk.below {w w' : World} {c : CSpot} (h : SpotOk w c) (hb : Below w.heap.size w w') : SpotOk w' c := h.of_blocks (fun b e => hb.block b (h.lt b e))

theorem cell_of_blk {w : World} {p : Nat} {cs : Array Value} {t : TypeId} {fr : Nat × Nat} (h : w.heap[p]? = some (.cells cs t fr)) (j : Nat) : w.cell? ⟨p, j, none⟩ = cs[j]? := by simp [World.cell?, h]
theorem frozen_of_blk {w : World} {p : Nat} {cs : Array Value} {t : TypeId} (h : w.heap[p]? = some (.cells cs t (0, 0))) (j : Nat) : w.frozen? ⟨p, j, none⟩ = false := by simp [World.frozen?, h]

/-- can a wish be granted? -/
def canG (holds : List Hold) (who m : Int) : Bool := holds.all (fun h => decide (h.1 = who) || Md.bes (Md.n m) (Md.n h.2))

theorem canG_del {holds left : List Hold} (hs : left.Sublist holds) {p : Hold} (hn : (holds.map (·.1)).Nodup) (hp : p ∈ left) : ∀ x ∈ holds, x ∉ Al.del left p.1 → x ∉ left ∨ x = p := by
  intro x hx hd
  by_cases hl : x ∈ left
  · refine Or.inr ?_
    by_cases hk : x.1 = p.1
    · have h1 := Al.get_some hn hx
      have h2 := Al.get_some hn (hs.subset hp)
      rw [hk] at h1
      have : x.2 = p.2 := Option.some.inj (h1.symm.trans h2)
      exact Prod.ext hk this
    · exact absurd (List.mem_filter.2 ⟨hl, by simpa using hk⟩) hd
  · exact Or.inl hl

theorem can_case (p : Hold) (who m : Int) : (p.1 != who) = false ∨ ((p.1 != who) = true ∧ Md.bes (Md.n m) (Md.n p.2) = true) ∨ ((p.1 != who) = true ∧ Md.bes (Md.n m) (Md.n p.2) = false) := by
  cases (p.1 != who) <;> cases Md.bes (Md.n m) (Md.n p.2) <;> simp

set_option maxHeartbeats 1600000 in
theorem can_any (c : CSpot) (who m : Int) (w : World) (h : SpotOk w c) :
    Calls Try.prog 29 #[.pointer (some ⟨c.p, 0, none⟩), .agg #[.int .i64 who, .int .u8 m]] w fun e w' => e = .returned (.bool (canG c.holds who m)) ∧ Below w.heap.size w w' := by
  have hn := h.holds.nodup
  have c0 : w.cell? ⟨c.p, 0, none⟩ = some (.map (some c.hb)) := cell_of_blk h.blk 0
  have lp := h.lt c.p (Or.inl rfl)
  have hm := h.holds
  generalize c.holds = holds at hn hm ⊢
  generalize c.hb = hb at hm c0
  generalize c.p = p at c0 lp ⊢
  clear h c
  have lb := hm.lt
  go_enter Try.func29, Try.ntmps29
  go_wp2_with (at_range; refine wpList_range_at mtHolds _ rfl _ rfl hb holds rfl (hm.of_block (heap_alloc_old _ _ lb)) ?_; intro w1 hrg hg1 hs1)
  go_frame
  have q0 : w1.cell? ⟨w.heap.size, 0, none⟩ = some (.int .i64 who) := hg1.cell (by simp) (by simp)
  have q1 : w1.cell? ⟨w.heap.size, 1, none⟩ = some (.int .u8 m) := hg1.cell (by simp) (by simp)
  have hb1 : Below w.heap.size w w1 := ((Below.refl _ w).alloc (Nat.le_refl _) _).grown hg1 (by simp) (fun k e => by cases e)
  have hs1' : w1.heap.size = w.heap.size + 1 + 1 := by rw [hs1]; simp
  have hrg' : RangeAt mtHolds w1 hb (w.heap.size + 1) holds holds := by simpa using hrg
  clear hg1 hrg hs1 c0 hm lp
  have Hn := Lib.hid hn
  clear hn
  simp only [World.size_alloc]
  go_loopw [5, 6] (fun _ _ wr => ∃ left, RangeAt mtHolds wr hb (w.heap.size + 1) holds left ∧ Hid (∀ x ∈ holds, x ∉ left → (decide (x.1 = who) || Md.bes (Md.n m) (Md.n x.2)) = true) ∧ wr.cell? ⟨w.heap.size, 0, none⟩ = some (.int .i64 who) ∧ wr.cell? ⟨w.heap.size, 1, none⟩ = some (.int .u8 m) ∧ Below w.heap.size w wr ∧ w.heap.size + 1 < wr.heap.size) (fun _ _ wr => wr.rangeLeft hb (w.heap.size + 1))
  case atStart => exact ⟨holds, hrg', fun x hx hn => absurd hx hn, q0, q1, hb1, by omega⟩
  case round =>
    obtain ⟨left, hrg, hdone, r0, r1, hbr, hsr⟩ := hrel
    clear q0 q1 hb1 hrg' hs1'
    go_wp2_with (first | (at_next; refine wpList_next_holds _ rfl _ rfl hb (w.heap.size + 1) holds left rfl hrg ?_ ?_; rotate_right; intro p w2 hp hrg2 hlt2 hg2 hs2 hen2; have e0 : w2.cell? ⟨w.heap.size, 0, none⟩ = some (.int .i64 who) := hg2.cell r0 (by simp); have e1 : w2.cell? ⟨w.heap.size, 1, none⟩ = some (.int .u8 m) := hg2.cell r1 (by simp); rcases can_case p who m with hpb | ⟨hpb, hbe⟩ | ⟨hpb, hbe⟩) | (go_at_call 37; refine (beside_any _ _ _).mono ?_; rintro e w' ⟨rfl, rfl⟩))
    · go_roundw
      case rel =>
        refine ⟨Al.del left p.1, hrg2, ?_, e0, e1, hbr.grown hg2 (by omega) (fun k e => by cases e; omega), by omega⟩
        intro x hx hnl
        rcases canG_del hrg.sub Hn.out hp x hx hnl with h | h
        · exact hdone.out x hx h
        · have : x.1 = who := by rw [h]; simpa using hpb
          simp [this]
      case measure => rw [hrg2.toCome, hrg.toCome]; exact hlt2
    · go_roundw
      case rel =>
        refine ⟨Al.del left p.1, hrg2, ?_, e0, e1, hbr.grown hg2 (by omega) (fun k e => by cases e; omega), by omega⟩
        intro x hx hnl
        rcases canG_del hrg.sub Hn.out hp x hx hnl with h | h
        · exact hdone.out x hx h
        · rw [h, hbe, Bool.or_true]
      case measure => rw [hrg2.toCome, hrg.toCome]; exact hlt2
    · go_ret
      refine ⟨ret_bool ?_, hbr.grown hg2 (by omega) (fun k e => by cases e; omega)⟩
      unfold canG
      symm
      rw [List.all_eq_false]
      refine ⟨p, hrg.sub.subset hp, ?_⟩
      rw [hbe]
      simpa using hpb
    · intro hl
      go_wp2
      go_ret
      refine ⟨ret_bool ?_, hbr⟩
      unfold canG
      symm
      rw [List.all_eq_true]
      exact fun x hx => hdone.out x hx (by rw [hl]; simp)
end Go.Proofs.Ytmolmeamnmefeaa
