/- A table of locks, plainly (1). -/
import Derived.Test.YtmolmeamnmefeaaLock16
namespace Go.Proofs.Ytmolmeamnmefeaa
open Go.RowKit

theorem Md.bes_symm : ∀ i j : Fin 6, Md.bes i j = Md.bes j i := by decide
theorem canG_iff {holds : List Hold} {who m : Int} : canG holds who m = true ↔ ∀ h ∈ holds, h.1 = who ∨ Md.bes (Md.n m) (Md.n h.2) = true := by
  unfold canG
  rw [List.all_eq_true]
  simp
theorem mem_wo {L : List Hold} {who : Int} {h : Hold} : h ∈ wo L who ↔ h ∈ L ∧ h.1 ≠ who := by
  unfold wo
  simp
theorem wo_none {L : List Hold} {who : Int} (h : ∀ x ∈ L, x.1 ≠ who) : wo L who = L := List.filter_eq_self.2 (fun x hx => by simpa using h x hx)
theorem wo_append (A B : List Hold) (who : Int) : wo (A ++ B) who = wo A who ++ wo B who := by simp [wo]

structure SpInv (x : Sp) : Prop where
  hn : (x.holds.map (·.1)).Nodup
  hm : ∀ h ∈ x.holds, 1 ≤ h.2 ∧ h.2 ≤ 5
  qm : ∀ h ∈ x.queue, 1 ≤ h.2 ∧ h.2 ≤ 5
  qn : (x.queue.map (·.1)).Nodup
  upH : ∀ h ∈ x.up, (Al.get x.holds h.1).isSome = true
  restN : ∀ h ∈ x.rest, Al.get x.holds h.1 = none
  bes : ∀ h ∈ x.holds, ∀ k ∈ x.holds, h.1 ≠ k.1 → Md.bes (Md.n h.2) (Md.n k.2) = true

def Sp.blocked (x : Sp) : Prop := ∀ h l, x.queue = h :: l → canG x.holds h.1 h.2 = false

/-- granting one keeps what holds of a spot -/
theorem SpInv.put {x : Sp} (hx : SpInv x) {who j : Int} (hj : 1 ≤ j ∧ j ≤ 5) (hc : canG x.holds who j = true) {U R : List Hold} (hU : U.Sublist x.up) (hR : R.Sublist x.rest) (hw : ∀ h ∈ R, h.1 ≠ who) :
    SpInv ⟨Al.put x.holds who j, U, R⟩ where
  hn := Al.put_nodup hx.hn _ _
  hm := by
    intro h hh
    rcases Al.mem_put hh with rfl | ⟨h1, _⟩
    · exact hj
    · exact hx.hm h h1
  qm := fun h hh => hx.qm h ((hU.append hR).mem hh)
  qn := hx.qn.sublist ((hU.append hR).map _)
  upH := by
    intro h hh
    simp only [Al.get_put]
    split
    · rfl
    · exact hx.upH h (hU.mem hh)
  restN := by
    intro h hh
    simp only [Al.get_put]
    rw [if_neg (hw h hh)]
    exact hx.restN h (hR.mem hh)
  bes := by
    intro h hh k hk hne
    rw [canG_iff] at hc
    rcases Al.mem_put hh with rfl | ⟨h1, h2⟩ <;> rcases Al.mem_put hk with rfl | ⟨k1, k2⟩
    · exact absurd rfl hne
    · rcases hc k k1 with e | e
      · exact absurd e k2
      · exact e
    · rw [Md.bes_symm]
      rcases hc h h1 with e | e
      · exact absurd e h2
      · exact e
    · exact hx.bes h h1 k k1 hne

theorem wo_head {h : Hold} {l : List Hold} (hn : ((h :: l).map (·.1)).Nodup) : wo (h :: l) h.1 = l := by
  simp only [List.map_cons, List.nodup_cons] at hn
  unfold wo
  rw [List.filter_cons_of_neg (by simp)]
  refine List.filter_eq_self.2 (fun q hq => ?_)
  simp
  exact fun e => hn.1 (List.mem_map.2 ⟨q, hq, e⟩)

theorem give_queue {x : Sp} (hn : (x.queue.map (·.1)).Nodup) {h : Hold} {l : List Hold} (hq : x.queue = h :: l) : (x.give h).queue = l := by
  have h1 : (x.give h).queue = wo x.queue h.1 := by simp [Sp.queue, Sp.give, wo]
  rw [h1, hq]
  rw [hq] at hn
  exact wo_head hn
/-- the first of the queue: of those that upgrade, or of the rest -/
theorem give_cases {x : Sp} (hn : (x.queue.map (·.1)).Nodup) {h : Hold} {l : List Hold} (hq : x.queue = h :: l) :
    (∃ u, x.up = h :: u ∧ (x.give h).up = u ∧ (x.give h).rest = x.rest) ∨ (x.up = [] ∧ ∃ r, x.rest = h :: r ∧ (x.give h).up = [] ∧ (x.give h).rest = r) := by
  unfold Sp.queue at hq hn
  cases hu : x.up with
  | nil =>
    rw [hu] at hq hn
    simp only [List.nil_append] at hq hn
    refine Or.inr ⟨rfl, l, hq, by simp [Sp.give, hu, wo], ?_⟩
    simp only [Sp.give]
    rw [hq] at hn ⊢
    exact wo_head hn
  | cons a u =>
    rw [hu] at hq hn
    simp only [List.cons_append, List.cons.injEq] at hq
    obtain ⟨rfl, hq⟩ := hq
    refine Or.inl ⟨u, rfl, ?_, ?_⟩
    · simp only [Sp.give, hu]
      refine wo_head (hn.sublist (by simp))
    · refine wo_none (fun q hq' e => ?_)
      simp only [List.cons_append, List.map_cons, List.nodup_cons] at hn
      exact hn.1 (List.mem_map.2 ⟨q, by simp [hq'], e⟩)

theorem SpInv.give {x : Sp} (hx : SpInv x) {h : Hold} {l : List Hold} (hq : x.queue = h :: l) (hc : canG x.holds h.1 h.2 = true) : SpInv (x.give h) := by
  have := hx.put (who := h.1) (j := h.2) (hx.qm h (by rw [hq]; simp)) hc (U := wo x.up h.1) (R := wo x.rest h.1) List.filter_sublist List.filter_sublist (fun y hy => (mem_wo.1 hy).2)
  exact this

def Sp.wt (x : Sp) : Nat := x.holds.length + x.up.length + x.rest.length
def Sp.used (x : Sp) : Nat := x.holds.length + x.rest.length
theorem Al.put_len {κ α : Type} [DecidableEq κ] (m : List (κ × α)) (k : κ) (v : α) : (Al.put m k v).length = if (Al.get m k).isSome then m.length else m.length + 1 := by
  unfold Al.put
  split <;> simp

/-- what holds of what is granted -/
structure Granted (x : Sp) (y : Sp) (g : List Int) : Prop where
  inv : SpInv y
  shut : y.blocked
  wt : y.wt ≤ x.wt
  used : y.used ≤ x.used
  queue : ∃ q, x.queue = q ++ y.queue ∧ g = q.map (·.1)
  rest : ∃ r, x.rest = r ++ y.rest
  held : ∀ who, who ∈ g → (Al.get y.holds who).isSome = true
  more : ∀ who, (Al.get y.holds who).isSome = true → (Al.get x.holds who).isSome = true ∨ who ∈ g
  keep : ∀ who, (Al.get x.holds who).isSome = true → (Al.get y.holds who).isSome = true

theorem grantS_of : ∀ (n : Nat) (x : Sp), x.queue.length = n → SpInv x → Granted x (grantS x).1 (grantS x).2
  | n, x, hn, hx => by
    cases hq : x.queue with
    | nil =>
      rw [grantS_nil hq]
      exact ⟨hx, fun h l e => (by rw [hq] at e; cases e), Nat.le_refl _, Nat.le_refl _, ⟨[], rfl, rfl⟩, ⟨[], rfl⟩, by simp, fun _ h => Or.inl h, fun _ h => h⟩
    | cons h l =>
      cases hc : canG x.holds h.1 h.2 with
      | false =>
        rw [grantS_stop hq hc]
        exact ⟨hx, fun h' l' e => (by rw [hq] at e; cases e; exact hc), Nat.le_refl _, Nat.le_refl _, ⟨[], rfl, rfl⟩, ⟨[], rfl⟩, by simp, fun _ h => Or.inl h, fun _ h => h⟩
      | true =>
        rw [grantS_step hq hc]
        have hg := give_queue hx.qn hq
        have hlt : (x.give h).queue.length < n := by
          rw [hg]
          rw [hq] at hn
          simp at hn
          omega
        have ih := grantS_of _ (x.give h) rfl (hx.give hq hc)
        have hpl := Al.put_len x.holds h.1 h.2
        have hgl : (x.give h).holds = Al.put x.holds h.1 h.2 := rfl
        obtain ⟨q, q1, q2⟩ := ih.queue
        obtain ⟨r, r1⟩ := ih.rest
        have hwu : (x.give h).wt ≤ x.wt ∧ (x.give h).used ≤ x.used ∧ ∃ r', x.rest = r' ++ (x.give h).rest := by
          rcases give_cases hx.qn hq with ⟨u, e1, e2, e3⟩ | ⟨e0, r', e1, e2, e3⟩
          · have hs := hx.upH h (by rw [e1]; simp)
            rw [if_pos hs] at hpl
            refine ⟨?_, ?_, [], by rw [e3]; rfl⟩
            · unfold Sp.wt
              rw [e2, e3, e1, hgl, hpl]
              simp
            · unfold Sp.used
              rw [e3, hgl, hpl]
              omega
          · refine ⟨?_, ?_, [h], by rw [e3, e1]; rfl⟩
            · unfold Sp.wt
              rw [e2, e3, e1, hgl, hpl]
              split <;> simp <;> omega
            · unfold Sp.used
              rw [e3, e1, hgl, hpl]
              split <;> simp <;> omega
        obtain ⟨w1, w2, r', w3⟩ := hwu
        refine ⟨ih.inv, ih.shut, Nat.le_trans ih.wt w1, Nat.le_trans ih.used w2, ⟨h :: q, ?_, ?_⟩, ⟨r' ++ r, by rw [w3, r1, List.append_assoc]⟩, ?_, ?_, ?_⟩
        · rw [List.cons_append, ← q1, hg, ← hq]
        · rw [q2]
          rfl
        · intro who hw
          rcases List.mem_cons.1 hw with rfl | hw
          · exact ih.keep _ (by rw [hgl, Al.get_put]; simp)
          · exact ih.held who hw
        · intro who hw
          rcases ih.more who hw with h1 | h1
          · rw [hgl, Al.get_put] at h1
            by_cases e : who = h.1
            · exact Or.inr (by simp [e])
            · rw [if_neg e] at h1
              exact Or.inl h1
          · exact Or.inr (by simp [h1])
        · intro who hw
          refine ih.keep who ?_
          rw [hgl, Al.get_put]
          split
          · rfl
          · exact hw
termination_by n => n

theorem grantS_granted {x : Sp} (hx : SpInv x) : Granted x (grantS x).1 (grantS x).2 := grantS_of _ x rfl hx
end Go.Proofs.Ytmolmeamnmefeaa
