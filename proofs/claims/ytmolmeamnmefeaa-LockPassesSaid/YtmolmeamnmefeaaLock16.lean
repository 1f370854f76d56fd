/- Granting the first of a queue, as long as that can be: plainly. -/
import Derived.Test.YtmolmeamnmefeaaLock15
namespace Go.Proofs.Ytmolmeamnmefeaa
open Go.RowKit

section
variable {κ α : Type} [DecidableEq κ]
theorem Al.find_some {m : List (κ × α)} {k : κ} : (Al.get m k).isSome = true ↔ k ∈ m.map (·.1) := by
  unfold Al.get
  rw [Option.isSome_map, List.find?_isSome, List.mem_map]
  constructor
  · rintro ⟨p, hp, he⟩
    exact ⟨p, hp, by simpa using he⟩
  · rintro ⟨p, hp, rfl⟩
    exact ⟨p, hp, by simp⟩
theorem Al.get_isNone {m : List (κ × α)} {k : κ} : Al.get m k = none ↔ k ∉ m.map (·.1) := by
  rw [← Al.find_some]
  cases Al.get m k <;> simp
theorem Al.get_iff {m : List (κ × α)} (hn : (m.map (·.1)).Nodup) {k : κ} {v : α} : Al.get m k = some v ↔ (k, v) ∈ m := ⟨Al.mem_of_get, Al.get_some hn⟩
theorem Al.get_cons (p : κ × α) (m : List (κ × α)) (k : κ) : Al.get (p :: m) k = if p.1 = k then some p.2 else Al.get m k := by
  unfold Al.get
  rw [List.find?_cons]
  by_cases h : p.1 = k
  · simp [h]
  · simp [h]
theorem Al.get_append (m m' : List (κ × α)) (k : κ) : Al.get (m ++ m') k = (Al.get m k).or (Al.get m' k) := by
  induction m with
  | nil => simp [Al.get]
  | cons p m ih =>
    rw [List.cons_append, Al.get_cons, Al.get_cons, ih]
    split <;> simp
theorem Al.get_repl (m : List (κ × α)) (k : κ) (v : α) (k' : κ) : Al.get (m.map (fun p => if p.1 = k then (k, v) else p)) k' = if k' = k then (Al.get m k).map (fun _ => v) else Al.get m k' := by
  induction m with
  | nil => simp [Al.get]
  | cons p m ih =>
    rw [List.map_cons, Al.get_cons, Al.get_cons, ih, Al.get_cons]
    by_cases h : p.1 = k
    · subst h
      by_cases h' : k' = p.1
      · simp [h']
      · simp [h', Ne.symm h']
    · by_cases h' : k' = k
      · subst h'
        simp [h]
      · simp [h, h']
theorem Al.get_put (m : List (κ × α)) (k : κ) (v : α) (k' : κ) : Al.get (Al.put m k v) k' = if k' = k then some v else Al.get m k' := by
  unfold Al.put
  by_cases hs : (Al.get m k).isSome
  · rw [if_pos hs, Al.get_repl]
    obtain ⟨u, hu⟩ := Option.isSome_iff_exists.1 hs
    rw [hu]
    rfl
  · rw [if_neg hs, Al.get_append, Al.get_cons]
    have hn : Al.get m k = none := by simpa using hs
    by_cases h' : k' = k
    · subst h'
      simp [hn]
    · simp [h', Ne.symm h', Al.get]
theorem Al.get_del (m : List (κ × α)) (k k' : κ) : Al.get (Al.del m k) k' = if k' = k then none else Al.get m k' := by
  induction m with
  | nil => simp [Al.get, Al.del]
  | cons p m ih =>
    unfold Al.del at ih ⊢
    by_cases h : p.1 = k
    · rw [List.filter_cons_of_neg (by simpa using h), ih, Al.get_cons]
      subst h
      by_cases h' : k' = p.1
      · simp [h']
      · simp [h', Ne.symm h']
    · rw [List.filter_cons_of_pos (by simpa using h), Al.get_cons, ih, Al.get_cons]
      by_cases h' : k' = k
      · subst h'
        simp [h]
      · simp [h']
theorem Al.put_keys (m : List (κ × α)) (k : κ) (v : α) : (Al.put m k v).map (·.1) = if (Al.get m k).isSome then m.map (·.1) else m.map (·.1) ++ [k] := by
  unfold Al.put
  split
  · rw [List.map_map]
    refine List.map_congr_left (fun p _ => ?_)
    simp only [Function.comp]
    split
    · rename_i h; exact h.symm
    · rfl
  · simp
theorem Al.put_nodup {m : List (κ × α)} (hn : (m.map (·.1)).Nodup) (k : κ) (v : α) : ((Al.put m k v).map (·.1)).Nodup := by
  rw [Al.put_keys]
  split
  · exact hn
  · rename_i h
    rw [List.nodup_append]
    refine ⟨hn, by simp, ?_⟩
    intro a ha b hb e
    simp at hb
    subst hb
    subst e
    exact h (Al.find_some.2 ha)
theorem Al.del_nodup {m : List (κ × α)} (hn : (m.map (·.1)).Nodup) (k : κ) : ((Al.del m k).map (·.1)).Nodup := hn.sublist ((List.filter_sublist).map _)
theorem Al.mem_put_iff {m : List (κ × α)} (hn : (m.map (·.1)).Nodup) (k : κ) (v : α) (p : κ × α) : p ∈ Al.put m k v ↔ p = (k, v) ∨ (p ∈ m ∧ p.1 ≠ k) := by
  refine ⟨Al.mem_put, fun h => ?_⟩
  obtain ⟨a, b⟩ := p
  rw [← Al.get_iff (Al.put_nodup hn k v), Al.get_put]
  rcases h with h | ⟨h1, h2⟩
  · cases h
    simp
  · simp only at h2
    rw [if_neg h2, Al.get_iff hn]
    exact h1
theorem Al.sum_repl (f : κ × α → Nat) (k : κ) (u v : α) : ∀ {m : List (κ × α)}, (m.map (·.1)).Nodup → Al.get m k = some u → ((m.map (fun p => if p.1 = k then (k, v) else p)).map f).sum + f (k, u) = (m.map f).sum + f (k, v)
  | [], _, hg => by simp [Al.get] at hg
  | p :: m, hn, hg => by
    simp only [List.map_cons, List.nodup_cons] at hn
    rw [Al.get_cons] at hg
    by_cases h : p.1 = k
    · rw [if_pos h] at hg
      cases hg
      subst h
      simp only [List.map_cons, if_true, List.sum_cons]
      have : m.map (fun q => if q.1 = p.1 then (p.1, v) else q) = m := by
        conv => rhs; rw [← List.map_id m]
        refine List.map_congr_left (fun q hq => ?_)
        rw [if_neg (fun e => hn.1 (List.mem_map.2 ⟨q, hq, e⟩))]
        rfl
      rw [this]
      have e : (p.1, p.2) = p := rfl
      rw [e]
      omega
    · rw [if_neg h] at hg
      have := Al.sum_repl f k u v hn.2 hg
      simp only [List.map_cons, if_neg h, List.sum_cons]
      omega
theorem Al.sum_put (f : κ × α → Nat) {m : List (κ × α)} (hn : (m.map (·.1)).Nodup) (k : κ) (v : α) : ((Al.put m k v).map f).sum + (match Al.get m k with | some u => f (k, u) | none => 0) = (m.map f).sum + f (k, v) := by
  cases hg : Al.get m k with
  | none =>
    have : Al.put m k v = m ++ [(k, v)] := by
      unfold Al.put
      rw [hg]
      rfl
    rw [this]
    simp
  | some u =>
    unfold Al.put
    rw [hg]
    exact Al.sum_repl f k u v hn hg
theorem Al.del_le (f : κ × α → Nat) : ∀ (m : List (κ × α)) (k : κ), ((Al.del m k).map f).sum ≤ (m.map f).sum
  | [], _ => by simp [Al.del]
  | p :: m, k => by
    have ih := Al.del_le f m k
    unfold Al.del at ih ⊢
    by_cases h : p.1 = k
    · rw [List.filter_cons_of_neg (by simpa using h)]
      simp only [List.map_cons, List.sum_cons]
      omega
    · rw [List.filter_cons_of_pos (by simpa using h)]
      simp only [List.map_cons, List.sum_cons]
      omega
end


def Sp.queue (x : Sp) : List Hold := x.up ++ x.rest
/-- one is granted -/
def Sp.give (x : Sp) (h : Hold) : Sp := ⟨Al.put x.holds h.1 h.2, wo x.up h.1, wo x.rest h.1⟩
def grantF : Nat → Sp → Sp × List Int
  | 0, x => (x, [])
  | n + 1, x => match x.queue with
    | [] => (x, [])
    | h :: _ => if canG x.holds h.1 h.2 then ((grantF n (x.give h)).1, h.1 :: (grantF n (x.give h)).2) else (x, [])
def grantS (x : Sp) : Sp × List Int := grantF x.queue.length x

theorem wo_le (L : List Hold) (who : Int) : (wo L who).length ≤ L.length := List.length_filter_le _ _
theorem give_lt {x : Sp} {h : Hold} {l : List Hold} (hq : x.queue = h :: l) : (x.give h).queue.length < x.queue.length := by
  have h1 : (x.give h).queue = wo x.queue h.1 := by
    simp [Sp.queue, Sp.give, wo]
  rw [h1]
  unfold wo
  refine List.length_filter_lt_length_iff_exists.2 ⟨h, by rw [hq]; simp, by simp⟩
theorem grantF_more : ∀ (n m : Nat) (x : Sp), x.queue.length ≤ n → x.queue.length ≤ m → grantF n x = grantF m x
  | 0, 0, _, _, _ => rfl
  | 0, m + 1, x, h, _ => by
    have : x.queue = [] := List.eq_nil_of_length_eq_zero (by omega)
    simp [grantF, this]
  | n + 1, 0, x, _, h => by
    have : x.queue = [] := List.eq_nil_of_length_eq_zero (by omega)
    simp [grantF, this]
  | n + 1, m + 1, x, h1, h2 => by
    unfold grantF
    cases hq : x.queue with
    | nil => rfl
    | cons h l =>
      have hl := give_lt hq
      rw [hq] at h1 h2 hl
      simp only
      split
      · rw [grantF_more n m (x.give h) (by simp at *; omega) (by simp at *; omega)]
      · rfl
theorem grantS_nil {x : Sp} (hq : x.queue = []) : grantS x = (x, []) := by simp [grantS, hq, grantF]
theorem grantS_stop {x : Sp} {h : Hold} {l : List Hold} (hq : x.queue = h :: l) (hc : canG x.holds h.1 h.2 = false) : grantS x = (x, []) := by
  unfold grantS
  rw [hq]
  simp [grantF, hq, hc]
theorem grantS_step {x : Sp} {h : Hold} {l : List Hold} (hq : x.queue = h :: l) (hc : canG x.holds h.1 h.2 = true) : grantS x = ((grantS (x.give h)).1, h.1 :: (grantS (x.give h)).2) := by
  have hl := give_lt hq
  unfold grantS
  rw [hq, List.length_cons]
  rw [hq, List.length_cons] at hl
  conv => lhs; unfold grantF
  rw [hq]
  simp only [hc, if_true]
  rw [grantF_more l.length (x.give h).queue.length (x.give h) (by omega) (Nat.le_refl _)]

def wokenS (S : St) : List Spot → St × List Int
  | [] => (S, [])
  | s :: l => match Al.get S.spots s with
    | none => wokenS S l
    | some x =>
      let g := grantS x
      let S1 : St := { S with spots := if g.1.holds = [] ∧ g.1.queue = [] then Al.del S.spots s else Al.put S.spots s g.1, waits := g.2.foldl Al.del S.waits }
      ((wokenS S1 l).1, g.2 ++ (wokenS S1 l).2)

/-- one spot is woken -/
def wakeS (S : St) (s : Spot) : St × List Int := match Al.get S.spots s with
  | none => (S, [])
  | some x => ({ S with spots := if (grantS x).1.holds = [] ∧ (grantS x).1.queue = [] then Al.del S.spots s else Al.put S.spots s (grantS x).1, waits := (grantS x).2.foldl Al.del S.waits }, (grantS x).2)
theorem wokenS_cons (S : St) (s : Spot) (l : List Spot) : wokenS S (s :: l) = ((wokenS (wakeS S s).1 l).1, (wakeS S s).2 ++ (wokenS (wakeS S s).1 l).2) := by
  conv => lhs; unfold wokenS
  unfold wakeS
  cases Al.get S.spots s with
  | none => simp
  | some x => rfl
theorem wokenS_snoc : ∀ (l : List Spot) (S : St) (s : Spot), wokenS S (l ++ [s]) = ((wakeS (wokenS S l).1 s).1, (wokenS S l).2 ++ (wakeS (wokenS S l).1 s).2)
  | [], S, s => by
    rw [List.nil_append, wokenS_cons]
    simp [wokenS]
  | t :: l, S, s => by
    rw [List.cons_append, wokenS_cons, wokenS_snoc l, wokenS_cons]
    simp

/-! ### how many are woken at most -/
def qS (S : St) : Nat := (S.spots.map (fun x => x.2.queue.length)).sum
theorem grantF_len : ∀ (n : Nat) (x : Sp), (grantF n x).2.length + (grantF n x).1.queue.length ≤ x.queue.length
  | 0, x => by simp [grantF]
  | n + 1, x => by
    unfold grantF
    cases hq : x.queue with
    | nil => simp [hq]
    | cons h l =>
      have h1 := give_lt hq
      have h2 := grantF_len n (x.give h)
      rw [hq] at h1
      simp only
      split
      · simp only [List.length_cons] at *
        omega
      · simp [hq]
theorem grantS_len (x : Sp) : (grantS x).2.length + (grantS x).1.queue.length ≤ x.queue.length := grantF_len _ x
theorem wake_len {S : St} (hn : (S.spots.map (·.1)).Nodup) (s : Spot) : (wakeS S s).2.length + qS (wakeS S s).1 ≤ qS S ∧ ((wakeS S s).1.spots.map (·.1)).Nodup := by
  unfold wakeS
  cases hx : Al.get S.spots s with
  | none => exact ⟨by simp, hn⟩
  | some x =>
    have hl := grantS_len x
    simp only
    by_cases he : (grantS x).1.holds = [] ∧ (grantS x).1.queue = []
    · simp only [if_pos he]
      have := Al.sum_del (fun p : Spot × Sp => p.2.queue.length) hn (Al.mem_of_get hx)
      refine ⟨?_, Al.del_nodup hn s⟩
      unfold qS
      simp only at this ⊢
      omega
    · simp only [if_neg he]
      have := Al.sum_put (fun p : Spot × Sp => p.2.queue.length) hn s (grantS x).1
      rw [hx] at this
      refine ⟨?_, Al.put_nodup hn s _⟩
      unfold qS
      simp only at this ⊢
      omega
theorem woken_len : ∀ (l : List Spot) {S : St}, (S.spots.map (·.1)).Nodup → (wokenS S l).2.length + qS (wokenS S l).1 ≤ qS S
  | [], _, _ => by simp [wokenS]
  | s :: l, S, hn => by
    rw [wokenS_cons]
    obtain ⟨h1, h2⟩ := wake_len hn s
    have := woken_len l h2
    simp only [List.length_append]
    omega
theorem qS_le (S : St) : qS S ≤ wtS S := by
  unfold qS wtS
  generalize S.spots = l
  induction l with
  | nil => simp
  | cons p l ih =>
    simp only [List.map_cons, List.sum_cons, Sp.queue, List.length_append] at *
    omega
end Go.Proofs.Ytmolmeamnmefeaa
