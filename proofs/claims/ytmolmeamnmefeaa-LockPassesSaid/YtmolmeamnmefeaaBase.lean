/- Maps as association lists in the model's own order, worlds that turn in some blocks alone: tools for the walks. -/
import Derived.WalkKit
import Derived.WalkLawsBesides
import Derived.WalkSpells
import Derived.Outline
import Derived.Deep.QuietTactic
import Derived.BigQuiet
import Derived.Lib.Hide
import Derived.Maps.RangeWalk
namespace Go.Proofs.Ytmolmeamnmefeaa
open Go.RowKit
open Go.MapKept (Stamped stamped_iff stamped_push stamped_modify stamped_erase stamped_empty)
open Go.ChangeMaps (setBlock heap_setBlock_same heap_setBlock_other)
open Go.Maps (Keyed)

theorem ret_bool {a b : Bool} (h : a = b) : Ending.returned (.bool a) = .returned (.bool b) := by rw [h]
theorem ret_int {k : IntKind} {a b : Int} (h : a = b) : Ending.returned (.int k a) = .returned (.int k b) := by rw [h]

/-! ### association lists -/
section
variable {κ α : Type} [DecidableEq κ]
def Al.get (m : List (κ × α)) (k : κ) : Option α := (m.find? (fun p => decide (p.1 = k))).map (·.2)
def Al.put (m : List (κ × α)) (k : κ) (v : α) : List (κ × α) := if (Al.get m k).isSome then m.map (fun p => if p.1 = k then (k, v) else p) else m ++ [(k, v)]
def Al.del (m : List (κ × α)) (k : κ) : List (κ × α) := m.filter (fun p => decide (p.1 ≠ k))

theorem Al.get_none {m : List (κ × α)} {k : κ} (h : ∀ p ∈ m, p.1 ≠ k) : Al.get m k = none := by
  unfold Al.get
  rw [List.find?_eq_none.2 (fun p hp => by simpa using h p hp)]
  rfl

theorem Al.get_some : ∀ {m : List (κ × α)} {k : κ} {v : α}, (m.map (·.1)).Nodup → (k, v) ∈ m → Al.get m k = some v
  | p :: m, k, v, hn, hm => by
    obtain ⟨h1, h2⟩ := List.nodup_cons.1 hn
    by_cases hk : p.1 = k
    · rcases List.mem_cons.1 hm with rfl | hm'
      · simp [Al.get]
      · exact absurd (List.mem_map.2 ⟨(k, v), hm', rfl⟩) (by rw [← hk]; exact h1)
    · rcases List.mem_cons.1 hm with rfl | hm'
      · exact absurd rfl hk
      · have := Al.get_some h2 hm'
        simpa [Al.get, hk] using this

theorem Al.mem_of_get {m : List (κ × α)} {k : κ} {v : α} (h : Al.get m k = some v) : (k, v) ∈ m := by
  unfold Al.get at h
  obtain ⟨p, hp, rfl⟩ := Option.map_eq_some_iff.1 h
  have h1 := List.mem_of_find?_eq_some hp
  have h2 := List.find?_some hp
  simp at h2
  subst h2
  exact h1

theorem Al.put_new {m : List (κ × α)} {k : κ} {v : α} (h : ∀ p ∈ m, p.1 ≠ k) : Al.put m k v = m ++ [(k, v)] := by
  unfold Al.put
  rw [Al.get_none h]
  rfl

theorem Al.map_set {k : κ} {v : α} : ∀ {m : List (κ × α)} {j : Nat} {u : α}, (m.map (·.1)).Nodup → m[j]? = some (k, u) → m.map (fun p => if p.1 = k then (k, v) else p) = m.set j (k, v)
  | p :: m, 0, u, hn, hj => by
    simp at hj
    subst hj
    obtain ⟨h1, h2⟩ := List.nodup_cons.1 hn
    simp only [List.map_cons, if_true, List.set_cons_zero, List.cons.injEq, true_and]
    conv => rhs; rw [← List.map_id m]
    refine List.map_congr_left (fun q hq => ?_)
    rw [if_neg]
    · rfl
    · intro e
      exact h1 (by rw [List.mem_map]; exact ⟨q, hq, e⟩)
  | p :: m, j + 1, u, hn, hj => by
    simp at hj
    obtain ⟨h1, h2⟩ := List.nodup_cons.1 hn
    have hne : p.1 ≠ k := fun e => h1 (by show p.1 ∈ _; rw [e, List.mem_map]; exact ⟨_, List.mem_of_getElem? hj, rfl⟩)
    simp only [List.map_cons, hne, if_false, List.set_cons_succ]
    rw [Al.map_set h2 hj]

theorem Al.put_old {m : List (κ × α)} {k : κ} {v u : α} {j : Nat} (hn : (m.map (·.1)).Nodup) (hj : m[j]? = some (k, u)) : Al.put m k v = m.set j (k, v) := by
  unfold Al.put
  rw [Al.get_some hn (List.mem_of_getElem? hj)]
  simp only [Option.isSome_some, if_true]
  exact Al.map_set hn hj

theorem Al.del_none {m : List (κ × α)} {k : κ} (h : ∀ p ∈ m, p.1 ≠ k) : Al.del m k = m := by
  unfold Al.del
  exact List.filter_eq_self.2 (fun p hp => by simpa using h p hp)

theorem Al.del_erase {k : κ} : ∀ {m : List (κ × α)} {j : Nat} {u : α}, (m.map (·.1)).Nodup → m[j]? = some (k, u) → Al.del m k = m.eraseIdx j
  | p :: m, 0, u, hn, hj => by
    simp at hj
    subst hj
    obtain ⟨h1, h2⟩ := List.nodup_cons.1 hn
    have : ∀ q ∈ m, q.1 ≠ k := fun q hq e => h1 (by rw [List.mem_map]; exact ⟨q, hq, e⟩)
    have e := Al.del_none this
    unfold Al.del at e ⊢
    simp only [List.filter_cons, ne_eq, not_true, decide_false, Bool.false_eq_true, if_false, List.eraseIdx_cons_zero]
    exact e
  | p :: m, j + 1, u, hn, hj => by
    simp at hj
    obtain ⟨h1, h2⟩ := List.nodup_cons.1 hn
    have hne : p.1 ≠ k := fun e => h1 (by show p.1 ∈ _; rw [e, List.mem_map]; exact ⟨_, List.mem_of_getElem? hj, rfl⟩)
    have e := Al.del_erase h2 hj
    unfold Al.del at e ⊢
    simp only [List.filter_cons, ne_eq, hne, not_false_eq_true, decide_true, if_true, List.eraseIdx_cons_succ]
    rw [e]
end

/-! ### a map's block -/
/-- How a map type's keys and elements stand in the model. -/
structure MT (P : Program) (t : TypeId) (κ α : Type) where
  k : TypeId
  e : TypeId
  K : Keyed P k
  ht : P.underlying t = some (.map k e)
  encK : κ → Value
  ok : κ → Prop
  hkey : ∀ x, ok x → ∃ l, keyOf P k (encK x) = some l
  inj : ∀ x y, encK x = encK y → x = y
  encV : α → Value
  zv : Value
  hz : ∀ w, (zeroValue e).run P w = .ok zv w

/-- Block b is a map that holds m, in the model's own order. -/
def MapAt {P : Program} {t : TypeId} {κ α : Type} (M : MT P t κ α) (w : World) (b : Nat) (m : List (κ × α)) : Prop :=
  ∃ es clock, w.heap[b]? = some (.map es clock) ∧ Stamped es clock ∧ es.toList.map (fun e => (e.key, e.val)) = m.map (fun p => (M.encK p.1, M.encV p.2)) ∧ ∀ p ∈ m, M.ok p.1

section
variable {P : Program} {t : TypeId} {κ α : Type} [DecidableEq κ] {M : MT P t κ α} {w : World} {b : Nat} {m : List (κ × α)}

omit [DecidableEq κ] in
theorem MapAt.lt (h : MapAt M w b m) : b < w.heap.size := by
  obtain ⟨es, clock, hb, _⟩ := h
  exact (Array.getElem?_eq_some_iff.1 hb).1

omit [DecidableEq κ] in
theorem MapAt.of_block {w' : World} (h : MapAt M w b m) (hb : w'.heap[b]? = w.heap[b]?) : MapAt M w' b m := by
  obtain ⟨es, clock, h1, r⟩ := h
  exact ⟨es, clock, hb.trans h1, r⟩

omit [DecidableEq κ] in
theorem MapAt.nodup (h : MapAt M w b m) : (m.map (·.1)).Nodup := by
  obtain ⟨es, clock, _, hs, he, _⟩ := h
  have h1 := hs.2.2
  have h2 : es.toList.map (·.key) = m.map (fun p => M.encK p.1) := by
    have := congrArg (List.map Prod.fst) he
    simpa [List.map_map, Function.comp_def] using this
  rw [h2] at h1
  have h3 : m.map (fun p => M.encK p.1) = (m.map (·.1)).map M.encK := by simp [List.map_map, Function.comp_def]
  rw [h3] at h1
  exact (List.pairwise_map.1 h1).imp (fun hne e => hne (by rw [e]))

omit [DecidableEq κ] in
theorem MapAt.keyOk (h : MapAt M w b m) : ∀ p ∈ m, M.ok p.1 := by
  obtain ⟨es, clock, _, _, _, hk⟩ := h
  exact hk

omit [DecidableEq κ] in
theorem MapAt.made (M : MT P t κ α) (w : World) : MapAt M (w.alloc (.map #[] 0)) w.heap.size [] :=
  ⟨#[], 0, (MapKept.heap_alloc w _).1, stamped_empty 0, rfl, by simp⟩

omit [DecidableEq κ] in
/-- an entry of the block, an entry of the list -/
theorem map_at {es : Array MapEntry} (he : es.toList.map (fun e => (e.key, e.val)) = m.map (fun p => (M.encK p.1, M.encV p.2))) {j : Nat} {e : MapEntry} (hj : es.toList[j]? = some e) :
    ∃ p, m[j]? = some p ∧ e.key = M.encK p.1 ∧ e.val = M.encV p.2 := by
  have h1 : (es.toList.map (fun e => (e.key, e.val)))[j]? = some (e.key, e.val) := by simp [List.getElem?_map, hj]
  rw [he, List.getElem?_map] at h1
  obtain ⟨p, hp, hq⟩ := Option.map_eq_some_iff.1 h1
  exact ⟨p, hp, (congrArg Prod.fst hq).symm, (congrArg Prod.snd hq).symm⟩

omit [DecidableEq κ] in
theorem MapAt.keys (h : ∀ p ∈ m, M.ok p.1) {es : Array MapEntry} (he : es.toList.map (fun e => (e.key, e.val)) = m.map (fun p => (M.encK p.1, M.encV p.2))) : ∀ e ∈ es.toList, ∃ l, keyOf P M.k e.key = some l := by
  intro e hm
  obtain ⟨j, hj⟩ := List.getElem?_of_mem hm
  obtain ⟨p, hp, hk, _⟩ := map_at he hj
  rw [hk]
  exact M.hkey p.1 (h p (List.mem_of_getElem? hp))

/-- What the model's search finds. -/
theorem map_find {es : Array MapEntry} {clock : Nat} (hs : Stamped es clock) (he : es.toList.map (fun e => (e.key, e.val)) = m.map (fun p => (M.encK p.1, M.encV p.2))) (hk : ∀ p ∈ m, M.ok p.1) (w : World) {x : κ} (hx : M.ok x) :
    ((Instr.findKey M.k (M.encK x) es.toList).run P w = .ok none w ∧ (∀ p ∈ m, p.1 ≠ x) ∧ ∀ e ∈ es.toList, e.key ≠ M.encK x) ∨
    ∃ j e v, (Instr.findKey M.k (M.encK x) es.toList).run P w = .ok (some (j, M.encV v)) w ∧ es.toList[j]? = some e ∧ e.key = M.encK x ∧ m[j]? = some (x, v) ∧ Al.get m x = some v := by
  obtain ⟨lx, hlx⟩ := M.hkey x hx
  have hn : (m.map (·.1)).Nodup := MapAt.nodup (M := M) (w := { heap := #[.map es clock], tape := fun _ _ => 0, drawn := 0, os := default, output := #[] }) (b := 0) ⟨es, clock, rfl, hs, he, hk⟩
  rcases M.K.find w hlx es.toList (MapAt.keys hk he) with ⟨h1, h2⟩ | ⟨j, e, h1, h2, h3⟩
  · refine Or.inl ⟨h1, fun p hp ep => ?_, h2⟩
    obtain ⟨j, hj⟩ := List.getElem?_of_mem hp
    have h4 : (es.toList.map (fun e => (e.key, e.val)))[j]? = some (M.encK p.1, M.encV p.2) := by rw [he, List.getElem?_map, hj]; rfl
    rw [List.getElem?_map] at h4
    obtain ⟨e, hej, hq⟩ := Option.map_eq_some_iff.1 h4
    exact h2 e (List.mem_of_getElem? hej) ((congrArg Prod.fst hq).trans (by rw [ep]))
  · obtain ⟨p, hp, hpk, hpv⟩ := map_at he h2
    have e1 : p.1 = x := M.inj _ _ (hpk.symm.trans h3)
    refine Or.inr ⟨j, e, p.2, by rw [← hpv]; exact h1, h2, h3, by rw [hp, ← e1], ?_⟩
    exact Al.get_some hn (by rw [← e1]; exact List.mem_of_getElem? hp)

/-- 'm[x]' -/
theorem MapAt.look (h : MapAt M w b m) {x : κ} (hx : M.ok x) : (Instr.lookup t (.map (some b)) (M.encK x) false).run P w = .ok (match Al.get m x with | some v => M.encV v | none => M.zv) w := by
  obtain ⟨es, clock, hb, hs, he, hk⟩ := h
  obtain ⟨lx, hlx⟩ := M.hkey x hx
  rcases map_find hs he hk w hx with ⟨h1, h2, _⟩ | ⟨j, e, v, h1, h2, h3, h4, h5⟩
  · rw [Al.get_none h2]
    simp [Instr.lookup, run_underlying M.ht, MapKept.run_getObj_map hb, M.K.check w _ hlx, h1, M.hz, Result.andThen]
  · rw [h5]
    simp [Instr.lookup, run_underlying M.ht, MapKept.run_getObj_map hb, M.K.check w _ hlx, h1, Result.andThen]

/-- 'v, ok := m[x]' -/
theorem MapAt.lookOk (h : MapAt M w b m) {x : κ} (hx : M.ok x) : (Instr.lookup t (.map (some b)) (M.encK x) true).run P w = .ok (match Al.get m x with | some v => .tuple #[M.encV v, .bool true] | none => .tuple #[M.zv, .bool false]) w := by
  obtain ⟨es, clock, hb, hs, he, hk⟩ := h
  obtain ⟨lx, hlx⟩ := M.hkey x hx
  rcases map_find hs he hk w hx with ⟨h1, h2, _⟩ | ⟨j, e, v, h1, h2, h3, h4, h5⟩
  · rw [Al.get_none h2]
    simp [Instr.lookup, run_underlying M.ht, MapKept.run_getObj_map hb, M.K.check w _ hlx, h1, M.hz, Result.andThen]
  · rw [h5]
    simp [Instr.lookup, run_underlying M.ht, MapKept.run_getObj_map hb, M.K.check w _ hlx, h1, Result.andThen]

omit [DecidableEq κ] in
/-- 'len(m)' -/
theorem MapAt.len (h : MapAt M w b m) (ty : TypeId) : (Builtin.len_ #[t] ty #[.map (some b)]).run P w = .ok (.int .i64 m.length) w := by
  obtain ⟨es, clock, hb, hs, he, hk⟩ := h
  have : es.size = m.length := by have := congrArg List.length he; simpa using this
  simp [Builtin.len_, run_underlying M.ht, MapKept.run_getObj_map hb, goInt, Result.andThen, this]

/-- 'm[x] = v' -/
theorem MapAt.store (h : MapAt M w b m) {x : κ} (hx : M.ok x) (v : α) : ∃ w', (Instr.mapUpdate t (.map (some b)) (M.encK x) (M.encV v)).run P w = .ok () w' ∧ MapAt M w' b (Al.put m x v) ∧ w.mapTurned w' b := by
  have hn := h.nodup
  obtain ⟨es, clock, hb, hs, he, hk⟩ := h
  obtain ⟨lx, hlx⟩ := M.hkey x hx
  have hok : ∀ p ∈ Al.put m x v, M.ok p.1 := by
    intro p hp
    unfold Al.put at hp
    split at hp
    · obtain ⟨q, hq, rfl⟩ := List.mem_map.1 hp
      split
      · exact hx
      · exact hk q hq
    · rcases List.mem_append.1 hp with hp | hp
      · exact hk p hp
      · simp at hp; rw [hp]; exact hx
  rcases map_find hs he hk w hx with ⟨h1, h2, h2'⟩ | ⟨j, e, u, h1, h2, h3, h4, h5⟩
  · refine ⟨setBlock w b (.map (es.push ⟨M.encK x, M.encV v, clock⟩) (clock + 1)), ?_, ⟨_, _, heap_setBlock_same hb _, stamped_push hs h2', ?_, hok⟩, ⟨es, clock, _, _, hb, rfl⟩⟩
    · simp [Instr.mapUpdate, run_underlying M.ht, MapKept.run_getObj_map hb, M.K.check w false hlx, h1, MapKept.run_setObj_map _ hb, Result.andThen, setBlock]
    · rw [Al.put_new h2]
      simp [he]
  · have hj : es[j]? = some e := by simpa using h2
    have hlist : (es.modify j (fun e' => { e' with key := M.encK x, val := M.encV v })).toList = es.toList.set j { e with key := M.encK x, val := M.encV v } := by rw [Array.toList_modify, ChangeMaps.modify_eq_set _ _ _ _ h2]
    refine ⟨setBlock w b (.map (es.modify j (fun e' => { e' with key := M.encK x, val := M.encV v })) clock), ?_, ⟨_, _, heap_setBlock_same hb _, stamped_modify hs _ _ (fun _ _ => rfl) (fun e' _ he' => ?_), ?_, hok⟩, ⟨es, clock, _, _, hb, rfl⟩⟩
    · simp [Instr.mapUpdate, run_underlying M.ht, MapKept.run_getObj_map hb, M.K.check w false hlx, h1, hj, h3, M.K.stays w hlx, MapKept.run_setObj_map _ hb, Result.andThen, setBlock]
    · rw [hj] at he'
      cases he'
      exact h3.symm
    · rw [hlist, List.map_set, he, Al.put_old hn h4, List.map_set]

/-- 'delete(m, x)' -/
theorem MapAt.drop (h : MapAt M w b m) {x : κ} (hx : M.ok x) (ty : TypeId) : ∃ w', (Builtin.delete_ #[t, M.k] ty #[.map (some b), M.encK x]).run P w = .ok (.tuple #[]) w' ∧ MapAt M w' b (Al.del m x) ∧ w.mapTurned w' b := by
  have hn := h.nodup
  obtain ⟨es, clock, hb, hs, he, hk⟩ := h
  obtain ⟨lx, hlx⟩ := M.hkey x hx
  have hok : ∀ p ∈ Al.del m x, M.ok p.1 := fun p hp => hk p (List.mem_filter.1 hp).1
  rcases map_find hs he hk w hx with ⟨h1, h2, h2'⟩ | ⟨j, e, u, h1, h2, h3, h4, h5⟩
  · refine ⟨setBlock w b (.map es clock), ?_, ⟨es, clock, heap_setBlock_same hb _, hs, ?_, hok⟩, ⟨es, clock, _, _, hb, rfl⟩⟩
    · simp [Builtin.delete_, run_underlying M.ht, MapKept.run_getObj_map hb, M.K.check w _ hlx, h1, MapKept.run_setObj_map _ hb, Result.andThen, setBlock]
    · rw [Al.del_none h2, he]
  · have hjs : j < es.size := by
      have := (List.getElem?_eq_some_iff.1 h2).1
      simpa using this
    have hsub : (es.eraseIdxIfInBounds j).toList = es.toList.eraseIdx j := by
      unfold Array.eraseIdxIfInBounds
      rw [dif_pos hjs]
      simp
    refine ⟨setBlock w b (.map (es.eraseIdxIfInBounds j) clock), ?_, ⟨_, clock, heap_setBlock_same hb _, stamped_erase hs j, ?_, hok⟩, ⟨es, clock, _, _, hb, rfl⟩⟩
    · simp [Builtin.delete_, run_underlying M.ht, MapKept.run_getObj_map hb, M.K.check w _ hlx, h1, MapKept.run_setObj_map _ hb, Result.andThen, setBlock]
    · rw [hsub, ChangeMaps.map_eraseIdx, he, Al.del_erase hn h4, ChangeMaps.map_eraseIdx]

omit [DecidableEq κ] in
theorem MapAt.drewN (h : MapAt M w b m) (n : Nat) : MapAt M (w.drewN n) b m := h

/-- 'm[x]' in a region that draws: the key is there -/
theorem MapAt.look_some (h : MapAt M w b m) {x : κ} (hx : M.ok x) {v : α} (hg : Al.get m x = some v) : ∀ n, (Instr.lookup t (.map (some b)) (M.encK x) false).run P (w.drewN n) = .ok (M.encV v) (w.drewN n) := fun n => by
  have := (h.drewN n).look hx
  rw [hg] at this
  exact this
theorem MapAt.look_none (h : MapAt M w b m) {x : κ} (hx : M.ok x) (hg : Al.get m x = none) : ∀ n, (Instr.lookup t (.map (some b)) (M.encK x) false).run P (w.drewN n) = .ok M.zv (w.drewN n) := fun n => by
  have := (h.drewN n).look hx
  rw [hg] at this
  exact this
theorem MapAt.lookOk_some (h : MapAt M w b m) {x : κ} (hx : M.ok x) {v : α} (hg : Al.get m x = some v) : ∀ n, (Instr.lookup t (.map (some b)) (M.encK x) true).run P (w.drewN n) = .ok (.tuple #[M.encV v, .bool true]) (w.drewN n) := fun n => by
  have := (h.drewN n).lookOk hx
  rw [hg] at this
  exact this
theorem MapAt.lookOk_none (h : MapAt M w b m) {x : κ} (hx : M.ok x) (hg : Al.get m x = none) : ∀ n, (Instr.lookup t (.map (some b)) (M.encK x) true).run P (w.drewN n) = .ok (.tuple #[M.zv, .bool false]) (w.drewN n) := fun n => by
  have := (h.drewN n).lookOk hx
  rw [hg] at this
  exact this
end

/-! ### ranging over a map -/
theorem filter_map_two {β γ δ : Type} {f : β → δ} {g : γ → δ} {p : β → Bool} {q : γ → Bool} : ∀ {L : List β} {l : List γ}, L.map f = l.map g → (∀ x ∈ L, ∀ y ∈ l, f x = g y → p x = q y) → (L.filter p).map f = (l.filter q).map g
  | [], [], _, _ => rfl
  | [], _ :: _, h, _ => by simp at h
  | _ :: _, [], h, _ => by simp at h
  | x :: L, y :: l, h, hp => by
    simp only [List.map_cons, List.cons.injEq] at h
    have h1 := filter_map_two h.2 (fun x hx y hy => hp x (by simp [hx]) y (by simp [hy]))
    have h2 := hp x (by simp) y (by simp) h.1
    simp only [List.filter_cons, h2]
    split
    · simp [h.1, h1]
    · exact h1

/-- Block b is a map that holds m; block r goes over it; 'left' is still to come. -/
def RangeAt {P : Program} {t : TypeId} {κ α : Type} (M : MT P t κ α) (w : World) (b r : Nat) (m left : List (κ × α)) : Prop :=
  ∃ es clock since seen c0, w.heap[b]? = some (.map es clock) ∧ Stamped es clock ∧ es.toList.map (fun e => (e.key, e.val)) = m.map (fun p => (M.encK p.1, M.encV p.2)) ∧ (∀ p ∈ m, M.ok p.1) ∧
    w.heap[r]? = some (.mapIter (some b) since seen c0) ∧ (∀ x ∈ es.toList, x.born < since) ∧ since ≤ c0 ∧ since ≤ clock ∧
    (leftOf es seen).toList.map (fun e => (e.key, e.val)) = left.map (fun p => (M.encK p.1, M.encV p.2)) ∧ left.Sublist m

section
variable {P : Program} {t : TypeId} {κ α : Type} [DecidableEq κ] {M : MT P t κ α} {w : World} {b r : Nat} {m left : List (κ × α)}

omit [DecidableEq κ] in
theorem RangeAt.map (h : RangeAt M w b r m left) : MapAt M w b m := by
  obtain ⟨es, clock, since, seen, c0, h1, h2, h3, h4, _⟩ := h
  exact ⟨es, clock, h1, h2, h3, h4⟩

omit [DecidableEq κ] in
theorem RangeAt.sub (h : RangeAt M w b r m left) : left.Sublist m := by
  obtain ⟨es, clock, since, seen, c0, _, _, _, _, _, _, _, _, _, h⟩ := h
  exact h

omit [DecidableEq κ] in
theorem RangeAt.lt (h : RangeAt M w b r m left) : r < w.heap.size := by
  obtain ⟨es, clock, since, seen, c0, _, _, _, _, hr, _⟩ := h
  exact (Array.getElem?_eq_some_iff.1 hr).1

omit [DecidableEq κ] in
theorem RangeAt.of_block {w' : World} (h : RangeAt M w b r m left) (hb : w'.heap[b]? = w.heap[b]?) (hr : w'.heap[r]? = w.heap[r]?) : RangeAt M w' b r m left := by
  obtain ⟨es, clock, since, seen, c0, h1, h2, h3, h4, h5, rest⟩ := h
  exact ⟨es, clock, since, seen, c0, hb.trans h1, h2, h3, h4, hr.trans h5, rest⟩

omit [DecidableEq κ] in
/-- 'range m' -/
theorem MapAt.range (h : MapAt M w b m) : (Instr.range t (.map (some b))).run P w = .ok (.pointer (some ⟨w.heap.size, 0, none⟩)) (w.alloc (.mapIter (some b) (match w.heap[b]? with | some (.map _ c) => c | _ => 0) #[] (match w.heap[b]? with | some (.map _ c) => c | _ => 0))) ∧
    RangeAt M (w.alloc (.mapIter (some b) (match w.heap[b]? with | some (.map _ c) => c | _ => 0) #[] (match w.heap[b]? with | some (.map _ c) => c | _ => 0))) b w.heap.size m m := by
  have hlt := h.lt
  obtain ⟨es, clock, hb, hs, he, hk⟩ := h
  rw [hb]
  refine ⟨run_range_map w t M.k M.e b es clock M.ht hb, ⟨es, clock, clock, #[], clock, ((MapKept.heap_alloc w _).2 b hlt).trans hb, hs, he, hk, (MapKept.heap_alloc w _).1, hs.1, Nat.le_refl _, Nat.le_refl _, ?_, List.Sublist.refl _⟩⟩
  have e1 : (leftOf es #[]).toList = es.toList := by
    unfold leftOf
    rw [Array.toList_filter]
    exact List.filter_eq_self.2 (fun x _ => by simp)
  rw [e1]
  exact he

/-- The step. -/
theorem RangeAt.next (h : RangeAt M w b r m left) (ty : TypeId) :
    (left = [] ∧ (Instr.next (.pointer (some ⟨r, 0, none⟩)) false ty).run P w = .ok (.tuple #[.bool false]) w) ∨
    ∃ p w', p ∈ left ∧ (Instr.next (.pointer (some ⟨r, 0, none⟩)) false ty).run P w = .ok (.tuple #[.bool true, M.encK p.1, M.encV p.2]) w' ∧ RangeAt M w' b r m (Al.del left p.1) ∧ (Al.del left p.1).length < left.length ∧
      w.grownBy w' (some r) ∧ w'.heap.size = w.heap.size ∧ (Instr.entry (.pointer (some ⟨r, 0, none⟩))).run P w' = .ok (.tuple #[M.encK p.1, M.encV p.2]) w' := by
  obtain ⟨es, clock, since, seen, c0, hb, hs, he, hk, hr, hold, hsc, hsk, hl, hsub⟩ := h
  have hne : r ≠ b := by
    intro e
    rw [e, hb] at hr
    cases hr
  rcases run_next_at (P := P) w ty r b since c0 seen es clock hr hb hold hsc with ⟨h0, hrun⟩ | ⟨e, hem', w1, hal, hrun⟩
  · refine Or.inl ⟨?_, hrun⟩
    have : left.length = 0 := by
      have := congrArg List.length hl
      simp at this
      omega
    exact List.length_eq_zero_iff.1 this
  · obtain ⟨hem, hes⟩ := mem_left hem'
    obtain ⟨j, hj⟩ := List.getElem?_of_mem hem'
    obtain ⟨p, hp, hpk, hpv⟩ := map_at (M := M) hl hj
    have hpm := List.mem_of_getElem? hp
    have hr1 : w1.heap[r]? = some (.mapIter (some b) since seen c0) := by rcases hal with rfl | rfl <;> exact hr
    have hb1 : w1.heap[b]? = some (.map es clock) := by rcases hal with rfl | rfl <;> exact hb
    have hset := MapKept.heap_set (o' := .mapIter (some b) since (seen.push e.born) clock) hr1
    have hb' : (setBlock w1 r (.mapIter (some b) since (seen.push e.born) clock)).heap[b]? = some (.map es clock) := (hset.2 b (fun e1 => hne e1.symm)).trans hb1
    have hst := (stamped_iff es clock).1 hs
    have e1 : (leftOf es (seen.push e.born)).toList = (leftOf es seen).toList.filter (fun x => !(x.born == e.born)) := by
      unfold leftOf
      simp only [Array.toList_filter, List.filter_filter]
      refine List.filter_congr (fun x _ => ?_)
      rw [contains_push]
      cases seen.contains x.born <;> cases (x.born == e.born) <;> rfl
    have hnew : (leftOf es (seen.push e.born)).toList.map (fun e => (e.key, e.val)) = (Al.del left p.1).map (fun p => (M.encK p.1, M.encV p.2)) := by
      rw [e1]
      unfold Al.del
      refine filter_map_two hl (fun x hx y hy hxy => ?_)
      obtain ⟨hx1, _⟩ := mem_left hx
      have hk1 : x.key = M.encK y.1 := congrArg Prod.fst hxy
      by_cases hxe : x.born = e.born
      · obtain rfl := born_inj hst.2.1 hx1 hem hxe
        have : y.1 = p.1 := M.inj _ _ (hk1.symm.trans hpk)
        simp [this]
      · have h2 : y.1 ≠ p.1 := fun ey => hxe (congrArg MapEntry.born (entry_eq_of_key hst.2.2 hx1 hem (by rw [hk1, ey, hpk])))
        simp [hxe, h2]
    refine Or.inr ⟨p, setBlock w1 r (.mapIter (some b) since (seen.push e.born) clock), hpm, ?_, ⟨es, clock, since, seen.push e.born, clock, hb', hs, he, hk, hset.1, hold, hsk, hsk, hnew, (List.filter_sublist).trans hsub⟩, ?_, ?_, ?_, ?_⟩
    · rw [hrun, hpk, hpv]
    · unfold Al.del
      refine List.length_filter_lt_length_iff_exists.2 ⟨p, hpm, by simp⟩
    · rcases hal with rfl | rfl <;> exact ⟨rfl, rfl, rfl, by simp [setBlock], fun i _ hi => hset.2 i (fun e1 => hi (by rw [e1]))⟩
    · rcases hal with rfl | rfl <;> simp [setBlock]
    · rw [run_entry_at _ r b since seen es clock e hset.1 hb' hem hst.2.1, hpk, hpv]
end

/-- The loop's measure. -/
theorem RangeAt.toCome {P : Program} {t : TypeId} {κ α : Type} {M : MT P t κ α} {w : World} {b r : Nat} {m left : List (κ × α)} (h : RangeAt M w b r m left) : w.rangeLeft b r = left.length := by
  obtain ⟨es, clock, since, seen, c0, hb, hs, he, hk, hr, hold, hsc, hsk, hl, hsub⟩ := h
  simp only [World.rangeLeft, hb, hr]
  have := congrArg List.length hl
  simpa using this

/-! ### laws at the operations, for the walk -/
section
variable {P : Program} {t : TypeId} {κ α : Type} [DecidableEq κ] (M : MT P t κ α) (w : World) {ops : Array Oper} {rest : List Oper} {o : Oper} {a : Act} {Q : Exit → Act → World → Prop}

theorem wpList_store_at (hg : o.guard = none) (mo xo vo : Operand) (hop : o.op = Op.mapUpdate t mo xo vo) (b : Nat) (m : List (κ × α)) (hm : a.eval mo = .map (some b)) (h : MapAt M w b m)
    (x : κ) (v : α) (hx : M.ok x) (hxe : a.eval xo = M.encK x) (hve : a.eval vo = M.encV v) (hK : ∀ w', MapAt M w' b (Al.put m x v) → w.mapTurned w' b → wpList P ops Q rest (a.put o.dst undef) w') : wpList P ops Q (o :: rest) a w := by
  refine wpList_plain hg fun K' hK' => ?_
  obtain ⟨w', hrun, r1, r2⟩ := h.store hx v
  unfold Oper.wp
  simp [execOp, hop, hm, hxe, hve, hrun, Result.andThen]
  exact hK' _ _ (hK w' r1 r2)

theorem wpList_delete_at (hg : o.guard = none) (mo xo : Operand) (k : TypeId) (hk : k = M.k) (hop : o.op = Op.call { callee := Callee.builtin Builtin.delete, args := #[mo, xo], argTypes := #[t, k] }) (b : Nat) (m : List (κ × α)) (hm : a.eval mo = .map (some b)) (h : MapAt M w b m)
    (x : κ) (hx : M.ok x) (hxe : a.eval xo = M.encK x) (hK : ∀ w', MapAt M w' b (Al.del m x) → w.mapTurned w' b → wpList P ops Q rest (a.put o.dst (.tuple #[])) w') : wpList P ops Q (o :: rest) a w := by
  subst hk
  refine wpList_plain hg fun K' hK' => ?_
  obtain ⟨w', hrun, r1, r2⟩ := h.drop hx o.type
  unfold Oper.wp
  simp [execOp, hop, resolve, invoke, builtin, hm, hxe, hrun, Result.andThen]
  exact hK' _ _ (hK w' r1 r2)

omit [DecidableEq κ] in
theorem wpList_range_at (hg : o.guard = none) (mo : Operand) (hop : o.op = Op.range t mo) (b : Nat) (m : List (κ × α)) (hm : a.eval mo = .map (some b)) (h : MapAt M w b m)
    (hK : ∀ w', RangeAt M w' b w.heap.size m m → w.grownBy w' none → w'.heap.size = w.heap.size + 1 → wpList P ops Q rest (a.put o.dst (.pointer (some ⟨w.heap.size, 0, none⟩))) w') : wpList P ops Q (o :: rest) a w := by
  refine wpList_plain hg fun K' hK' => ?_
  obtain ⟨hrun, r1⟩ := h.range
  unfold Oper.wp
  simp [execOp, hop, hm, hrun, Result.andThen]
  exact hK' _ _ (hK _ r1 (World.grownBy_alloc w _ none) (by simp))

theorem wpList_next_at (hg : o.guard = none) (it : Operand) (hop : o.op = Op.next it false) (b r : Nat) (m left : List (κ × α)) (hit : a.eval it = .pointer (some ⟨r, 0, none⟩)) (h : RangeAt M w b r m left)
    (hDone : left = [] → wpList P ops Q rest (a.put o.dst (.tuple #[.bool false])) w)
    (hMore : ∀ p w', p ∈ left → RangeAt M w' b r m (Al.del left p.1) → (Al.del left p.1).length < left.length → w.grownBy w' (some r) → w'.heap.size = w.heap.size →
      (Instr.entry (.pointer (some ⟨r, 0, none⟩))).run P w' = .ok (.tuple #[M.encK p.1, M.encV p.2]) w' → wpList P ops Q rest (a.put o.dst (.tuple #[.bool true, M.encK p.1, M.encV p.2])) w') : wpList P ops Q (o :: rest) a w := by
  refine wpList_plain hg fun K' hK' => ?_
  unfold Oper.wp
  rcases h.next o.type with ⟨hl, hrun⟩ | ⟨p, w', hp, hrun, hrg, hlt, hgr, hsz, hen⟩
  · simp [execOp, hop, hit, hrun, Result.andThen]
    exact hK' _ _ (hDone hl)
  · simp [execOp, hop, hit, hrun, Result.andThen]
    exact hK' _ _ (hMore p w' hp hrg hlt hgr hsz hen)
end
end Go.Proofs.Ytmolmeamnmefeaa
