/- Slices that own a row of structs: reading, storing, appending, cutting. -/
import Derived.Test.YtmolmeamnmefeaaBase
import Derived.Maps.AppendAt
import Derived.OwnWalkIn
import Derived.Laws.AppendOwnNone
import Derived.Lib.SliceRun
namespace Go.Proofs.Ytmolmeamnmefeaa
open Go.RowKit

/-- An element type: how many cells, and which. -/
structure ET (P : Program) (e : TypeId) (α : Type) where
  k : Nat
  hk : 0 < k
  enc : α → List Value
  len : ∀ x, (enc x).length = k
  one : ∀ x, ∀ u ∈ enc x, u.oneCell' = true
  i : TypeInfo
  z : Value
  bytes : Nat
  hi : P.info? e = some i
  hz : i.zero = some z
  hsize : i.size = k
  hby : i.bytes = bytes
  hzs : z.cells.size = k

section
variable {α : Type} {enc : α → List Value} {k : Nat}

theorem flat_length (hl : ∀ x, (enc x).length = k) : ∀ L : List α, (L.flatMap enc).length = L.length * k
  | [] => by simp
  | x :: L => by
    rw [List.flatMap_cons, List.length_append, hl, flat_length hl L, List.length_cons, Nat.succ_mul]
    omega

theorem flat_get (hl : ∀ x, (enc x).length = k) : ∀ (L : List α) (i j : Nat), j < k → (L.flatMap enc)[i * k + j]? = (L[i]?).bind (fun x => (enc x)[j]?)
  | [], i, j, _ => by simp
  | x :: L, 0, j, hj => by
    rw [List.flatMap_cons, List.getElem?_append_left (by rw [hl]; omega)]
    simp
  | x :: L, i + 1, j, hj => by
    rw [List.flatMap_cons, List.getElem?_append_right (by rw [hl, Nat.succ_mul]; omega), hl]
    have : (i + 1) * k + j - k = i * k + j := by rw [Nat.succ_mul]; omega
    rw [this, flat_get hl L i j hj]
    simp

theorem flat_take (hl : ∀ x, (enc x).length = k) (L : List α) (n : Nat) : (L.flatMap enc).take (n * k) = (L.take n).flatMap enc := by
  induction L generalizing n with
  | nil => simp
  | cons x L ih =>
    cases n with
    | zero => simp
    | succ n =>
      rw [List.flatMap_cons, List.take_append, hl, List.take_succ_cons, List.flatMap_cons, Nat.succ_mul, List.take_of_length_le (by rw [hl]; omega)]
      have : n * k + k - k = n * k := by omega
      rw [this, ih]

theorem flat_set1 {f : α → Value} : ∀ (L : List α) (i : Nat) (x : α), (L.flatMap (fun y => [f y])).set i (f x) = (L.set i x).flatMap (fun y => [f y])
  | [], i, x => by simp
  | y :: L, 0, x => by simp
  | y :: L, i + 1, x => by simp [flat_set1 L i x]

theorem flat_set2 {f g : α → Value} : ∀ (L : List α) (i : Nat) (x : α), ((L.flatMap (fun y => [f y, g y])).set (i * 2) (f x)).set (i * 2 + 1) (g x) = (L.set i x).flatMap (fun y => [f y, g y])
  | [], i, x => by simp
  | y :: L, 0, x => by simp
  | y :: L, i + 1, x => by
    have h1 : (i + 1) * 2 = i * 2 + 1 + 1 := by omega
    rw [h1]
    simp [flat_set2 L i x]

theorem flat_set3 {f g h : α → Value} : ∀ (L : List α) (i : Nat) (x : α), (((L.flatMap (fun y => [f y, g y, h y])).set (i * 3) (f x)).set (i * 3 + 1) (g x)).set (i * 3 + 2) (h x) = (L.set i x).flatMap (fun y => [f y, g y, h y])
  | [], i, x => by simp
  | y :: L, 0, x => by simp
  | y :: L, i + 1, x => by
    have h1 : (i + 1) * 3 = i * 3 + 1 + 1 + 1 := by omega
    rw [h1]
    simp [flat_set3 L i x]
end

section
variable {P : Program} {e : TypeId} {α : Type}

/-- The slice v owns a row that holds L. -/
def Row (E : ET P e α) (w : World) (base : Nat) (v : Value) (L : List α) : Prop := w.ownsRow base e E.k v L.length (L.flatMap E.enc)

variable {E : ET P e α} {w : World} {base : Nat} {v : Value} {L : List α}

theorem Row.nil (E : ET P e α) (w : World) (base : Nat) : Row E w base (.slice none 0 0) [] := World.ownsRow_nil w base e E.k

theorem Row.lt (h : Row E w base v L) : ∀ b, v.ownBlock = some b → base ≤ b ∧ b < w.heap.size := World.ownsRow.lt h

theorem Row.of_block {w' : World} (h : Row E w base v L) (hb : ∀ b, v.ownBlock = some b → w'.heap[b]? = w.heap[b]?) : Row E w' base v L := by
  refine ⟨h.1, ?_⟩
  rcases h.2 with hn | ⟨g, cap, cur, rfl, hg, hh, r⟩
  · exact Or.inl hn
  · exact Or.inr ⟨g, cap, cur, rfl, hg, (hb g rfl).trans hh, r⟩

theorem Row.mono (h : Row E w base v L) {base' : Nat} (hb : base' ≤ base) : Row E w base' v L := by
  refine ⟨h.1, ?_⟩
  rcases h.2 with hn | ⟨g, cap, cur, rfl, hg, hh, r⟩
  · exact Or.inl hn
  · exact Or.inr ⟨g, cap, cur, rfl, Nat.le_trans hb hg, hh, r⟩

/-- base does not matter but for what it bounds -/
theorem Row.rebase (h : Row E w base v L) {base' : Nat} (hb : ∀ b, v.ownBlock = some b → base' ≤ b) : Row E w base' v L := by
  refine ⟨h.1, ?_⟩
  rcases h.2 with hn | ⟨g, cap, cur, rfl, hg, hh, r⟩
  · exact Or.inl hn
  · exact Or.inr ⟨g, cap, cur, rfl, hb g rfl, hh, r⟩

/-- nil, or a row whose cells are known -/
theorem Row.shape (h : Row E w base v L) : (v = .slice none 0 0 ∧ L = []) ∨
    ∃ g cap, v = .slice (some ⟨g, 0, none⟩) L.length cap ∧ base ≤ g ∧ g < w.heap.size ∧ L.length ≤ cap ∧ cap ≤ maxLen ∧
      (∀ i j, (hi : i < L.length) → j < E.k → w.cell? ⟨g, i * E.k + j, none⟩ = (E.enc L[i])[j]?) ∧ ∀ j, w.frozen? ⟨g, j, none⟩ = false := by
  have hl := h.1
  rcases h.2 with ⟨rfl, hn⟩ | ⟨g, cap, cur, rfl, hg, hh, hnc, hcm, hcs, htake⟩
  · exact Or.inl ⟨rfl, List.eq_nil_of_length_eq_zero hn⟩
  · refine Or.inr ⟨g, cap, rfl, hg, (Array.getElem?_eq_some_iff.1 hh).1, hnc, hcm, fun i j hi hj => ?_, fun j => World.ownsRow.frozenAt h j⟩
    have h1 : i * E.k + j < L.length * E.k := by
      have : (i + 1) * E.k ≤ L.length * E.k := Nat.mul_le_mul_right _ hi
      rw [Nat.succ_mul] at this
      omega
    rw [World.ownsRow.cellAt h (i * E.k + j) h1, flat_get E.len L i j hj, List.getElem?_eq_getElem hi]
    rfl

theorem Row.len_le (h : Row E w base v L) : L.length ≤ maxLen := by
  rcases h.shape with ⟨_, rfl⟩ | ⟨g, cap, _, _, _, h1, h2, _⟩
  · exact Nat.zero_le _
  · exact Nat.le_trans h1 h2

theorem Row.lenN {g n cap : Nat} (h : Row E w base (.slice (some ⟨g, 0, none⟩) n cap) L) : L.length = n := by
  rcases h.shape with ⟨h', _⟩ | ⟨_, _, h', _⟩
  · simp at h'
  · simp only [Value.slice.injEq] at h'
    exact h'.2.1.symm

theorem Row.at {g n cap : Nat} (h : Row E w base (.slice (some ⟨g, 0, none⟩) n cap) L) (i j : Nat) (hi : i < L.length) (hj : j < E.k) : w.cell? ⟨g, i * E.k + j, none⟩ = (E.enc L[i])[j]? := by
  rcases h.shape with ⟨h', _⟩ | ⟨g', _, h', _, _, _, _, hc, _⟩
  · simp at h'
  · simp only [Value.slice.injEq, Option.some.injEq, Addr.mk.injEq, and_true] at h'
    obtain ⟨rfl, _⟩ := h'
    exact hc i j hi hj

theorem Row.frozenN {g n cap : Nat} (h : Row E w base (.slice (some ⟨g, 0, none⟩) n cap) L) (j : Nat) : w.frozen? ⟨g, j, none⟩ = false := by
  rcases h.shape with ⟨h', _⟩ | ⟨g', _, h', _, _, _, _, _, hf⟩
  · simp at h'
  · simp only [Value.slice.injEq, Option.some.injEq, Addr.mk.injEq, and_true] at h'
    obtain ⟨rfl, _⟩ := h'
    exact hf j

theorem Row.take {g n cap : Nat} (h : Row E w base (.slice (some ⟨g, 0, none⟩) n cap) L) {i : Nat} (hi : i ≤ L.length) : Row E w base (.slice (some ⟨g, 0, none⟩) i cap) (L.take i) := by
  refine ⟨by rw [flat_length E.len], ?_⟩
  rcases h.2 with ⟨h', _⟩ | ⟨g', cap', cur, h', hg, hh, hnc, hcm, hcs, htake⟩
  · simp at h'
  · simp only [Value.slice.injEq, Option.some.injEq, Addr.mk.injEq, and_true] at h'
    obtain ⟨rfl, rfl, rfl⟩ := h'
    have hlen : (L.take i).length = i := by simp [Nat.min_eq_left hi]
    refine Or.inr ⟨g, cap, cur, by rw [hlen], hg, hh, by rw [hlen]; omega, hcm, hcs, ?_⟩
    have h2 : (cur.toList.take (L.length * E.k)).take (i * E.k) = (L.flatMap E.enc).take (i * E.k) := by rw [htake]
    rw [List.take_take, Nat.min_eq_left (Nat.mul_le_mul_right _ hi), flat_take E.len] at h2
    rw [hlen]
    exact h2

/-- 'len' of a row, whatever the value -/
theorem Row.len_run {t : TypeId} (h : Row E w base v L) (ht : P.underlying t = some (.slice e)) : ∀ (ty : TypeId) (w' : World), (Builtin.len_ #[t] ty #[v]).run P w' = .ok (.int .i64 L.length) w' := by
  intro ty w'
  rcases h.shape with ⟨rfl, rfl⟩ | ⟨g, cap, rfl, _⟩
  · simp [Builtin.len_, run_underlying ht, goInt, Result.andThen]
  · simp [Builtin.len_, run_underlying ht, goInt, Result.andThen]

theorem ownsRow_shape {size n : Nat} {xs : List Value} {v : Value} (h : w.ownsRow base e size v n xs) (hn : 0 < n) : ∃ g cap, v = .slice (some ⟨g, 0, none⟩) n cap := by
  rcases h.2 with ⟨_, h0⟩ | ⟨g, cap, cur, rfl, _⟩
  · omega
  · exact ⟨g, cap, rfl⟩
end

section
variable {P : Program} {e : TypeId} {α : Type} {E : ET P e α} {w : World} {base : Nat}
/-- one cell of a row is written -/
theorem Row.stored {g n cap : Nat} {xs : List Value} (h : w.ownsRow base e E.k (.slice (some ⟨g, 0, none⟩) n cap) n xs) (j : Nat) (u : Value) :
    (w.setCell ⟨g, j, none⟩ u).ownsRow base e E.k (.slice (some ⟨g, 0, none⟩) n cap) n (xs.set j u) ∧ w.grownBy (w.setCell ⟨g, j, none⟩ u) (some g) := World.ownsRow.stored h j u
end

/-- append at the operation: what is appended lies at 'ad' -/
theorem wpList_append_row {P : Program} {e : TypeId} {α : Type} (E : ET P e α) (w : World) {ops : Array Oper} {rest : List Oper} {o : Oper} {a : Act} {Q : Exit → Act → World → Prop} (hgd : o.guard = none) (s x : Operand) (t : TypeId)
    (ho : o.op = .call { callee := .builtin .append, args := #[s, x], argTypes := #[t, t] }) (ht : P.underlying t = some (.slice e))
    (base : Nat) (v : Value) (L : List α) (hs : a.eval s = v) (hown : Row E w base v L)
    (ad : Addr) (c : Nat) (M : List α) (m : Nat) (hm : M.length = m) (hx : a.eval x = .slice (some ad) m c) (hnews : ∀ j u, (M.flatMap E.enc)[j]? = some u → w.cell? (ad.add j) = some u)
    (hbytes : (L.length + m) * E.bytes ≤ 140737488355328) (h63 : L.length + m ≤ maxLen) (hbase : base ≤ w.heap.size)
    (h : ∀ v' w', Row E w' base v' (L ++ M) → w.grownBy w' v.ownBlock → (v'.ownBlock = v.ownBlock ∨ v'.ownBlock = some w.heap.size) → wpList P ops Q rest (a.put o.dst v') w') :
    wpList P ops Q (o :: rest) a w := by
  subst hm
  refine wpList_append_own_at w hgd s x t ho base e E.i E.z E.k E.bytes ht E.hi E.hz E.hsize E.hby E.hzs E.hk v L.length (L.flatMap E.enc) hs hown ad M.length c (M.flatMap E.enc) hx (flat_length E.len M) hnews ?_ h63 hbytes hbase ?_
  · intro u hu
    obtain ⟨y, _, hy⟩ := List.mem_flatMap.1 hu
    exact E.one y u hy
  · intro v' w' h1 h2 _ h4
    refine h v' w' ?_ h2 h4
    unfold Row
    rw [List.length_append, List.flatMap_append]
    exact h1

/-- append of another row, whatever it is -/
theorem wpList_append_rows {P : Program} {e : TypeId} {α : Type} (E : ET P e α) (w : World) {ops : Array Oper} {rest : List Oper} {o : Oper} {a : Act} {Q : Exit → Act → World → Prop} (hgd : o.guard = none) (s x : Operand) (t : TypeId)
    (ho : o.op = .call { callee := .builtin .append, args := #[s, x], argTypes := #[t, t] }) (ht : P.underlying t = some (.slice e))
    (base : Nat) (v : Value) (L : List α) (hs : a.eval s = v) (hown : Row E w base v L)
    (base' : Nat) (v2 : Value) (M : List α) (hx : a.eval x = v2) (hsrc : Row E w base' v2 M)
    (hbytes : (L.length + M.length) * E.bytes ≤ 140737488355328) (h63 : L.length + M.length ≤ maxLen) (hbase : base ≤ w.heap.size)
    (h : ∀ v' w', Row E w' base v' (L ++ M) → w.grownBy w' v.ownBlock → (v'.ownBlock = v.ownBlock ∨ v'.ownBlock = some w.heap.size) → wpList P ops Q rest (a.put o.dst v') w') :
    wpList P ops Q (o :: rest) a w := by
  rcases hsrc.shape with ⟨rfl, rfl⟩ | ⟨g, cap, rfl, _⟩
  · refine wpList_plain hgd fun K hK => ?_
    have hr := run_append_owned_none (P := P) w base t o.type e E.i E.k ht E.hi v L.length (L.flatMap E.enc) hown
    unfold Oper.wp execOp
    simp only [ho, resolve, invoke, builtin, Sem.run_bind, Sem.run_pure, Result.andThen_ok, List.map_toArray, List.map_cons, List.map_nil, hs, hx, hr]
    refine hK _ _ (h v w ?_ ⟨rfl, rfl, rfl, Nat.le_refl _, fun _ _ _ => rfl⟩ (Or.inl rfl))
    rw [List.append_nil]
    exact hown
  · refine wpList_append_row E w hgd s x t ho ht base v L hs hown ⟨g, 0, none⟩ cap M M.length rfl hx (fun j u hj => ?_) hbytes h63 hbase h
    have hcells := World.ownsRow.cells (g := g) hsrc rfl j u hj
    exact hcells

/-- 'clear(s[i:])' -/
theorem run_clear_row {P : Program} {e t : TypeId} {α : Type} (E : ET P e α) {w : World} {base g cap n : Nat} {L : List α} (h : Row E w base (.slice (some ⟨g, 0, none⟩) n cap) L) (ht : P.underlying t = some (.slice e))
    (hv : ∀ w, (zeroValue e).run P w = .ok E.z w) (hz1 : ∀ u ∈ E.z.cells.toList, u.oneCell' = true) (i m c : Nat) (him : i + m ≤ n) (hm : 0 < m) (ty : TypeId) :
    ∃ w', (Builtin.clear_ #[t] ty #[.slice (some ⟨g, i * E.k, none⟩) m c]).run P w = .ok (.tuple #[]) w' ∧ Row E w' base (.slice (some ⟨g, 0, none⟩) i cap) (L.take i) ∧ w.grownBy w' (some g) := by
  have hn : n = L.length := by
    rcases h.shape with ⟨h', _⟩ | ⟨_, _, h', _⟩
    · simp at h'
    · simp only [Value.slice.injEq] at h'
      exact h'.2.1
  subst hn
  have hlen : (L.take i).length = i := by simp; omega
  rcases h.2 with ⟨h', _⟩ | ⟨g', cap', cur, h', hg, hh, hnc, hcm, hcs, htake⟩
  · simp at h'
  simp only [Value.slice.injEq, Option.some.injEq, Addr.mk.injEq, and_true, true_and] at h'
  obtain ⟨rfl, rfl⟩ := h'
  have hzl : (Builtin.zeroCells E.z.cells m).toList.length = m * E.k := by rw [Array.length_toList, size_zeroCells, E.hzs]
  have hle : (i + m) * E.k ≤ cur.size := by rw [hcs]; exact Nat.mul_le_mul_right _ (by omega)
  have h1 : ∀ u ∈ (Builtin.zeroCells E.z.cells m).toList, u.oneCell' = true := by
    intro u hu
    unfold Builtin.zeroCells at hu
    simp only [Array.toList_map, List.mem_map] at hu
    obtain ⟨j, _, rfl⟩ := hu
    have hlt : j % E.z.cells.size < E.z.cells.size := Nat.mod_lt _ (by rw [E.hzs]; exact E.hk)
    rw [getElem!_pos E.z.cells (j % E.z.cells.size) hlt]
    exact hz1 _ (by simp)
  have hst := run_storeCells_at P g (i * E.k) e (Builtin.zeroCells E.z.cells m).toList 0 cur w hh (by rw [hzl, Nat.add_zero, ← Nat.add_mul]; exact hle) h1
  simp only [Nat.add_zero] at hst
  refine ⟨w.setRow g (cur.toList.take (i * E.k) ++ (Builtin.zeroCells E.z.cells m).toList ++ cur.toList.drop (i * E.k + (Builtin.zeroCells E.z.cells m).toList.length)).toArray, ?_, ⟨by rw [hlen, flat_length E.len, hlen], Or.inr ⟨g, cap, _, by rw [hlen], hg, setRow_heap w g cur _ e _ hh, by rw [hlen]; omega, hcm, ?_, ?_⟩⟩, ⟨rfl, rfl, rfl, by simp [World.setRow], fun k _ hk => setRow_other w g k _ (fun e => hk (by simp [e]))⟩⟩
  · obtain ⟨m', rfl⟩ : ∃ m', m = m' + 1 := ⟨m - 1, by omega⟩
    simp [Builtin.clear_, run_underlying ht, hv, hst]
  · simp only [List.size_toArray, List.length_append, List.length_take, List.length_drop, Array.length_toList, hzl]
    rw [Nat.add_mul] at hle
    omega
  · rw [hlen, ← flat_take E.len, ← htake]
    have h2 : i * E.k ≤ cur.size := Nat.le_trans (Nat.mul_le_mul_right _ (by omega)) hle
    have h3 : i * E.k ≤ L.length * E.k := Nat.mul_le_mul_right _ (by omega)
    rw [List.take_take, Nat.min_eq_left h3]
    simp only []
    rw [List.append_assoc, List.take_append_of_le_length (by rw [List.length_take, Array.length_toList]; omega), List.take_take, Nat.min_self]

/-- 'clear' at the operation -/
theorem wpList_clear_row {P : Program} {e : TypeId} {α : Type} (E : ET P e α) (w : World) {ops : Array Oper} {rest : List Oper} {o : Oper} {a : Act} {Q : Exit → Act → World → Prop} (hgd : o.guard = none) (s : Operand) (t : TypeId)
    (ho : o.op = .call { callee := .builtin .clear, args := #[s], argTypes := #[t] }) (ht : P.underlying t = some (.slice e))
    (hv : ∀ w, (zeroValue e).run P w = .ok E.z w) (hz1 : ∀ u ∈ E.z.cells.toList, u.oneCell' = true) (base g cap n : Nat) (L : List α) (i m c off : Nat) (hs : a.eval s = .slice (some ⟨g, off, none⟩) m c) (hoff : off = i * E.k)
    (h : Row E w base (.slice (some ⟨g, 0, none⟩) n cap) L) (him : i + m ≤ n) (hm : 0 < m)
    (hK : ∀ w', Row E w' base (.slice (some ⟨g, 0, none⟩) i cap) (L.take i) → w.grownBy w' (some g) → wpList P ops Q rest (a.put o.dst (.tuple #[])) w') : wpList P ops Q (o :: rest) a w := by
  subst hoff
  refine wpList_plain hgd fun K hK' => ?_
  obtain ⟨w', hr, h1, h2⟩ := run_clear_row E h ht hv hz1 i m c him hm o.type
  unfold Oper.wp execOp
  simp only [ho, resolve, invoke, builtin, Sem.run_bind, Sem.run_pure, Result.andThen_ok, List.map_toArray, List.map_cons, List.map_nil, hs, hr]
  exact hK' _ _ (hK w' h1 h2)

/-- storing a whole element of two cells -/
theorem Row.set2 {P : Program} {e : TypeId} {α : Type} (E : ET P e α) {f g' : α → Value} (he : E.enc = fun x => [f x, g' x]) {w : World} {base g n cap : Nat} {L : List α} (h : Row E w base (.slice (some ⟨g, 0, none⟩) n cap) L) (i : Nat) (x : α) :
    Row E ((w.setCell ⟨g, i * 2, none⟩ (f x)).setCell ⟨g, i * 2 + 1, none⟩ (g' x)) base (.slice (some ⟨g, 0, none⟩) n cap) (L.set i x) ∧ w.grownBy ((w.setCell ⟨g, i * 2, none⟩ (f x)).setCell ⟨g, i * 2 + 1, none⟩ (g' x)) (some g) := by
  have hn : n = L.length := by
    rcases h.shape with ⟨h', _⟩ | ⟨_, _, h', _⟩
    · simp at h'
    · simp only [Value.slice.injEq] at h'
      exact h'.2.1
  subst hn
  obtain ⟨h1, g1⟩ := World.ownsRow.stored h (i * 2) (f x)
  obtain ⟨h2, g2⟩ := World.ownsRow.stored h1 (i * 2 + 1) (g' x)
  refine ⟨?_, g1.trans g2⟩
  unfold Row
  rw [List.length_set]
  have e1 := flat_set2 (f := f) (g := g') L i x
  rw [he] at h2 ⊢
  rw [← e1]
  exact h2
end Go.Proofs.Ytmolmeamnmefeaa
