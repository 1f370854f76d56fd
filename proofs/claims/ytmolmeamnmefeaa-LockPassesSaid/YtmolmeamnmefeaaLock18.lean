/- The range over a spot's grants: the law. -/
import Derived.Test.YtmolmeamnmefeaaLock17
namespace Go.Proofs.Ytmolmeamnmefeaa
open Go.RowKit Go.Shelf Go.Proofs Go.Sort
attribute [local go_sem] Oper.semAt_some

theorem turn_putObj {W : World} {l : Nat} (o : Obj) : Turn (fun b => b = l) W (W.putObj l o) :=
  have h := grownBy_putObj' W l o
  ⟨h.os, h.tape, h.output, h.size, fun b hb hn => h.block b hb (fun e => hn (by cases e; rfl))⟩

/-- how the body of a round may be left: off its end alone -/
def bodyEnds (R : World → Prop) : Exit → Act → World → Prop
  | .normal, _, W' => R W'
  | _, _, _ => False

set_option maxHeartbeats 1600000 in
theorem range_grants {g : Operand} {ps : Array Tmp} {assign body : Code} {Q : Exit → Act → World → Prop} {a : Act} {w : World} (m : Nat) (c : CSpot) (q : Nat)
    (hg : a.eval g = .func (.func 79) #[] #[.pointer (some ⟨q, 0, none⟩)]) (hps : ps.size = 1)
    (hc : SpotOk w c) (hbd : c.up.length + c.rest.length ≤ 1099511627776) (hq : w.cell? ⟨q, 0, none⟩ = some (.pointer (some ⟨c.p, 0, none⟩))) (hqf : ¬ c.fp q) (lq : q < w.heap.size)
    (I : List Int → World → Prop) (hI : ∀ pre A B, I pre A → w.heap.size ≤ A.heap.size → Turn (fun b => c.fp b ∨ b = w.heap.size ∨ b = w.heap.size + 1) A B → I pre B) (h0 : I [] w)
    (a₁ : Int → Act)
    (hassign : ∀ (l : Nat) (x : Int) (W : World) (K : Act → World → Prop), K (a₁ x) W →
      assign.wpIn (Fence.wide.inRound l) m Try.prog (Exit.then K (fun _ _ _ => False)) { tmps := (ps.zip #[.int .i64 x]).foldl (fun t (p, v) => t.setIfInBounds p v) a.tmps, defers := [] } W)
    (hbody : ∀ (l : Nat) (pre : List Int) (x : Int) (W : World), (∃ t, (grantS c.abs).2 = pre ++ x :: t) → I pre W → i64 x → w.heap.size + 2 ≤ W.heap.size →
      body.wpIn (Fence.wide.inRound l) m Try.prog (bodyEnds fun W' => I (pre ++ [x]) W' ∧ Turn (fun b => ¬ (c.fp b ∨ b = q ∨ b = w.heap.size ∨ b = w.heap.size + 1)) W W') (a₁ x) W)
    (hdone : ∀ (W : World) (c' : CSpot), SpotOk W c' → c'.abs = (grantS c.abs).1 → c'.p = c.p → (∀ b, c'.fp b → c.fp b) → I (grantS c.abs).2 W → W.heap[w.heap.size]? = some (.deferred (some [])) → w.heap.size ≤ W.heap.size →
      Q .normal { a with defers := { target := .collected w.heap.size, args := #[] } :: a.defers } W) :
    (Code.rangeFunc g ps assign body).wp Try.prog Q a w := by
  refine (wpIn_wide (n := m + 2)).1 ?_
  refine wpIn_rangeFunc ?_
  intro fn hfn
  rw [show Fence.wide.round = none from rfl]
  obtain ⟨rec, hrec⟩ : ∃ rec : LoopState → Option Code → Loop, rec = fun st pe => { state := st, pending := pe, fn, tmps := a.tmps, params := ps, assign, body, defers := w.heap.size } := ⟨_, rfl⟩
  obtain ⟨W1, hW1⟩ : ∃ W1, (w.alloc (.deferred (some []))).alloc (.loop (rec .ready none)) = W1 := ⟨_, rfl⟩
  have hL1 : W1.heap[w.heap.size + 1]? = some (.loop (rec .ready none)) := by
    rw [← hW1]; have := World.alloc_heap_new (w.alloc (.deferred (some []))) (.loop (rec .ready none)); rwa [World.size_alloc] at this
  have hK1 : W1.heap[w.heap.size]? = some (.deferred (some [])) := by
    rw [← hW1]; exact (Below.heap_alloc _ _ _ (by simp)).trans (World.alloc_heap_new w _)
  have hb1 : Below w.heap.size w W1 := by
    rw [← hW1]; exact ((Below.refl _ w).alloc (Nat.le_refl _) _).alloc (by simp) _
  have hz1 : W1.heap.size = w.heap.size + 2 := by rw [← hW1]; simp
  have hI1 : I [] W1 := hI [] w W1 h0 (Nat.le_refl _) (Turn.of_below hb1)
  have hnD : ¬ c.fp w.heap.size := fun e => by have := hc.lt _ e; omega
  have hnL : ¬ c.fp (w.heap.size + 1) := fun e => by have := hc.lt _ e; omega
  refine ⟨w.heap.size + 1, [{ target := .collected w.heap.size, args := #[] }], W1, { target := .fn (.func 79) #[.pointer (some ⟨q, 0, none⟩)], args := #[.func (.yield (w.heap.size + 1)) #[] #[]] }, W1, 79,
    #[.func (.yield (w.heap.size + 1)) #[] #[]] ++ #[.pointer (some ⟨q, 0, none⟩)], W1, ?_, ?_, ?_, ?_, fun _ => by omega, ?_⟩
  · rw [← hW1, hrec]; exact run_enterLoop_outer _ _ _ _ _
  · simp only [resolve, hg]
    simp [go_sem]
  · intro f' _; trivial
  · have eg : ∀ args w, (callFunc 79 args).run Try.prog w = .ok (.enter 79 args) w := enters_of Try.func79 (by kernel_rfl) rfl
    simp [invoke, go_sem, eg]
  · refine callsIn_wide.2 ?_
    refine (regrant1_any (w.heap.size + 1) (m + 0) c q (fun pre W => I pre W ∧ W.heap[w.heap.size + 1]? = some (.loop (rec .ready none)) ∧ W.heap[w.heap.size]? = some (.deferred (some []))) W1 (hc.below hb1) hbd ((hb1.cell (p := ⟨q, 0, none⟩) lq).trans hq) hqf (by omega) ?_ ?_ ⟨hI1, hL1, hK1⟩).mono ?_
    · rintro pre A B ⟨hi, hl, hk⟩ hz ht
      exact ⟨hI pre A B hi (by omega) (ht.mono (fun b _ e => Or.inl e)), (ht.block (w.heap.size + 1) (by omega) hnL).trans hl, (ht.block w.heap.size (by omega) hnD).trans hk⟩
    · rintro pre x W hpre ⟨hi, hl, hk⟩ hx hz
      have hlt : w.heap.size + 1 < W.heap.size := by omega
      have hy := run_yield (P := Try.prog) (args := #[.int .i64 x]) hl (by rw [hrec]; exact hps.symm)
      rw [hrec] at hy
      refine ⟨fn, _, assign, body, hy, roundIn_of_wpIn hfn (hassign _ x W _ ⟨_, run_beginRound hl (by rw [hrec]), ?_⟩)⟩
      have hl2 : (W.putObj (w.heap.size + 1) (.loop { rec .ready none with state := .busy })).heap[w.heap.size + 1]? = some (.loop { rec .ready none with state := .busy }) := World.putObj_heap_same hlt
      have hk2 : (W.putObj (w.heap.size + 1) (.loop { rec .ready none with state := .busy })).heap[w.heap.size]? = some (.deferred (some [])) := (World.putObj_heap_other (by omega)).trans hk
      have ht2 : Turn (fun b => b = w.heap.size + 1) W (W.putObj (w.heap.size + 1) (.loop { rec .ready none with state := .busy })) := turn_putObj _
      refine wpIn_mono (hbody _ pre x _ hpre (hI _ W _ hi (by omega) (ht2.mono (fun b _ e => Or.inr (Or.inr e)))) hx (by rw [World.putObj_size]; omega)) ?_
      rintro e a3 W3 hp
      cases e with
      | normal =>
        obtain ⟨hi3, ht3⟩ := hp
        have hz2 := ht2.size
        have hl3 : W3.heap[w.heap.size + 1]? = some (.loop { rec .ready none with state := .busy }) := (ht3.block (w.heap.size + 1) (by rw [World.putObj_size]; omega) (fun h' => h' (Or.inr (Or.inr (Or.inr rfl))))).trans hl2
        have hk3 : W3.heap[w.heap.size]? = some (.deferred (some [])) := (ht3.block w.heap.size (by rw [World.putObj_size]; omega) (fun h' => h' (Or.inr (Or.inr (Or.inl rfl))))).trans hk2
        have hr := run_endRound (P := Try.prog) none hl3
        rw [hrec] at hr
        have hz3 := ht3.size
        rw [World.putObj_size] at hz3
        have ht4 : Turn (fun b => b = w.heap.size + 1) W3 (W3.putObj (w.heap.size + 1) (.loop (rec .ready none))) := turn_putObj _
        refine ⟨_, W3.putObj (w.heap.size + 1) (.loop (rec .ready none)), by rw [hrec]; exact hr, rfl, ⟨hI _ W3 _ hi3 (by omega) (ht4.mono (fun b _ e => Or.inr (Or.inr e))), World.putObj_heap_same (by omega), (World.putObj_heap_other (by omega)).trans hk3⟩, ?_⟩
        have hn1 : ∀ b, b = w.heap.size + 1 → ¬ (c.fp b ∨ b = q) := fun b e h' => by subst e; rcases h' with h' | h'; exact hnL h'; omega
        exact ((ht2.mono (fun b _ e => hn1 b e)).trans (ht3.mono (fun b _ e h' => e (by rcases h' with h' | h'; exact Or.inl h'; exact Or.inr (Or.inl h'))))).trans (ht4.mono (fun b _ e => hn1 b e))
      | ret => exact hp.elim
      | exit id => exact hp.elim
      | goto t => exact hp.elim
      | panic ch => exact hp.elim
      | outgrown => exact hp.elim
    · rintro e W2 ⟨rfl, c', hc', ha', hp', hf', hi, hl, hk⟩
      have hz2 : w.heap.size + 1 < W2.heap.size := (Array.getElem?_eq_some_iff.1 hl).1
      refine ⟨none, _, by have := run_endLoop (P := Try.prog) hl (by rw [hrec]; simp); rw [hrec] at this; exact this, ?_⟩
      refine hdone _ c' (hc'.of_blocks (fun b hb => World.putObj_heap_other (fun e => hnL (e ▸ hf' b hb)))) ha' hp' hf' (hI _ W2 _ hi (by omega) ((turn_putObj _).mono (fun b _ e => Or.inr (Or.inr e)))) ((World.putObj_heap_other (by omega)).trans hk) (by rw [World.putObj_size]; omega)

theorem wpListIn_append_row {F : Fence} {n : Nat} {P : Program} {e : TypeId} {α : Type} (E : ET P e α) (w : World) {ops : Array Oper} {rest : List Oper} {o : Oper} {a : Act} {Q : Exit → Act → World → Prop} (hgd : o.guard = none) (s x : Operand) (t : TypeId)
    (ho : o.op = .call { callee := .builtin .append, args := #[s, x], argTypes := #[t, t] }) (ht : P.underlying t = some (.slice e))
    (base : Nat) (v : Value) (L : List α) (hs : a.eval s = v) (hown : Row E w base v L)
    (ad : Addr) (c : Nat) (M : List α) (m : Nat) (hm : M.length = m) (hx : a.eval x = .slice (some ad) m c) (hnews : ∀ j u, (M.flatMap E.enc)[j]? = some u → w.cell? (ad.add j) = some u)
    (hbytes : (L.length + m) * E.bytes ≤ 140737488355328) (h63 : L.length + m ≤ maxLen) (hbase : base ≤ w.heap.size)
    (h : ∀ v' w', Row E w' base v' (L ++ M) → w.grownBy w' v.ownBlock → (v'.ownBlock = v.ownBlock ∨ v'.ownBlock = some w.heap.size) → wpListIn F n P ops Q rest (a.put o.dst v') w') :
    wpListIn F n P ops Q (o :: rest) a w := by
  subst hm
  refine wpListIn_plain hgd fun K hK' => ?_
  obtain ⟨v', w', hr, h2, h3, _, h5⟩ := run_append_own_at (P := P) w base t o.type e E.i E.z E.k E.bytes ht E.hi E.hz E.hsize E.hby E.hzs E.hk v L.length (L.flatMap E.enc) hown ad M.length c (M.flatMap E.enc) (flat_length E.len M) hnews (fun u hu => by
    obtain ⟨y, _, hy⟩ := List.mem_flatMap.1 hu
    exact E.one y u hy) h63 hbytes hbase
  unfold Oper.wpIn
  refine ⟨?_, ?_⟩
  · simp [Oper.about, ho, resolve, Target.leads, Sem.run_pure]
  · rw [Oper.semAt_plain F _ _ (by rw [ho]; intro c hc'; cases hc')]
    simp [execOp, ho, resolve, invoke, builtin, hs, hx, hr, Result.andThen]
    refine hK' _ _ (h v' w' ?_ h3 h5)
    unfold Row
    rw [List.length_append, List.flatMap_append]
    exact h2

theorem wpListIn_delete_at {F : Fence} {n : Nat} {P : Program} {t : TypeId} {κ α : Type} [DecidableEq κ] (M : MT P t κ α) (w : World) {ops : Array Oper} {rest : List Oper} {o : Oper} {a : Act} {Q : Exit → Act → World → Prop}
    (hg : o.guard = none) (mo xo : Operand) (k : TypeId) (hk : k = M.k) (hop : o.op = Op.call { callee := Callee.builtin Builtin.delete, args := #[mo, xo], argTypes := #[t, k] }) (b : Nat) (m : List (κ × α)) (hm : a.eval mo = .map (some b)) (h : MapAt M w b m)
    (x : κ) (hx : M.ok x) (hxe : a.eval xo = M.encK x) (hK : ∀ w', MapAt M w' b (Al.del m x) → w.mapTurned w' b → wpListIn F n P ops Q rest (a.put o.dst (.tuple #[])) w') : wpListIn F n P ops Q (o :: rest) a w := by
  subst hk
  refine wpListIn_plain hg fun K' hK' => ?_
  obtain ⟨w', hrun, r1, r2⟩ := h.drop hx o.type
  unfold Oper.wpIn
  refine ⟨?_, ?_⟩
  · simp [Oper.about, hop, resolve, Target.leads, Sem.run_pure]
  · rw [Oper.semAt_plain F _ _ (by rw [hop]; intro c hc'; cases hc')]
    simp [execOp, hop, resolve, invoke, builtin, hm, hxe, hrun, Result.andThen]
    exact hK' _ _ (hK w' r1 r2)
end Go.Proofs.Ytmolmeamnmefeaa
