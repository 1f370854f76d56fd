/- Waking: the walk. -/
import Derived.Test.YtmolmeamnmefeaaLock18
namespace Go.Proofs.Ytmolmeamnmefeaa
open Go.RowKit Go.Shelf Go.Proofs Go.Sort
attribute [local go_sem] Oper.semAt_some

theorem regrant_any (p : Nat) (w : World) :
    Calls Try.prog 58 #[.pointer (some ⟨p, 0, none⟩)] w fun e w' => e = .returned (.func (.func 79) #[] #[.pointer (some ⟨w.heap.size, 0, none⟩)]) ∧ w' = w.alloc (.cells #[.pointer (some ⟨p, 0, none⟩)] 65) := by
  go_enter Try.func58, Try.ntmps58
  go_wp2
  go_ret
  exact ⟨rfl, rfl⟩

/-- marks among the deferred calls: blocks of their own, each still open -/
def Marks (lo : Nat) (w : World) (ds : List Deferred) : Prop := ∃ rs : List Nat, rs.Nodup ∧ (∀ r ∈ rs, lo ≤ r ∧ w.heap[r]? = some (.deferred (some []))) ∧ ds = rs.map (fun r => { target := .collected r, args := #[] })

structure Woke (C : CLocks) (L : List Spot) (w : World) (k : Nat) (wr : World) (C' : CLocks) (v' : Value) : Prop where
  ok : LocksOk wr C'
  lb : C'.lb = C.lb
  abs : C'.abs = (wokenS C.abs (L.take k)).1
  fp : ∀ b, C'.fp b → C.fp b
  box : wr.cell? ⟨w.heap.size, 0, none⟩ = some (.pointer (some ⟨C.lb, 0, none⟩))
  out : wr.heap[w.heap.size + 1]? = some (.cells #[v'] 35 (0, 0))
  row : Row etInt wr (w.heap.size + 2) v' (wokenS C.abs (L.take k)).2
  turn : Turn C.fp w wr
  size : w.heap.size + 2 ≤ wr.heap.size

theorem Woke.below {C C' : CLocks} {L : List Spot} {w wr w2 : World} {k : Nat} {v' : Value} (h : Woke C L w k wr C' v') (hb : Below wr.heap.size wr w2) : Woke C L w k w2 C' v' where
  ok := h.ok.below hb
  lb := h.lb
  abs := h.abs
  fp := h.fp
  box := (hb.cell (p := ⟨w.heap.size, 0, none⟩) (by have := h.size; simp; omega)).trans h.box
  out := (hb.block _ (by have := h.size; omega)).trans h.out
  row := h.row.of_block (fun b e => hb.block b (h.row.lt b e).2)
  turn := h.turn.trans (Turn.of_below hb)
  size := Nat.le_trans h.size hb.size
theorem Marks.below {lo : Nat} {wr w2 : World} {ds : List Deferred} (h : Marks lo wr ds) (hb : Below wr.heap.size wr w2) : Marks lo w2 ds := by
  obtain ⟨rs, h1, h2, h3⟩ := h
  exact ⟨rs, h1, fun r hr => ⟨(h2 r hr).1, (hb.block r (Array.getElem?_eq_some_iff.1 (h2 r hr).2).1).trans (h2 r hr).2⟩, h3⟩

theorem Turn.then {fp fp2 : Nat → Prop} {w w' w'' : World} (h : Turn fp w w') (k : Turn fp2 w' w'') (hs : ∀ b, b < w.heap.size → fp2 b → fp b) : Turn fp w w'' :=
  ⟨k.os.trans h.os, k.tape.trans h.tape, k.output.trans h.output, Nat.le_trans h.size k.size, fun b hb hn => (k.block b (Nat.lt_of_lt_of_le hb h.size) (fun e => hn (hs b hb e))).trans (h.block b hb hn)⟩

/-- what holds between two rounds of the range over a spot's grants -/
structure Inner (C' : CLocks) (c : CSpot) (o : Nat) (v0 : Value) (out0 : List Int) (w3 : World) (pre : List Int) (W : World) : Prop where
  waits : MapAt mtWaits W C'.wb (pre.foldl Al.del C'.waits)
  out : ∃ v1, W.heap[o]? = some (.cells #[v1] 35 (0, 0)) ∧ Row etInt W (o + 1) v1 (out0 ++ pre) ∧ (v1.ownBlock = v0.ownBlock ∨ ∀ b, v1.ownBlock = some b → w3.heap.size + 2 ≤ b)
  turn : Turn (fun b => c.fp b ∨ b = C'.wb ∨ b = o ∨ v0.ownBlock = some b ∨ b = w3.heap.size ∨ b = w3.heap.size + 1) w3 W

theorem Inner.turned {C' : CLocks} {c : CSpot} {o : Nat} {v0 : Value} {out0 : List Int} {w3 A B : World} {pre : List Int} (h : Inner C' c o v0 out0 w3 pre A) (ht : Turn (fun b => c.fp b ∨ b = w3.heap.size ∨ b = w3.heap.size + 1) A B)
    (hwb : C'.wb < w3.heap.size) (hwf : ¬ c.fp C'.wb) (ho : o < w3.heap.size) (hcf : ∀ b, c.fp b → b < o) (hv0 : ∀ b, v0.ownBlock = some b → b < w3.heap.size) : Inner C' c o v0 out0 w3 pre B := by
  have hz := h.turn.size
  obtain ⟨v1, h1, h2, h3⟩ := h.out
  refine ⟨h.waits.of_block (ht.block _ h.waits.lt (fun e => by rcases e with e | e | e; exact hwf e; omega; omega)), ⟨v1, (ht.block _ (by omega) (fun e => by rcases e with e | e | e; have := hcf _ e; omega; omega; omega)).trans h1, h2.of_block (fun b hb => ht.block b (h2.lt b hb).2 (fun e => ?_)), h3⟩, h.turn.trans (ht.mono (fun b _ e => ?_))⟩
  · have h4 : b ≠ w3.heap.size ∧ b ≠ w3.heap.size + 1 := by
      rcases h3 with h3 | h3
      · have := hv0 b (h3 ▸ hb); omega
      · have := h3 b hb; omega
    have h5 := (h2.lt b hb).1
    rcases e with e | e | e
    · have := hcf _ e; omega
    · exact h4.1 e
    · exact h4.2 e
  · rcases e with e | e | e
    · exact Or.inl e
    · exact Or.inr (Or.inr (Or.inr (Or.inr (Or.inl e))))
    · exact Or.inr (Or.inr (Or.inr (Or.inr (Or.inr e))))

/-- one spot turned in place, and who waits -/
theorem LocksOk.both {w w' : World} {C : CLocks} {s : Spot} {c c' : CSpot} {F : Nat → Prop} (h : LocksOk w C) (hg : Al.get C.spots s = some c) (ht : Turn (fun b => c.fp b ∨ b = C.wb ∨ F b) w w') (hF : ∀ b, C.fp b → ¬ F b) (hc : SpotOk w' c') (hp : c'.p = c.p) (hf : ∀ b, c'.fp b → c.fp b)
    {ws : List (Int × Spot)} (hw : MapAt mtWaits w' C.wb ws) (hk : ∀ x ∈ ws, spotOk x.2) : LocksOk w' { C with spots := Al.put C.spots s c', waits := ws } := by
  have hm := Al.mem_of_get hg
  have hown := h.own _ hm
  have k1 : ∀ b, C.fp b → ¬ c.fp b → b ≠ C.wb → w'.heap[b]? = w.heap[b]? := fun b hb h1 h2 => ht.block b (h.lt b hb) (fun e => by
    rcases e with e | e | e
    · exact h1 e
    · exact h2 e
    · exact hF b hb e)
  refine ⟨(k1 _ (Or.inl rfl) hown.1 h.lb_ne.2).trans h.blk, ?_, hw, ?_, ?_, ?_, h.ne, h.most, hk⟩
  · refine (h.spots.of_block (k1 _ (Or.inr (Or.inl rfl)) hown.2.1 h.ne)).congr (Al.put_enc _ h.spots.nodup hg ?_).symm ?_
    · simp only [mtSpots, hp]
    · intro p hpm
      rcases Al.mem_put hpm with rfl | ⟨hp', _⟩
      · exact h.spots.keyOk (s, c) hm
      · exact h.spots.keyOk _ hp'
  · intro x hx
    rcases Al.mem_put hx with rfl | ⟨hx', hk⟩
    · exact hc
    · exact (h.each x hx').of_blocks (fun b hb => k1 b (Or.inr (Or.inr (Or.inr ⟨x, hx', hb⟩))) (h.apart x hx' _ hm hk b hb) (fun e => (h.own x hx').2.2 (e ▸ hb)))
  · intro x hx y hy hxy b hb hb'
    rcases Al.mem_put hx with rfl | ⟨hx', hk⟩ <;> rcases Al.mem_put hy with rfl | ⟨hy', hk'⟩
    · exact hxy rfl
    · exact h.apart _ hm y hy' hxy b (hf b hb) hb'
    · exact h.apart x hx' _ hm hxy b hb (hf b hb')
    · exact h.apart x hx' y hy' hxy b hb hb'
  · intro x hx
    rcases Al.mem_put hx with rfl | ⟨hx', hk⟩
    · exact ⟨fun e => hown.1 (hf _ e), fun e => hown.2.1 (hf _ e), fun e => hown.2.2 (hf _ e)⟩
    · exact h.own x hx'

theorem foldl_del_mem (g : List Int) : ∀ (ws : List (Int × Spot)) (x : Int × Spot), x ∈ g.foldl Al.del ws → x ∈ ws := by
  induction g with
  | nil => intro ws x h; exact h
  | cons a g ih =>
    intro ws x h
    exact (Al.mem_del (ih _ x h)).1

theorem queue_le {S : St} {s : Spot} {x : Sp} (h : (s, x) ∈ S.spots) : x.queue.length ≤ qS S := by
  unfold qS
  generalize S.spots = l at h
  induction l with
  | nil => simp at h
  | cons p l ih =>
    simp only [List.map_cons, List.sum_cons]
    rcases List.mem_cons.1 h with e | h
    · rw [← e]
      simp
    · have := ih h
      omega

theorem Al.del_put {κ α : Type} [DecidableEq κ] (m : List (κ × α)) (k : κ) (v : α) : Al.del (Al.put m k v) k = Al.del m k := by
  unfold Al.put Al.del
  split
  · rw [List.filter_map]
    rw [show (m.filter ((fun p : κ × α => decide (p.1 ≠ k)) ∘ fun p => if p.1 = k then (k, v) else p)) = m.filter (fun p => decide (p.1 ≠ k)) from List.filter_congr (fun p _ => by
      simp only [Function.comp]
      by_cases e : p.1 = k
      · simp [e]
      · simp [e])]
    conv => rhs; rw [← List.map_id (m.filter _)]
    refine List.map_congr_left (fun p hp => ?_)
    have := (List.mem_filter.1 hp).2
    simp only [decide_eq_true_eq] at this
    rw [if_neg this]
    rfl
  · simp

/-- between a range's end and a round's -/
theorem Woke.next {C C' C3 : CLocks} {c : CSpot} {L : List Spot} {w w3 W W3 : World} {k : Nat} {v' : Value} {g : List Int} (h : Woke C L w k w3 C' v') (hlt : ∀ b, C.fp b → b < w.heap.size) (hcf : ∀ b, c.fp b → C.fp b)
    (hI : Inner C' c (w.heap.size + 1) v' (wokenS C.abs (L.take k)).2 w3 g W) (hT : Turn C.fp W W3) (hok : LocksOk W3 C3) (hlb : C3.lb = C.lb) (hk : wokenS C.abs (L.take (k + 1)) = (C3.abs, (wokenS C.abs (L.take k)).2 ++ g)) (hf : ∀ b, C3.fp b → C.fp b) :
    ∃ v2, Woke C L w (k + 1) W3 C3 v2 := by
  obtain ⟨v1, o1, o2, _⟩ := hI.out
  have hz := h.size
  have hzW := hI.turn.size
  have hwb : C'.wb < w.heap.size := hlt _ (h.fp _ (Or.inr (Or.inr (Or.inl rfl))))
  have hn : ∀ b, w.heap.size ≤ b → ¬ C.fp b := fun b hb e => by have := hlt b e; omega
  have hrow := fun b hb => (h.row.lt b hb).1
  refine ⟨v1, hok, hlb, by rw [hk], hf, ?_, (hT.block _ (by omega) (hn _ (by omega))).trans o1, ?_, ?_, by have := hT.size; omega⟩
  · refine (hT.cell (p := ⟨w.heap.size, 0, none⟩) (by simp; omega) (hn _ (Nat.le_refl _))).trans ((hI.turn.cell (p := ⟨w.heap.size, 0, none⟩) (by simp; omega) (fun e => ?_)).trans h.box)
    rcases e with e | e | e | e | e | e
    · have := hlt _ (hcf _ e); simp at this
    · simp at e; omega
    · simp at e
    · have := hrow _ e; simp at this; omega
    · simp at e; omega
    · simp at e; omega
  · rw [hk]
    exact o2.of_block (fun b hb => hT.block b (o2.lt b hb).2 (hn b (by have := (o2.lt b hb).1; omega)))
  · refine (h.turn.then hI.turn (fun b hb e => ?_)).trans hT
    rcases e with e | e | e | e | e | e
    · exact hcf b e
    · exact h.fp b (Or.inr (Or.inr (Or.inl e)))
    · omega
    · have := hrow _ e; omega
    · omega
    · omega

theorem Marks.next {C C' : CLocks} {c : CSpot} {L : List Spot} {w w3 W W3 : World} {k : Nat} {v' : Value} {g : List Int} {ds : List Deferred} (h : Woke C L w k w3 C' v') (hm : Marks (w.heap.size + 2) w3 ds) (hlt : ∀ b, C.fp b → b < w.heap.size) (hcf : ∀ b, c.fp b → C.fp b)
    (hI : Inner C' c (w.heap.size + 1) v' (wokenS C.abs (L.take k)).2 w3 g W) (hK : W.heap[w3.heap.size]? = some (.deferred (some []))) (hT : Turn C.fp W W3) : Marks (w.heap.size + 2) W3 ({ target := .collected w3.heap.size, args := #[] } :: ds) := by
  obtain ⟨rs, h1, h2, rfl⟩ := hm
  have hz := h.size
  have hzW := hI.turn.size
  have hn : ∀ b, w.heap.size ≤ b → ¬ C.fp b := fun b hb e => by have := hlt b e; omega
  have hwb : C'.wb < w.heap.size := hlt _ (h.fp _ (Or.inr (Or.inr (Or.inl rfl))))
  have hlr : ∀ r ∈ rs, r < w3.heap.size := fun r hr => (Array.getElem?_eq_some_iff.1 (h2 r hr).2).1
  have hWs : w3.heap.size < W.heap.size := (Array.getElem?_eq_some_iff.1 hK).1
  refine ⟨w3.heap.size :: rs, List.nodup_cons.2 ⟨fun e => by have := hlr _ e; omega, h1⟩, fun r hr => ?_, rfl⟩
  rcases List.mem_cons.1 hr with rfl | hr
  · exact ⟨hz, (hT.block _ hWs (hn _ (by omega))).trans hK⟩
  · obtain ⟨h3, h4⟩ := h2 r hr
    have h5 := hlr r hr
    refine ⟨h3, (hT.block r (by omega) (hn r (by omega))).trans ((hI.turn.block r h5 (fun e => ?_)).trans h4)⟩
    rcases e with e | e | e | e | e | e
    · have := hlt _ (hcf _ e); omega
    · omega
    · omega
    · obtain ⟨cur, hc⟩ := h.row.blk e
      rw [h4] at hc
      cases hc
    · omega
    · omega

/-- a frame that leaves through its marks -/
theorem leaves_marks {F : Fence} {n : Nat} {P : Program} {fn : Func} {tmps : Array Value} {R : Ending → World → Prop} : ∀ (rs : List Nat) (w : World), rs.Nodup → (∀ r ∈ rs, w.heap[r]? = some (.deferred (some []))) →
    (∀ w', Turn (fun b => b ∈ rs) w w' → LeavesInM F n P fn tmps R [] .returning w') → LeavesInM F n P fn tmps R (rs.map (fun r => { target := .collected r, args := #[] })) .returning w
  | [], w, _, _, hR => hR w (Turn.refl _ w)
  | r :: rs, w, hn, hk, hR => by
    simp only [List.nodup_cons] at hn
    refine ⟨by simp, .inl ⟨r, w.putObj r (.deferred none), rfl, run_takeDeferred (hk r (by simp)), ?_⟩⟩
    have ht : Turn (fun b => b = r) w (w.putObj r (.deferred none)) := turn_putObj _
    refine leaves_marks rs _ hn.2 (fun x hx => ?_) (fun w' ht' => hR w' ((ht.mono (fun b _ e => by simp [e])).trans (ht'.mono (fun b _ e => by simp [e]))))
    have hne : x ≠ r := fun e => hn.1 (e ▸ hx)
    exact (World.putObj_heap_other hne).trans (hk x (by simp [hx]))


def wokenRound : Code := Code.block 3
      ((Code.region 9
            #[{ dst := some 27, op := Op.load 23 (Operand.tmp 2), type := 23, pos := "lock.go:133", after := #[],
                guard := none },
              { dst := some 28, op := Op.nilCheck (Operand.tmp 27), type := 0, pos := "lock.go:133",
                after := #[{ on := 0, ground := Ground.data }], guard := none },
              { dst := some 29, op := Op.fieldAddr 62 (Operand.tmp 28) 2, type := 0, pos := "lock.go:133",
                after := #[{ on := 1, ground := Ground.data }], guard := none },
              { dst := some 30, op := Op.load 60 (Operand.tmp 29), type := 60, pos := "lock.go:133",
                after := #[{ on := 2, ground := Ground.data }], guard := none },
              { dst := some 31, op := Op.move (Operand.tmp 9), type := 2, pos := "lock.go:133", after := #[],
                guard := none },
              { dst := none,
                op :=
                  Op.call
                    { callee := Callee.builtin Builtin.delete, args := #[Operand.tmp 30, Operand.tmp 31],
                      argTypes := #[60, 2] },
                type := 0, pos := "lock.go:133",
                after := #[{ on := 3, ground := Ground.data }, { on := 4, ground := Ground.data }], guard := none }]
            false).seq
        (Code.region 10
          #[{ dst := some 32, op := Op.load 35 (Operand.tmp 5), type := 35, pos := "lock.go:134", after := #[],
              guard := none },
            { dst := some 33, op := Op.move (Operand.tmp 9), type := 2, pos := "lock.go:134", after := #[],
              guard := none },
            { dst := some 34, op := Op.buildSlice 35 1 #[(0, Operand.tmp 33)], type := 35, pos := "lock.go:134",
              after := #[{ on := 1, ground := Ground.data }], guard := none },
            { dst := some 35,
              op :=
                Op.call
                  { callee := Callee.builtin Builtin.append, args := #[Operand.tmp 32, Operand.tmp 34],
                    argTypes := #[35, 35] },
              type := 35, pos := "lock.go:134",
              after := #[{ on := 0, ground := Ground.data }, { on := 2, ground := Ground.data }], guard := none },
            { dst := none, op := Op.store 35 (Operand.tmp 5) (Operand.tmp 35), type := 0, pos := "lock.go:134",
              after :=
                #[{ on := 3, ground := Ground.data }, { on := 3, ground := Ground.chain },
                  { on := 0, ground := Ground.phase }, { on := 1, ground := Ground.phase },
                  { on := 2, ground := Ground.phase }, { on := 3, ground := Ground.phase }],
              guard := none }]
          false))

set_option maxRecDepth 100000 in
set_option maxHeartbeats 1600000 in
theorem woken_round (l lb wb o ob : Nat) (ws : List (Int × Spot)) (v1 : Value) (out : List Int) (x : Int) (W : World) (R : World → Prop)
    (y0 y1 y3 y4 y6 y7 y8 y10 y11 y12 y13 y14 y15 y16 y17 y18 y19 y20 y21 y22 y23 y24 y25 y26 y27 y28 y29 y30 y31 y32 y33 y34 y35 y36 y37 y38 y39 y40 y41 y42 y43 y44 y45 y46 y47 y48 y49 y50 y51 y52 y53 y54 : Value)
    (t0 : W.cell? ⟨ob, 0, none⟩ = some (.pointer (some ⟨lb, 0, none⟩))) (t1 : W.cell? ⟨lb, 2, none⟩ = some (.map (some wb))) (hpw : MapAt mtWaits W wb ws) (hx : i64 x)
    (ho : W.heap[o]? = some (.cells #[v1] 35 (0, 0))) (hv1 : Row etInt W (o + 1) v1 out) (hlen : out.length ≤ 1099511627776)
    (hR : ∀ W' v2, Turn (fun b => b = wb ∨ b = o ∨ v1.ownBlock = some b) W W' → MapAt mtWaits W' wb (Al.del ws x) → W'.heap[o]? = some (.cells #[v2] 35 (0, 0)) → Row etInt W' (o + 1) v2 (out ++ [x]) → (v2.ownBlock = v1.ownBlock ∨ ∀ b, v2.ownBlock = some b → W.heap.size ≤ b) → R W') :
    wokenRound.wpIn (Fence.wide.inRound l) 3 Try.prog (bodyEnds R) { tmps := #[y0, y1, .pointer (some ⟨ob, 0, none⟩), y3, y4, .pointer (some ⟨o, 0, none⟩), y6, y7, y8, .int .i64 x, y10, y11, y12, y13, y14, y15, y16, y17, y18, y19, y20, y21, y22, y23, y24, y25, y26, y27, y28, y29, y30, y31, y32, y33, y34, y35, y36, y37, y38, y39, y40, y41, y42, y43, y44, y45, y46, y47, y48, y49, y50, y51, y52, y53, y54], defers := [] } W := by
  have hlo : o < W.heap.size := (Array.getElem?_eq_some_iff.1 ho).1
  have hwo : wb ≠ o := by
    intro e
    obtain ⟨es, clock, hb, _⟩ := hpw
    rw [e, ho] at hb
    cases hb
  unfold wokenRound
  have HR := Lib.hid hR
  have Ho := Lib.hid ho
  have Hv := Lib.hid hv1
  have Hlo := Lib.hid hlo
  clear hR ho hv1 hlo
  obtain ⟨w4, hrun, hm4, ht4⟩ := hpw.drop hx 0
  simp only [mtWaits] at hrun
  have hT4 := mapTurned_turn ht4
  have ho4 : w4.cell? ⟨o, 0, none⟩ = some v1 := (hT4.cell (p := ⟨o, 0, none⟩) Hlo.out (fun e => hwo e.symm)).trans (cell_of_blk Ho.out 0)
  have hwn : ∀ b, v1.ownBlock = some b → b ≠ wb := by
    intro b hb e
    obtain ⟨cur, hc⟩ := Hv.out.blk hb
    obtain ⟨es, clock, hm, _⟩ := hpw
    rw [e, hm] at hc
    cases hc
  have hrow4 := (Hv.out.of_block (fun b hb => hT4.block b (Hv.out.lt b hb).2 (hwn b hb))).of_block (w' := w4.alloc (.cells #[.int .i64 x] 2)) (fun b hb => heap_alloc_old _ _ (by have := (Hv.out.lt b hb).2; have := hT4.size; omega))
  have ho5 : (w4.alloc (.cells #[.int .i64 x] 2)).heap[o]? = some (.cells #[v1] 35 (0, 0)) := (heap_alloc_old _ _ (by have := Hlo.out; have := hT4.size; omega)).trans ((hT4.block o Hlo.out (fun e => hwo e.symm)).trans Ho.out)
  have hsz4 : W.heap.size ≤ w4.heap.size := hT4.size
  have HT4 := Lib.hid hT4
  have Hm4 := Lib.hid hm4
  have Hrow := Lib.hid hrow4
  have Ho5 := Lib.hid ho5
  have Hwn := Lib.hid hwn
  clear hT4 hm4 ht4 hpw hrow4 ho5 hwn
  have k1 : ∀ j u, ([x].flatMap etInt.enc)[j]? = some u → (w4.alloc (.cells #[.int .i64 x] 2)).cell? ((⟨w4.heap.size, 0, none⟩ : Addr).add j) = some u := fun j u hj => news_at [.int .i64 x] _ _ rfl j u hj
  have k2 : (out.length + 1) * etInt.bytes ≤ 140737488355328 := by show (out.length + 1) * 8 ≤ _; omega
  have k3 : out.length + 1 ≤ maxLen := by unfold maxLen; omega
  have k4 : o + 1 ≤ (w4.alloc (.cells #[.int .i64 x] 2)).heap.size := by have := Hlo.out; simp; omega
  have K1 := Lib.hid k1
  have K2 := Lib.hid k2
  have K3 := Lib.hid k3
  have K4 := Lib.hid k4
  have hno : some o ≠ v1.ownBlock := fun e => by have := (Hv.out.lt o e.symm).1; omega
  clear k1 k2 k3 k4
  gi_wp2_with (gi_at_builtin; refine wpListIn_append_row etInt _ rfl _ _ 35 rfl Try.underlying35 (o + 1) v1 out rfl Hrow.out ⟨w4.heap.size, 0, none⟩ 1 [x] 1 rfl rfl K1.out K2.out K3.out K4.out ?_; intro v2 w6 hr6 hg6 hb6; have ho6 : w6.heap[o]? = some (.cells #[v1] 35 (0, 0)) := (hg6.block o K4.out hno).trans Ho5.out; have c6 := cell_of_blk ho6 0; have f6 := frozen_of_blk ho6 0; obtain ⟨g2, cap2, e2⟩ := ownsRow_shape hr6 (by simp); rw [List.length_append, List.length_singleton] at e2; have E2 := Lib.hid e2; have Hr6 := Lib.hid hr6; have Hg6 := Lib.hid hg6; have Hb6 := Lib.hid hb6; have Ho6 := Lib.hid ho6; clear hr6 hg6 hb6 ho6 e2; rw [E2.out])
  have hr6 := Hr6.out
  have hg6 := Hg6.out
  have hb6 := Hb6.out
  rw [E2.out] at hr6 hb6
  have hz4 : W.heap.size ≤ w4.heap.size := hsz4
  have hz6 : w4.heap.size + 1 ≤ w6.heap.size := by have := hg6.size; simpa using this
  have hT : Turn (fun b => b = wb ∨ b = o ∨ v1.ownBlock = some b) W w6 := ((HT4.out.mono (fun b _ e => Or.inl e)).alloc _).trans (Turn.of_grown hg6 (fun b e => Or.inr (Or.inr e)))
  have hTo : Turn (fun b => b = wb ∨ b = o ∨ v1.ownBlock = some b) W (w6.setCell ⟨o, 0, none⟩ (.slice (some ⟨g2, 0, none⟩) (out.length + 1) cap2)) := hT.setCell (Or.inl (Or.inr (Or.inl rfl))) _
  have hot : ∀ b, b ≠ o → (w6.setCell ⟨o, 0, none⟩ (.slice (some ⟨g2, 0, none⟩) (out.length + 1) cap2)).heap[b]? = w6.heap[b]? := fun b hb => Below.heap_setCell _ _ _ _ hb
  refine HR.out _ (.slice (some ⟨g2, 0, none⟩) (out.length + 1) cap2) hTo ?_ (heap_setCell_at _ Ho6.out) (hr6.of_block (fun b hb => hot b (by have := (hr6.lt b hb).1; omega))) ?_
  · have hwl := Hm4.out.lt
    refine ((Hm4.out.of_block (w' := w4.alloc (.cells #[.int .i64 x] 2)) (heap_alloc_old _ _ hwl)).of_block (hg6.block wb (by simp; omega) (fun e => Hwn.out wb e.symm rfl))).of_block (hot wb hwo)
  · rcases hb6 with e | e
    · exact Or.inl e
    · refine Or.inr (fun b hb => ?_)
      rw [e] at hb
      cases hb
      simp
      omega
end Go.Proofs.Ytmolmeamnmefeaa
