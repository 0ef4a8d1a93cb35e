import Derived.Test.YthgingjebobhaaaPSeq
import Derived.StillTail
/- A range over a function, walked round by round by hand. -/
namespace Go.Proofs.Ythgingjebobhaaa
open Go.RowKit Go.Shelf Go.Ev

/-- A region that draws, reads, and ends in a forced tail: inside a round. -/
theorem wpIn_still_tail {ro : Option Nat} {m : Nat} {P : Program} {id : Nat} {Q : Exit → Act → World → Prop} {a : Act} {w : World} {l : List Oper} (n : Nat) (hm : P.follows .mixedOrders = true) (hnd : l.all noDeferO = true) (hB : Region.lexTailB .any l.toArray n = true)
    (h : wpStill P l.toArray w.drew (fun a' => wpList P l.toArray (notOut Q) (l.drop n) a' w.drew) (l.take n) a) : (Code.region id l.toArray true).wpIn (Fc ro) m P Q a w := by
  simp only [Region.lexTailB, Bool.and_eq_true, decide_eq_true_eq] at hB
  obtain ⟨⟨⟨⟨hsel, hn⟩, hs⟩, hc⟩, hlex⟩ := hB
  have hn' : n < l.length := by simpa using hn
  have htl : (l.take n).length = n := by simp; omega
  have hdl : (l.drop n).length = l.toArray.size - n := by simp
  have inv0 : HeadInv .any l.toArray n (Array.replicate l.toArray.size false) :=
    ⟨by simp, fun j oj _ hl => (by rw [getD_replicate_false] at hl; cases hl), fun t _ ht => getD_in (by simpa using ht) (getD_replicate_false _ _)⟩
  have H := wpAnyL_lex (md := .any) (g := l.toArray.size - n) hsel hs hc hn (l.take n) 0 _ a (fun j hj => by
    have hj' : j < n := by rw [htl] at hj; exact hj
    simp [hj']) (by simpa using htl) inv0 (by rw [htl]; exact hlex) h
  have := wpAny_of_head (Q' := notOut Q) (g := l.toArray.size - n) (fun listed a' hL => by
    have := wpAny_of_seq (md := .any) (Q' := notOut Q) (l.drop n) n listed a' w.drew (fun j => by simp [List.getElem?_drop]) (by rw [hdl]; exact hL.1) hL.2
    rwa [hdl] at this) _ _ _ H
  rw [htl, show n + (l.toArray.size - n) = l.toArray.size by omega] at this
  refine wpIn_mono (Q := notOut Q) (wpIn_region_draw fun t => wpOpsIn_of (by simpa using hnd) (notOut_no Q) _ _ _ ?_) fun e a' w' hq => hq.2
  simp only [Region.schedule, hm, Bool.true_or, if_true]
  exact wpAny_sound l.toArray.size t _ a _ this

/-- The same, the tape's first turn out of sight. -/
abbrev KX (p : Nat → Prop) : KS := ⟨p, fun _ => False, []⟩

/-- A range over a function. -/
theorem wp_range {g : Operand} {p : Tmp} {asg body : Code} {Q : Exit → Act → World → Prop} {a : Act} {W : World} {gf : FuncId} {fn0 : Func} {cv : Array Value} {items : List (Array Value)} {P : Program}
    (hg : a.eval g = .func (.func gf) #[] cv) (hf0 : P.funcs[gf]? = some fn0) (hb0 : fn0.body.isSome = true) (hn0 : fn0.name ≠ "runtime.NumGoroutine")
    (K : KS) (hKlt : ∀ b, K.k b → b < W.heap.size)
    (hit : ∀ (l : Nat) (J : Nat → World → Prop) (V0 : World), KeepK K W V0 → (∀ k A B, J k A → Kp (Old A) A B → J k B) →
      (∀ (k : Nat) (x : Array Value) (A : World), items[k]? = some x → J k A → YieldAt Fence.wide 3 P l #[.agg x] A fun e A' => e = .returned (.bool true) ∧ J (k + 1) A' ∧ KeepK K A A') → J 0 V0 →
      CallsIn Fence.wide 4 P gf (#[.func (.yield l) #[] #[]] ++ cv) V0 fun e V0' => (∃ v, e = .returned v) ∧ J items.length V0')
    (I : Nat → World → Prop) (hI0 : I 0 W) (hst : ∀ k A A', I k A → Kp (KX fun b => b < W.heap.size) A A' → I k A')
    (hround : ∀ (k : Nat) (z : Array Value) (A : World), items[k]? = some z → I k A → W.heap.size + 2 ≤ A.heap.size →
      asg.wpIn (Fc (some (W.heap.size + 1))) 3 P (Exit.then (fun a1 w1 => Kp (Old A) A w1 ∧
        ∀ r, body.wpIn (Fc (some (W.heap.size + 1))) 3 P (Exit.then (fun _ w3 => I (k + 1) w3 ∧ Kp (KX fun b => K.k b ∨ W.heap.size ≤ b ∧ b < W.heap.size + 2) (w1.putObj (W.heap.size + 1) r) w3) (fun _ _ _ => False)) a1 (w1.putObj (W.heap.size + 1) r)) (fun _ _ _ => False))
        { tmps := a.tmps.setIfInBounds p (.agg z), defers := [] } A)
    (hQ : ∀ W3, I items.length W3 → W3.heap[W.heap.size]? = some (.deferred (some [])) → Q .normal { tmps := a.tmps, defers := { target := .collected W.heap.size, args := #[] } :: a.defers } W3) : (Code.rangeFunc g #[p] asg body).wp P Q a W := by
  have hbn : fn0.body ≠ none := by intro h; rw [h] at hb0; cases hb0
  refine wp_of_Fc (n := 5) (wpIn_rangeFunc fun fnn _ => ?_)
  obtain ⟨rec, hrec⟩ : ∃ rec : LoopState → Option Code → Loop, rec = fun st pe => { state := st, pending := pe, fn := fnn, tmps := a.tmps, params := #[p], assign := asg, body, defers := W.heap.size } := ⟨_, rfl⟩
  obtain ⟨W1, hW1⟩ : ∃ W1, (W.alloc (.deferred (some []))).alloc (.loop (rec .ready none)) = W1 := ⟨_, rfl⟩
  have hL1 : W1.heap[W.heap.size + 1]? = some (.loop (rec .ready none)) := by
    rw [← hW1]; have := World.alloc_heap_new (W.alloc (.deferred (some []))) (.loop (rec .ready none)); rwa [World.size_alloc] at this
  have hD1 : W1.heap[W.heap.size]? = some (.deferred (some [])) := by
    rw [← hW1]; exact (Below.heap_alloc _ _ _ (by simp)).trans (World.alloc_heap_new W _)
  have hkpA : Kp (Old W) W W1 := by
    rw [← hW1]
    exact (below_alloc W _).trans ((below_alloc _ _).mono fun b hb => Old.all_iff.2 (by have := Old.all_iff.1 hb; rw [World.size_alloc]; omega))
  have hKO : ∀ {A : World}, W.heap.size ≤ A.heap.size → Le (KX fun b => b < W.heap.size) (Old A) := fun h b hb => hb.elim (fun h2 => .inl (Nat.lt_of_lt_of_le h2 h)) False.elim
  obtain ⟨J, hJ⟩ : ∃ J : Nat → World → Prop, J = fun k A => I k A ∧ A.heap[W.heap.size + 1]? = some (.loop (rec .ready none)) ∧ A.heap[W.heap.size]? = some (.deferred (some [])) := ⟨_, rfl⟩
  have h0 : J 0 W1 := by rw [hJ]; exact ⟨hst _ _ _ hI0 (hkpA.mono (hKO (Nat.le_refl _))), hL1, hD1⟩
  have hab : ∀ k A B, J k A → Kp (Old A) A B → J k B := by
    rw [hJ]
    rintro k A B ⟨h1, h2, h3⟩ hk
    exact ⟨hst _ _ _ h1 (hk.mono (hKO (Nat.le_of_lt (lt_of_heap h3)))), (hk.block _ (Old.all_iff.2 (lt_of_heap h2))).trans h2, (hk.block _ (Old.all_iff.2 (lt_of_heap h3))).trans h3⟩
  have hrounds : ∀ (k : Nat) (x : Array Value) (A : World), items[k]? = some x → J k A → YieldAt Fence.wide 3 P (W.heap.size + 1) #[.agg x] A fun e A' => e = .returned (.bool true) ∧ J (k + 1) A' ∧ KeepK K A A' := by
    intro k x A hx hJk
    rw [hJ] at hJk
    obtain ⟨hI, hl, hd⟩ := hJk
    have hlA := lt_of_heap hl
    refine ⟨fnn, _, asg, body, (by have := run_yield (P := P) (args := #[.agg x]) hl (by rw [hrec]; rfl); rw [hrec] at this; exact this), roundIn_of_wpIn trivial ?_⟩
    refine wpIn_mono (F := Fc (some (W.heap.size + 1))) (Q := Exit.then (fun a1 w1 => Kp (Old A) A w1 ∧
        ∀ r, body.wpIn (Fc (some (W.heap.size + 1))) 3 P (Exit.then (fun _ w3 => I (k + 1) w3 ∧ Kp (KX fun b => K.k b ∨ W.heap.size ≤ b ∧ b < W.heap.size + 2) (w1.putObj (W.heap.size + 1) r) w3) (fun _ _ _ => False)) a1 (w1.putObj (W.heap.size + 1) r)) (fun _ _ _ => False)) (by simpa using hround k x A hx hI (by omega)) ?_
    intro e a1 w1 hq
    cases e with
    | normal =>
      obtain ⟨hk1, hb⟩ := hq
      have hl1 := (hk1.block _ (Old.all_iff.2 hlA)).trans hl
      have hd1 := (hk1.block _ (Old.all_iff.2 (lt_of_heap hd))).trans hd
      refine ⟨_, run_beginRound hl1 (by rw [hrec]), wpIn_mono (hb _) ?_⟩
      intro e a3 w3 hq
      cases e with
      | normal =>
        obtain ⟨hI3, hk3⟩ := hq
        have hl3 := (hk3.block _ (.inl (.inr ⟨by omega, by omega⟩))).trans (World.putObj_heap_same (lt_of_heap hl1))
        have hd3 := (hk3.block _ (.inl (.inr ⟨by omega, by omega⟩))).trans ((World.putObj_heap_other (by omega)).trans hd1)
        have hend := run_endRound (P := P) none hl3
        have hrd : ({ ({ rec .ready none with state := .busy } : Loop) with state := if (none : Option Code).isNone then .ready else .done, pending := none } : Loop) = rec .ready none := by rw [hrec]; rfl
        rw [show ({ state := if (none : Option Code).isNone = true then LoopState.ready else LoopState.done, pending := none, fn := _, tmps := _, params := _, assign := _, body := _, defers := _ } : Loop) = rec .ready none from hrd] at hend
        have hnl : ∀ {q : Nat → Prop}, (∀ b, q b → b < W.heap.size) → ¬ (KX q).all (W.heap.size + 1) := fun h h2 => h2.elim (fun h3 => by have := h _ h3; omega) False.elim
        refine ⟨_, _, hend, rfl, ?_, fun b hb => ?_⟩
        · rw [hJ]
          exact ⟨hst _ _ _ hI3 (Kp.putObj _ (hnl fun b hb => hb)), World.putObj_heap_same (lt_of_heap hl3), (World.putObj_heap_other (by omega)).trans hd3⟩
        · have hbl := hKlt b hb
          exact (World.putObj_heap_other (by omega)).trans ((hk3.block b (.inl (.inl hb))).trans ((World.putObj_heap_other (by omega)).trans (hk1.block b (Old.all_iff.2 (by omega)))))
      | _ => exact (show False from hq).elim
    | _ => exact (show False from hq).elim
  have key := hit (W.heap.size + 1) J W1 (fun b hb => hkpA.block b (Old.all_iff.2 (hKlt b hb))) hab hrounds h0
  refine ⟨W.heap.size + 1, [{ target := .collected W.heap.size, args := #[] }], W1, { target := .fn (.func gf) cv, args := #[.func (.yield (W.heap.size + 1)) #[] #[]] }, W1, gf, #[.func (.yield (W.heap.size + 1)) #[] #[]] ++ cv, W1, ?_, ?_, fun _ _ => trivial, ?_, (fun h => by cases h), ?_⟩
  · rw [← hW1, hrec]; exact run_enterLoop_outer _ _ _ _ _
  · simp only [resolve, hg]
    simp [go_sem]
  · simp [invoke, callFunc, hf0, hn0, hbn]
  · refine CallsIn.mono (F := Fc none) (n := 4) key ?_
    rintro e W2 ⟨⟨v, rfl⟩, hJ2⟩
    rw [hJ] at hJ2
    obtain ⟨hI2, hl2, hd2⟩ := hJ2
    refine ⟨none, _, (by have := run_endLoop (P := P) hl2 (by rw [hrec]; simp); rw [hrec] at this; exact this), ?_⟩
    refine hQ _ (hst _ _ _ hI2 (Kp.putObj _ fun h => ?_)) ((World.putObj_heap_other (by omega)).trans hd2)
    rcases h with h | h
    · exact absurd (show W.heap.size + 1 < W.heap.size from h) (by omega)
    · exact h.elim

/-- The mark of the range at the function's end. -/
theorem leaves_one {P : Program} {fn : Func} {tmps : Array Value} {R : Ending → World → Prop} {n D : Nat} {w : World} (h : w.heap[D]? = some (.deferred (some [])))
    (hR : ∀ w', Kp (KX fun b => b ≠ D) w w' → ∃ v, (results fn tmps).run P w' = .ok v w' ∧ R (.returned v) w') : LeavesInM (Fc none) n P fn tmps R [{ target := .collected D, args := #[] }] .returning w :=
  ⟨(fun e => by cases e), .inl ⟨D, _, rfl, run_takeDeferred h, hR _ (Kp.putObj _ fun h2 => h2.elim (fun h3 => h3 rfl) False.elim)⟩⟩
end Go.Proofs.Ythgingjebobhaaa
