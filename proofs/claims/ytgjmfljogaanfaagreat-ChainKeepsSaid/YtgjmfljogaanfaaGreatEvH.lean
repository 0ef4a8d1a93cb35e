/- One operation's step, calls among them: in the text's order, and in a drawn one. -/
import Derived.Test.YtgjmfljogaanfaaGreatEvG
import Derived.Orders
import Derived.Laws.Externs
namespace Go.Ev
open Go.RowKit

theorem Rel.eval {B : KS} {W : World} {ρ : Ren} {s : St} {a : Act} {w : World} (r : Rel B W ρ s a w) (x : Operand) : VR ρ (s.eval x) (a.eval x) := eval_rel r.tmps x

theorem Rel.put {B : KS} {W : World} {ρ ρ' : Ren} {s : St} {a : Act} {w w' : World} (r : Rel B W ρ s a w) (hle : ρ.le ρ') {v : AV} {v' : Value} (hv : VR ρ' v v') {h' : List AB} (hh : HX w' B ρ' h') (hb : Kp B W w') (dst : Option Tmp) :
    Rel B W ρ' ⟨putDst s.tmps dst v, h'⟩ (a.put dst v') w' := by
  refine ⟨?_, fun i x hx => ?_, hh, hb, ?_⟩
  · cases dst <;> simp [putDst, Act.put, r.len]
  · cases dst with
    | none => exact (r.tmps i x hx).mono hle
    | some d =>
      simp only [putDst] at hx
      rw [List.getElem?_set] at hx
      split at hx
      · rename_i e
        subst e
        split at hx <;> first | cases hx; done | skip
        rename_i hlt
        obtain rfl := Option.some.inj hx
        have hlt' : d < a.tmps.size := by rw [r.len]; exact hlt
        simp [Act.put, Array.getD, hlt', hv]
      · rename_i hne
        have := (r.tmps i x hx).mono hle
        simpa [Act.put, Array.getElem?_setIfInBounds_ne hne] using this
  · cases dst <;> exact r.defers

/-- Blocks that a call made, put at the places kept for them. -/
structure PlacedL (h h' : List AB) (key : Nat) (bs : List AB) : Prop where
  here : ∀ j b, bs[j]? = some b → h'[key + j]? = some b
  other : ∀ (k : Nat), (∀ j, j < bs.length → k ≠ key + j) → h'[k]? = h[k]?
  len : h.length ≤ h'.length

/-- What a call of the machine's function comes to, by its contract: what it changes, and what it makes. -/
def FCCalls (P : Program) (N : Nat) (g : FuncId) (fc : FC) : Prop :=
  ∀ (as : List AV) (hm h : List AB) (ρ : Ren) (w : World) (B : KS) (vs : Array Value) (t : fc.T) (ks : List Nat) (r : fc.R), All2 (VR ρ) as vs.toList → HR w B ρ h → Mask hm h → fc.dec as hm = some (t, ks) → fc.run N t = some r →
    Calls P g vs w fun e w' => ∃ v', e = .returned v' ∧ Kp B w w' ∧ ∀ (key : Nat) (h' : List AB), (∀ j, j < (fc.nb ks key r).length → ρ (key + j) = none) → PlacedL (applyU h (fc.up ks key r)) h' key (fc.nb ks key r) →
      ∃ ρ', ρ.le ρ' ∧ (∀ k, (∀ j, j < (fc.nb ks key r).length → k ≠ key + j) → ρ' k = ρ k) ∧ VR ρ' (fc.enc ks key r) v' ∧ HX w' B ρ' h'
/-- What a call comes to that makes some rows, and leaves all else alone. -/
def FCMakes (P : Program) (N : Nat) (g : FuncId) (fc : FC) (nb : fc.R → List AB) : Prop :=
  ∀ (as : List AV) (hm : List AB) (ρ : Ren) (w : World) (B : KS) (vs : Array Value) (t : fc.T) (ks : List Nat) (r : fc.R), All2 (VR ρ) as vs.toList → HR w B ρ hm → fc.dec as hm = some (t, ks) → fc.run N t = some r →
    Calls P g vs w fun e w' => ∃ v', e = .returned v' ∧ Below w.heap.size w w' ∧ ∀ key, (∀ j, j < (nb r).length → ρ (key + j) = none) →
      ∃ ρ', ρ.le ρ' ∧ (∀ k, (∀ j, j < (nb r).length → k ≠ key + j) → ρ' k = ρ k) ∧ VR ρ' (fc.enc ks key r) v' ∧
        (∀ j b, (nb r)[j]? = some b → ∃ rv, ρ' (key + j) = some rv ∧ (∃ e sh xs, b = .rows e sh xs) ∧ HB w' (Old w) ρ' b rv) ∧
        (∀ j j' b b' rv rv' g, j ≠ j' → (nb r)[j]? = some b → (nb r)[j']? = some b' → ρ' (key + j) = some rv → ρ' (key + j') = some rv' → ownB b rv = some g → ownB b' rv' ≠ some g)
/-- The same, of a function of the machine's own. -/
def FCExt (P : Program) (N : Nat) (fc : FC) (e : Array Value → Sem Value) : Prop :=
  ∀ (as : List AV) (hm : List AB) (ρ : Ren) (w : World) (B : KS) (vs : Array Value) (t : fc.T) (ks : List Nat) (r : fc.R), All2 (VR ρ) as vs.toList → HR w B ρ hm → fc.dec as hm = some (t, ks) → fc.run N t = some r →
    (∀ key, fc.nb ks key r = [] ∧ fc.up ks key r = []) ∧ ∃ v', (e vs).run P w = .ok v' w ∧ ∀ key, VR ρ (fc.enc ks key r) v'
/-- A contract holds of the machine's function. -/
inductive FCOK (P : Program) (N : Nat) (g : FuncId) (fc : FC) : Prop where
  | body (fn : Func) (hfn : P.funcs[g]? = some fn) (hname : (fn.name == "runtime.NumGoroutine") = false) (hbody : fn.body.isSome = true) (calls : FCCalls P N g fc)
  | ext (fn : Func) (e : Array Value → Sem Value) (hfn : P.funcs[g]? = some fn) (hname : (fn.name == "runtime.NumGoroutine") = false) (hb : fn.body.isNone = true) (hn : Extern.findNext fn = none) (he : Extern.find fn = some e) (calls : FCExt P N fc e)
def EnvOK (E : Env) : Prop := ∀ g fc, E.orc g = some fc → FCOK E.P E.N g fc

theorem HX.fresh {w : World} {B : KS} {ρ : Ren} {h : List AB} (q : HX w B ρ h) : ∀ k, h.length ≤ k → ρ k = none := by
  obtain ⟨K, _, hq⟩ := q; exact hq.fresh
theorem HX.sub {w : World} {B B' : KS} {ρ : Ren} {h : List AB} (hs : Sub B' B) (q : HX w B ρ h) : HX w B' ρ h := by
  obtain ⟨K, h1, hq⟩ := q; exact ⟨K, hs.trans h1, hq⟩

theorem HB.lower {w : World} {B B' : KS} {ρ : Ren} {e : TypeId} {sh : List SK} {xs : List (Row sh)} {r : RV} (hB : Le B' B) (q : HB w B ρ (.rows e sh xs) r) : HB w B' ρ (.rows e sh xs) r := by
  cases r with
  | blk b => exact q.elim
  | sv v =>
    obtain ⟨h0, h1, h2⟩ := q
    exact ⟨h0, h1, fun g hg hb => h2 g hg (hB g hb)⟩

/-- The heap behind a call that made some rows. -/
theorem HR.call {w w' : World} {B : KS} {ρ ρ' : Ren} {h h' : List AB} {key : Nat} {bs : List AB} (q : HR w B ρ h) (hbel : Below w.heap.size w w') (hle : ρ.le ρ')
    (hoth : ∀ k, (∀ j, j < bs.length → k ≠ key + j) → ρ' k = ρ k)
    (hnew : ∀ j b, bs[j]? = some b → ∃ rv, ρ' (key + j) = some rv ∧ (∃ e sh xs, b = .rows e sh xs) ∧ HB w' (Old w) ρ' b rv)
    (hsep : ∀ j j' b b' rv rv' g, j ≠ j' → bs[j]? = some b → bs[j']? = some b' → ρ' (key + j) = some rv → ρ' (key + j') = some rv' → ownB b rv = some g → ownB b' rv' ≠ some g)
    (hp : PlacedL h h' key bs) : HR w' B ρ' h' := by
  have q' := q.world (Same.of_below hbel) hbel.size
  have hcase : ∀ k : Nat, (∃ j, j < bs.length ∧ k = key + j) ∨ (∀ j, j < bs.length → k ≠ key + j) := by
    intro k
    by_cases hk : ∃ j, j < bs.length ∧ k = key + j
    · exact .inl hk
    · exact .inr fun j hj e => hk ⟨j, hj, e⟩
  have hnb : ∀ j, j < bs.length → ∃ b, bs[j]? = some b := fun j hj => ⟨bs[j], List.getElem?_eq_getElem hj⟩
  have hfar : ∀ j b rv g, bs[j]? = some b → ρ' (key + j) = some rv → ownB b rv = some g → w.heap.size ≤ g := by
    intro j b rv g hb hrv ho
    obtain ⟨rv', hrv', _, hB⟩ := hnew j b hb
    rw [hrv] at hrv'; obtain rfl := Option.some.inj hrv'
    exact Nat.le_of_not_lt fun hlt => (hB.own_lt ho).1 (Old.all_iff.2 hlt)
  refine ⟨fun k b hk => ?_, fun k b k' b' r r' g hne h1 h2 hr hr' ho => ?_, fun k hk => ?_, q'.base⟩
  · rcases hcase k with ⟨j, hj, rfl⟩ | hno
    · obtain ⟨b0, hb0⟩ := hnb j hj
      have := hp.here j b0 hb0
      rw [this] at hk; obtain rfl := Option.some.inj hk
      obtain ⟨rv, hrv, ⟨e, sh, xs, rfl⟩, hB⟩ := hnew j b0 hb0
      exact .inr ⟨rv, hrv, hB.lower q.base⟩
    · rw [hp.other k hno] at hk
      exact (q'.blk k b hk).imp id fun ⟨r, hr, hB⟩ => ⟨r, hle _ _ hr, hB.mono hle⟩
  · rcases hcase k with ⟨j, hj, rfl⟩ | hno
    · obtain ⟨b0, hb0⟩ := hnb j hj
      have e1 := hp.here j b0 hb0
      rw [e1] at h1; obtain rfl := Option.some.inj h1
      rcases hcase k' with ⟨j', hj', rfl⟩ | hno'
      · obtain ⟨b1, hb1⟩ := hnb j' hj'
        have e2 := hp.here j' b1 hb1
        rw [e2] at h2; obtain rfl := Option.some.inj h2
        exact hsep j j' b0 b1 r r' g (fun e => hne (by rw [e])) hb0 hb1 hr hr' ho
      · rw [hp.other k' hno'] at h2
        rw [hoth k' hno'] at hr'
        intro ho'
        have := (q.own_lt h2 hr' ho').2
        have := hfar j b0 r g hb0 hr ho
        omega
    · rw [hp.other k hno] at h1
      rw [hoth k hno] at hr
      rcases hcase k' with ⟨j', hj', rfl⟩ | hno'
      · obtain ⟨b1, hb1⟩ := hnb j' hj'
        have e2 := hp.here j' b1 hb1
        rw [e2] at h2; obtain rfl := Option.some.inj h2
        intro ho'
        have := (q.own_lt h1 hr ho).2
        have := hfar j' b1 r' g hb1 hr' ho'
        omega
      · rw [hp.other k' hno'] at h2
        rw [hoth k' hno'] at hr'
        exact q.sep k b k' b' r r' g hne h1 h2 hr hr' ho
  · have hno : ∀ j, j < bs.length → k ≠ key + j := by
      intro j hj e
      obtain ⟨b0, hb0⟩ := hnb j hj
      have := hp.here j b0 hb0
      rw [← e, List.getElem?_eq_none hk] at this
      cases this
    rw [hoth k hno]
    exact q.fresh k (Nat.le_trans hp.len hk)

theorem FCCalls.of_makes {P : Program} {N : Nat} {g : FuncId} {fc : FC} {nb : fc.R → List AB} (hnb : ∀ ks key r, fc.nb ks key r = nb r) (hup : ∀ ks key r, fc.up ks key r = []) (h : FCMakes P N g fc nb) : FCCalls P N g fc := by
  intro as hm hh ρ w B vs t ks r ha hr hmask hd hrun
  refine (h as hm ρ w B vs t ks r ha (hr.mask hmask) hd hrun).mono fun e w' he => ?_
  obtain ⟨v', rfl, hbel, hrest⟩ := he
  refine ⟨v', rfl, (Kp.of_below hbel).mono hr.base, fun key h' hk hp => ?_⟩
  rw [hnb] at hk hp
  rw [hup] at hp
  obtain ⟨ρ', hle, hoth, hv, hnew, hsep⟩ := hrest key hk
  exact ⟨ρ', hle, by rw [hnb]; exact hoth, hv, (hr.call hbel hle hoth hnew hsep hp).x⟩

section
variable {E : Env} {o : Oper} {a : Act} {w W : World} {B : KS} {ρ : Ren} {st : St} {hm : List AB} {key : Nat} {Q : Exit → Act → World → Prop} {next : Act → World → Prop}

/-- An operation with its value told. -/
theorem op_val {v : AV} {nb : Option AB} {u : Option (Nat × AB)} (hd : den E key st.eval hm o = .val true v nb u) (hr : Rel B W ρ st a w) (hmask : Mask hm st.h) (hk : ρ key = none)
    (h' : List AB) (hres : Res st.h h' key nb u)
    (hn : ∀ ρ' a' w', ρ.le ρ' → (∀ k, k ≠ key → ρ' k = ρ k) → Rel B W ρ' ⟨putDst st.tmps o.dst v, h'⟩ a' w' → next a' w') : o.wp E.P a w next Q := by
  obtain ⟨K, hs, hq⟩ := hr.heap
  obtain ⟨n, v', w', ρ', hrun, hnv, hle, hoth, hv, hb, hh⟩ := den_sound (E := E) (o := o) (a := a) (w := w) hr.eval hq hmask hk hd
  obtain ⟨K', hs', hq'⟩ := hh h' hres
  have hrel := hr.put hle hv ⟨K', hs.trans hs', hq'⟩ (hr.below.trans (hb.mono hs.le)) o.dst
  unfold Oper.wp
  rw [hrun]
  rcases hnv with rfl | ⟨rfl, rfl⟩
  · exact hn ρ' _ w' hle hoth hrel
  · exact hn ρ' _ w' hle hoth hrel

/-- What is handed in, in the callee's order. -/
def fnAr (g : Nat) (as cs : Array Value) : Array Value := if g < 1000000 then as ++ cs else cs ++ as
theorem resolve_fn {c : Call} {f : Operand} {g : FuncId} {cv : Array Value} (hop : o.op = .call c) (hc : c.callee = .value f) (hf : a.eval f = fnV g cv) :
    (execOp a.eval o).run E.P w = ((callFunc (fnG g) (fnAr g (c.args.map a.eval) cv)).run E.P w) := by
  unfold fnV at hf
  unfold fnG fnAr
  split at hf
  · rename_i h
    rw [if_pos h, if_pos h]
    simp [execOp, hop, resolve, hc, hf, Deferred.ofValue, invoke]
  · rename_i h
    rw [if_neg h, if_neg h]
    simp [execOp, hop, resolve, hc, hf, Deferred.ofValue, invoke]
theorem run_call {c : Call} {f : Operand} {g : FuncId} {cv : Array Value} {fn : Func} (hop : o.op = .call c) (hc : c.callee = .value f) (hf : a.eval f = fnV g cv) (hfn : E.P.funcs[fnG g]? = some fn)
    (hname : (fn.name == "runtime.NumGoroutine") = false) (hb : fn.body.isSome = true) : (execOp a.eval o).run E.P w = .ok (.enter (fnG g) (fnAr g (c.args.map a.eval) cv)) w := by
  have hbn : fn.body ≠ none := by intro h; rw [h] at hb; cases hb
  have hne : fn.name ≠ "runtime.NumGoroutine" := by simpa using hname
  rw [resolve_fn hop hc hf]
  simp [callFunc, hfn, hne, hbn]

theorem run_callx {c : Call} {f : Operand} {g : FuncId} {cv : Array Value} {fn : Func} {e : Array Value → Sem Value} (hop : o.op = .call c) (hc : c.callee = .value f) (hf : a.eval f = fnV g cv) (hfn : E.P.funcs[fnG g]? = some fn)
    (hname : (fn.name == "runtime.NumGoroutine") = false) (hb : fn.body.isNone = true) (hn : Extern.findNext fn = none) (he : Extern.find fn = some e) : (execOp a.eval o).run E.P w = ((e (fnAr g (c.args.map a.eval) cv)).run E.P w).andThen fun v w' => .ok (.value v) w' := by
  rw [resolve_fn hop hc hf]
  exact run_callFunc_extern (P := E.P) hfn hname hb hn he (fnAr g (c.args.map a.eval) cv) w

theorem den_callee {g : FuncId} {args : List AV} (hd : (∃ T m v nb up, den E key st.eval hm o = .call g args T m v nb up) ∨ den E key st.eval hm o = .enter g args) :
    ∃ c f g0 cap, o.op = .call c ∧ c.callee = .value f ∧ st.eval f = .fn g0 cap ∧ g = fnG g0 ∧ args = fnA g0 (c.args.toList.map st.eval) (cap.map fun x => .ptr x.1 x.2) := by
  have hop : ∃ c f g0 cap, o.op = .call c ∧ c.callee = .value f ∧ st.eval f = .fn g0 cap ∧ g = fnG g0 ∧ args = fnA g0 (c.args.toList.map st.eval) (cap.map fun x => .ptr x.1 x.2) := by
    cases hop : o.op with
    | call c =>
      have hd' := hd
      simp only [den, hop] at hd'
      cases hc : c.callee with
      | value f =>
        rw [hc] at hd'
        dsimp only at hd'
        cases hf : st.eval f with
        | fn g' cap =>
          rw [hf] at hd'
          dsimp only at hd'
          cases ho : E.orc (fnG g') with
          | none =>
            rw [ho] at hd'
            rcases hd' with ⟨T, m, v, nb, up, e⟩ | e
            · cases e
            · cases e; exact ⟨c, f, g', cap, rfl, hc, hf, rfl, rfl⟩
          | some fc =>
            rw [ho] at hd'
            dsimp only at hd'
            cases ht : fc.dec (fnA g' (c.args.toList.map st.eval) (cap.map fun x => .ptr x.1 x.2)) hm with
            | none =>
              rw [ht] at hd'
              rcases hd' with ⟨T, m, v, nb, up, e⟩ | e
              · cases e
              · cases e; exact ⟨c, f, g', cap, rfl, hc, hf, rfl, rfl⟩
            | some t =>
              rw [ht] at hd'
              rcases hd' with ⟨T, m, v, nb, up, e⟩ | e
              · cases e; exact ⟨c, f, g', cap, rfl, hc, hf, rfl, rfl⟩
              · cases e
        | _ =>
          rw [hf] at hd'
          rcases hd' with ⟨T, m, v, nb, up, e⟩ | e <;> cases e
      | builtin b =>
        rw [hc] at hd'
        exfalso
        rcases hd' with ⟨T, m, v, nb, up, e⟩ | e
        · dsimp only at e
          repeat' (split at e)
          all_goals first | cases e; done | (simp only [val1] at e; cases e; done) | (simp_all; done)
        · dsimp only at e
          repeat' (split at e)
          all_goals first | cases e; done | (simp only [val1] at e; cases e; done) | (simp_all; done)
      | invoke r m =>
        rw [hc] at hd'
        rcases hd' with ⟨T, m, v, nb, up, e⟩ | e <;> cases e
    | _ =>
      exfalso
      rcases hd with ⟨T, m, v, nb, up, e⟩ | e
      · simp only [den, hop] at e
        repeat' (split at e)
        all_goals first | cases e; done | (simp only [val1] at e; cases e; done) | (simp_all; done)
      · simp only [den, hop] at e
        repeat' (split at e)
        all_goals first | cases e; done | (simp only [val1] at e; cases e; done) | (simp_all; done)
  exact hop

theorem callee_rel {c : Call} {f : Operand} {g : FuncId} {cap : List (Nat × Nat)} (hr : Rel B W ρ st a w) (hf : st.eval f = .fn g cap) :
    ∃ cv, a.eval f = fnV g cv ∧ All2 (VR ρ) (fnA g (c.args.toList.map st.eval) (cap.map fun x => .ptr x.1 x.2)) (fnAr g (c.args.map a.eval) cv).toList := by
  have h := hr.eval f
  rw [hf] at h
  obtain ⟨cv, e, h2⟩ := h
  refine ⟨cv, e, ?_⟩
  have h3 : All2 (VR ρ) (cap.map fun x => AV.ptr x.1 x.2) cv.toList := by
    clear e hf
    generalize cv.toList = l at h2
    induction h2 with
    | nil => exact .nil
    | cons r _ ih => exact .cons r ih
  have h4 : All2 (VR ρ) (c.args.toList.map st.eval) (c.args.toList.map a.eval) := All2.of_map fun x _ => hr.eval x
  unfold fnA fnAr
  split
  · rw [Array.toList_append, Array.toList_map]
    exact h4.append h3
  · rw [Array.toList_append, Array.toList_map]
    exact h3.append h4

theorem den_call_fc {g : FuncId} {args : List AV} {T : Type} {m : Option T} {v : T → AV} {nb : T → List AB} {up : T → List (Nat × AB)} (hd : den E key st.eval hm o = .call g args T m v nb up) :
    ∃ fc t, E.orc g = some fc ∧ fc.dec args hm = some t ∧ Out.call g args T m v nb up = Out.call g args fc.R (fc.run E.N t.1) (fc.enc t.2 key) (fc.nb t.2 key) (fc.up t.2 key) := by
  obtain ⟨c, f, g0, cap, hop, hc, hf, rfl, hargs⟩ := den_callee (.inl ⟨T, m, v, nb, up, hd⟩)
  simp only [den, hop, hc, hf] at hd
  cases ho : E.orc (fnG g0) with
  | none => rw [ho] at hd; cases hd
  | some fc =>
    rw [ho] at hd
    dsimp only at hd
    rw [← hargs] at hd
    cases ht : fc.dec args hm with
    | none => rw [ht] at hd; cases hd
    | some t => rw [ht] at hd; exact ⟨fc, t, rfl, ht, hd.symm⟩

/-- A call of a function with a contract. -/
theorem op_call (hE : EnvOK E) {g : FuncId} {args : List AV} {T : Type} {m : Option T} {v : T → AV} {nb : T → List AB} {up : T → List (Nat × AB)} {r : T} (hd : den E key st.eval hm o = .call g args T m v nb up) (hmr : m = some r)
    (hr : Rel B W ρ st a w) (hmask : Mask hm st.h) (hk : ∀ j, j < (nb r).length → ρ (key + j) = none) (h' : List AB) (hp : PlacedL (applyU st.h (up r)) h' key (nb r))
    (hn : ∀ ρ' a' w', ρ.le ρ' → (∀ k, (∀ j, j < (nb r).length → k ≠ key + j) → ρ' k = ρ k) → Rel B W ρ' ⟨putDst st.tmps o.dst (v r), h'⟩ a' w' → next a' w') : o.wp E.P a w next Q := by
  obtain ⟨c, f, g0, cap, hop, hc, hf, rfl, hargs⟩ := den_callee (.inl ⟨T, m, v, nb, up, hd⟩)
  obtain ⟨fc, ⟨t, ks⟩, ho, ht, e⟩ := den_call_fc hd
  cases e
  obtain ⟨cv, hev, hall⟩ := callee_rel (c := c) hr hf
  rw [← hargs] at hall
  have hok := hE _ fc ho
  obtain ⟨K, hs, hq⟩ := hr.heap
  rcases hok with ⟨fn, hfn, hname, hbody, hok⟩ | ⟨fn, e, hfn, hname, hb, hnx, he, hok⟩
  case ext =>
    obtain ⟨hnb, v', hrun, hv⟩ := hok args hm ρ w K (fnAr g0 (c.args.map a.eval) cv) t ks r hall (hq.mask hmask) ht hmr
    unfold Oper.wp
    rw [run_callx hop hc hev hfn hname hb hnx he, hrun]
    rw [(hnb key).1, (hnb key).2] at hp
    have hh' : HR w K ρ h' := by
      exact hq.call (ρ' := ρ) (bs := []) (Below.refl _ _) (Ren.le_refl ρ) (fun _ _ => rfl) (fun j b hj => by cases hj) (fun j j' b b' _ _ _ _ hj _ => by cases hj) hp
    exact hn ρ _ w (Ren.le_refl ρ) (fun _ _ => rfl) (hr.put (Ren.le_refl ρ) (hv key) ⟨K, hs, hh'⟩ hr.below o.dst)
  have hcalls := hok args hm st.h ρ w K (fnAr g0 (c.args.map a.eval) cv) t ks r hall hq hmask ht hmr
  unfold Oper.wp
  rw [run_call hop hc hev hfn hname hbody]
  rw [Oper.upon_enter]
  refine hcalls.mono fun e w' he => ?_
  obtain ⟨v', rfl, hbel, hrest⟩ := he
  obtain ⟨ρ', hle, hoth, hv, hh⟩ := hrest key h' hk hp
  exact hn ρ' _ w' hle hoth (hr.put hle hv (hh.sub hs) (hr.below.trans (hbel.mono hs.le)) o.dst)

theorem guardA_ok {ops : Array Oper} {g : Bool} (hr : Rel B W ρ st a w) (hg : guardA ops st.tmps o = some g) : Region.wanted o (yielded ops a.tmps) = g := by
  unfold guardA at hg
  unfold Region.wanted
  cases hog : o.guard with
  | none => rw [hog] at hg; exact Option.some.inj hg
  | some jw =>
    obtain ⟨j, want⟩ := jw
    rw [hog] at hg
    dsimp only at hg ⊢
    cases hd : (ops[j]?).bind (·.dst) with
    | none => rw [hd] at hg; cases hg
    | some d =>
      rw [hd] at hg
      dsimp only at hg
      cases ht : st.tmps[d]? with
      | none => rw [ht] at hg; cases hg
      | some x =>
        rw [ht] at hg
        cases x <;> first | cases hg; done | skip
        case tup vs =>
          cases vs with
          | cons _ _ => cases hg
          | nil =>
            obtain rfl := Option.some.inj hg
            obtain ⟨c, hc, ha⟩ := hr.tmps d _ ht
            have hlt : d < a.tmps.size := by rw [hr.len]; exact (List.getElem?_eq_some_iff.1 ht).1
            have hv' : a.tmps[d] = .tuple c := by simpa [Array.getD, hlt] using hc
            have hy : yielded ops a.tmps j = none := by
              unfold yielded
              rw [hd]
              simp [hlt, hv']
            rw [hy]
            rfl
        rename_i b
        obtain rfl := Option.some.inj hg
        have hv := hr.tmps d _ ht
        have hlt : d < a.tmps.size := by rw [hr.len]; exact (List.getElem?_eq_some_iff.1 ht).1
        have hv' : a.tmps[d] = .bool b := by have : a.tmps.getD d undef = .bool b := hv; simpa [Array.getD, hlt] using this
        have hy : yielded ops a.tmps j = some b := by
          unfold yielded
          rw [hd]
          simp [hlt, hv']
        rw [hy]
        cases b <;> cases want <;> rfl

/-- An operation whose guard is off. -/
theorem Rel.skip (hr : Rel B W ρ st a w) : Rel B W ρ ⟨putDst st.tmps o.dst (.tup []), st.h⟩ (a.put o.dst undef) w :=
  hr.put (Ren.le_refl ρ) (v := .tup []) (v' := undef) ⟨#[], rfl, .nil⟩ hr.heap hr.below o.dst
end

/-- What an inlined call owes. -/
def CallOK {R : Type} (P : Program) (B : KS) (W : World) (call : FuncId → List AV → List AB → (AV → List AB → Option R) → Option R) (r : R) : Prop :=
  ∀ (f : FuncId) (args : List AV) (h : List AB) (k : AV → List AB → Option R), call f args h k = some r →
    (∃ fn, P.funcs[f]? = some fn ∧ (fn.name == "runtime.NumGoroutine") = false ∧ fn.body.isSome = true) ∧
    ∀ (ρ : Ren) (w : World) (vs : Array Value) (R' : Ending → World → Prop), All2 (VR ρ) args vs.toList → HX w B ρ h → Kp B W w →
      (∀ v h', k v h' = some r → ∀ ρ' v' w', ρ.le ρ' → VR ρ' v v' → HX w' B ρ' h' → Kp B W w' → R' (.returned v') w') → Calls P f vs w R'

theorem Rel.fzA {B : KS} {W : World} {ρ : Ren} {tmps : List AV} {h : List AB} {a : Act} {w : World} (hr : Rel B W ρ ⟨tmps, h⟩ a w) (tm : List AV) (htm : tm = tmps) (t : Nat) : Rel B W ρ ⟨tmps, fzA tm h t⟩ a w := by
  subst htm
  unfold Go.Ev.fzA
  split
  · rename_i k hk
    split
    · rename_i e sh xs hx
      obtain ⟨K, hs, hq⟩ := hr.heap
      have hv := hr.tmps t _ hk
      obtain ⟨K', hs', hq'⟩ := hq.freeze hx hv.1
      exact ⟨hr.len, hr.tmps, ⟨K', hs.trans hs', hq'⟩, hr.below, hr.defers⟩
    · rename_i e e2 sh sh2 xs hx
      obtain ⟨K, hs, hq⟩ := hr.heap
      have hv := hr.tmps t _ hk
      obtain ⟨K', hs', hq'⟩ := hq.freezeM hx hv.1
      exact ⟨hr.len, hr.tmps, ⟨K', hs.trans hs', hq'⟩, hr.below, hr.defers⟩
    · exact hr
  · exact hr
theorem Rel.fzH {B : KS} {W : World} {ρ : Ren} {st : St} {a : Act} {w : World} (hr : Rel B W ρ st a w) (mv : Bool) (o : Oper) : Rel B W ρ ⟨st.tmps, fzH mv st.tmps st.h o⟩ a w := by
  unfold Go.Ev.fzH
  split
  · exact hr
  split
  · exact Rel.fzA (tmps := st.tmps) hr _ rfl _
  · split
    · exact Rel.fzA (tmps := st.tmps) hr _ rfl _
    · exact hr
  · exact hr
theorem Rel.fzL {B : KS} {W : World} {ρ : Ren} {tmps : List AV} {a : Act} {w : World} (mv : Bool) (ops : List Oper) : ∀ (l : List Oper) (h : List AB), Rel B W ρ ⟨tmps, h⟩ a w → Rel B W ρ ⟨tmps, fzL mv ops tmps l h⟩ a w
  | [], h, hr => hr
  | o :: l, h, hr => by
    unfold Go.Ev.fzL
    split
    · exact Rel.fzL mv ops l _ hr
    split
    · exact Rel.fzL mv ops l _ (hr.fzA _ rfl _)
    · split
      · exact Rel.fzL mv ops l _ (hr.fzA _ rfl _)
      · exact Rel.fzL mv ops l _ hr
    · exact Rel.fzL mv ops l _ hr

theorem Rel.fzK {B : KS} {W : World} {ρ : Ren} {tmps : List AV} {h : List AB} {a : Act} {w : World} (hr : Rel B W ρ ⟨tmps, h⟩ a w) (v : AV) : Rel B W ρ ⟨tmps, fzK h v⟩ a w := by
  unfold Go.Ev.fzK
  split
  · rename_i k
    split
    · rename_i e sh xs hx
      obtain ⟨K, hs, hq⟩ := hr.heap
      rcases hq.blk k _ hx with e1 | ⟨r, h1, h2⟩
      · cases e1
      · cases r with
        | blk b => exact h2.elim
        | sv v =>
          obtain ⟨K', hs', hq'⟩ := hq.freeze hx h1
          exact ⟨hr.len, hr.tmps, ⟨K', hs.trans hs', hq'⟩, hr.below, hr.defers⟩
    · rename_i e e2 sh sh2 xs hx
      obtain ⟨K, hs, hq⟩ := hr.heap
      rcases hq.blk k _ hx with e1 | ⟨r, h1, h2⟩
      · cases e1
      · cases r with
        | blk b => exact h2.elim
        | sv v =>
          obtain ⟨K', hs', hq'⟩ := hq.freezeM hx h1
          exact ⟨hr.len, hr.tmps, ⟨K', hs.trans hs', hq'⟩, hr.below, hr.defers⟩
    · exact hr
  · exact hr
theorem Rel.fzM {B : KS} {W : World} {ρ : Ren} {tmps : List AV} {a : Act} {w : World} (P : Program) (mv : Bool) (ops : List Oper) : ∀ (l : List Oper) (h : List AB), Rel B W ρ ⟨tmps, h⟩ a w → Rel B W ρ ⟨tmps, fzM P mv ops tmps l h⟩ a w
  | [], h, hr => hr
  | o :: l, h, hr => by
    unfold Go.Ev.fzM
    split
    · exact Rel.fzM P mv ops l _ hr
    split
    · exact Rel.fzM P mv ops l _ (hr.fzK _)
    · exact Rel.fzM P mv ops l _ hr

theorem applyU_length : ∀ (us : List (Nat × AB)) (h : List AB), (applyU h us).length = h.length
  | [], _ => rfl
  | u :: us, h => by
    have := applyU_length us (h.set u.1 u.2)
    simpa [applyU] using this
theorem PlacedL.append (h bs : List AB) : PlacedL h (h ++ bs) h.length bs :=
  ⟨fun j b hb => by rw [List.getElem?_append_right (by omega)]; simpa using hb, fun k hk => by
    rw [List.getElem?_append]
    split
    · rfl
    · rename_i hge
      rw [List.getElem?_eq_none (by
        apply Nat.le_of_not_lt
        intro hlt
        exact hk (k - h.length) hlt (by omega)), List.getElem?_eq_none (by omega)], by simp⟩

theorem evOps_sound {R : Type} {E : Env} {B : KS} {W : World} {r : R} {call : FuncId → List AV → List AB → (AV → List AB → Option R) → Option R} (hE : EnvOK E) (hcall : CallOK E.P B W call r) {ops : Array Oper} {k : St → Option R} {Q : Exit → Act → World → Prop} :
    ∀ (l : List Nat) (st : St), evOps E call ops k l st = some r → ∀ (ρ : Ren) (a : Act) (w : World), Rel B W ρ st a w →
      (∀ st', k st' = some r → ∀ ρ' a' w', ρ.le ρ' → Rel B W ρ' st' a' w' → Q .normal a' w') → wpOps E.P ops Q l a w
  | [], st, h, ρ, a, w, hr, hQ => hQ st h ρ a w (Ren.le_refl ρ) hr
  | i :: rest, st, h, ρ, a, w, hr, hQ => by
    have ih := fun st1 h1 ρ1 a1 w1 hr1 (hle : ρ.le ρ1) => evOps_sound hE hcall (ops := ops) (k := k) (Q := Q) rest st1 h1 ρ1 a1 w1 hr1 (fun st' h' ρ' a' w' hle' hr' => hQ st' h' ρ' a' w' (Ren.le_trans hle hle') hr')
    simp only [evOps] at h
    simp only [wpOps]
    cases ho : ops[i]? with
    | none => rw [ho] at h; exact ih st h ρ a w hr (Ren.le_refl ρ)
    | some o =>
      rw [ho] at h
      dsimp only at h ⊢
      cases hg : guardA ops st.tmps o with
      | none => rw [hg] at h; cases h
      | some g =>
        rw [hg] at h
        dsimp only at h
        rw [guardA_ok hr hg]
        cases g with
        | false => exact ih _ h ρ _ w hr.skip (Ren.le_refl ρ)
        | true =>
          simp only [if_true]
          refine .inl ?_
          dsimp only [cond_true] at h
          replace hr := hr.fzH E.mv o
          generalize hst : (⟨st.tmps, Go.Ev.fzH E.mv st.tmps st.h o⟩ : St) = st2 at hr h
          have e1 : st.tmps = st2.tmps := by rw [← hst]
          have e2 : Go.Ev.fzH E.mv st.tmps st.h o = st2.h := by rw [← hst]
          rw [e2] at h
          rw [e1] at h
          have hfresh : ρ st2.h.length = none := hr.heap.fresh _ (Nat.le_refl _)
          cases hd : den E st2.h.length st2.eval st2.h o with
          | none => rw [hd] at h; cases h
          | val c v nb u =>
            rw [hd] at h
            dsimp only at h
            cases c with
            | false => cases h
            | true =>
              refine op_val hd hr (Mask.refl _) hfresh (pushNb (updH st2.h u) nb) ?_ (fun ρ' a' w' hle _ hr' => ih _ h ρ' a' w' hr' hle)
              cases nb with
              | none => rfl
              | some b =>
                have hl : (updH st2.h u).length = st2.h.length := by cases u <;> simp [updH]
                have := Placed.push (updH st2.h u) b
                rw [hl] at this; exact this
          | call g args T m v nb up =>
            rw [hd] at h
            dsimp only at h
            rw [Option.bind_eq_some_iff] at h
            obtain ⟨x, hx, h⟩ := h
            have hlen : (applyU st2.h (up x)).length = st2.h.length := applyU_length _ _
            have hpl := PlacedL.append (applyU st2.h (up x)) (nb x)
            rw [hlen] at hpl
            refine op_call hE hd hx hr (Mask.refl _) (fun j _ => hr.heap.fresh _ (by omega)) (applyU st2.h (up x) ++ nb x) hpl (fun ρ' a' w' hle _ hr' => ih _ h ρ' a' w' hr' hle)
          | enter g args =>
            rw [hd] at h
            dsimp only at h
            obtain ⟨c, f, g0, cap, hop, hc, hf, rfl, hargs⟩ := den_callee (.inr hd)
            obtain ⟨cv, hev, hall⟩ := callee_rel (c := c) hr hf
            rw [← hargs] at hall
            obtain ⟨⟨fn, hfn, hname, hbody⟩, hc2⟩ := hcall (fnG g0) args st2.h _ h
            unfold Oper.wp
            rw [run_call hop hc hev hfn hname hbody, Oper.upon_enter]
            refine hc2 ρ w _ _ hall hr.heap hr.below ?_
            intro v h' hk ρ' v' w' hle hv hh hb
            exact ih _ hk ρ' _ w' (hr.put hle hv hh hb o.dst) hle
end Go.Ev
