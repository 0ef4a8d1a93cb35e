/- Code and functions: what the abstract evaluator tells is what the machine does. -/
import Derived.Test.YteidghhjccohdaaEvI
import Derived.Scope
import Derived.Deep.LoopGhost
namespace Go.Ev
open Go.RowKit

def exE : Ex → Exit
  | .normal => .normal
  | .exit id => .exit id
  | .ret => .ret

theorem pinG_eq {ops : Array Oper} {tmps : List AV} {o : Oper} {g : Bool} (h : guardA ops tmps o = some g) : pinG ops tmps o g = tmps := by
  unfold guardA at h
  unfold pinG
  cases hg : o.guard with
  | none => rfl
  | some jw =>
    obtain ⟨j, want⟩ := jw
    rw [hg] at h
    dsimp only at h ⊢
    cases hd : (ops[j]?).bind (·.dst) with
    | none => rfl
    | some d =>
      rw [hd] at h
      dsimp only at h ⊢
      split
      · rename_i b hb
        rw [hb] at h
        obtain rfl := Option.some.inj h
        have e : ((b == want) == want) = b := by cases b <;> cases want <;> rfl
        rw [e]
        apply List.ext_getElem?
        intro i
        rw [List.getElem?_set]
        split
        · rename_i hi; subst hi
          rw [hb, if_pos (List.getElem?_eq_some_iff.1 hb).1]
        · rfl
      · rfl
theorem pinC_eq {st : St} {c : Operand} {t : Bool} (h : st.eval c = .bool t) : pinC st c t = st := by
  unfold pinC
  split
  · rename_i d
    simp only [St.eval] at h
    obtain ⟨tmps, hh⟩ := st
    dsimp only at h ⊢
    cases hd : tmps[d]? with
    | none => rw [hd] at h; cases h
    | some x =>
      rw [hd] at h
      obtain rfl : x = .bool t := h
      congr 1
      apply List.ext_getElem?
      intro i
      rw [List.getElem?_set]
      split
      · rename_i hi; subst hi
        rw [hd, if_pos (List.getElem?_eq_some_iff.1 hd).1]
      · rfl
  · rfl
theorem evOpsP_eq {R : Type} {E : Env} {call : FuncId → List AV → List AB → (AV → List AB → Option R) → Option R} {ops : Array Oper} {k : St → Option R} : ∀ (l : List Nat) (st : St), evOpsP E call ops k l st = evOps E call ops k l st
  | [], st => rfl
  | i :: l, st => by
    simp only [evOpsP, evOps]
    cases ops[i]? with
    | none => exact evOpsP_eq l st
    | some o =>
      dsimp only
      cases hg : guardA ops st.tmps o with
      | none => rfl
      | some g =>
        cases g with
        | true => simp only [cond_true, pinG_eq hg, evOpsP_eq l]
        | false => simp only [cond_false, pinG_eq hg, evOpsP_eq l]
theorem evOpsDP_eq {R : Type} {E : Env} {ops : Array Oper} {cl : List Nat} {an : List (Option Nat)} {base : Nat} {k : St → Option R} : ∀ (l : List Nat) (st : St), evOpsDP E ops cl an base k l st = evOpsD E ops cl an base k l st
  | [], st => rfl
  | i :: l, st => by
    simp only [evOpsDP, evOpsD]
    cases ops[i]? with
    | none => exact evOpsDP_eq l st
    | some o =>
      dsimp only
      cases hg : guardA ops st.tmps o with
      | none => rfl
      | some g =>
        cases g with
        | true => simp only [cond_true, pinG_eq hg, evOpsDP_eq l]
        | false => simp only [cond_false, pinG_eq hg, evOpsDP_eq l]

/-- What a piece of code keeps of the renaming: all, where no loop has a description; the first n0 keys always. -/
def Keep0 (E : Env) (ρ ρ' : Ren) : Prop := ∀ k r, k < E.n0 → ρ k = some r → ρ' k = some r
structure Keeps (E : Env) (ρ ρ' : Ren) : Prop where
  all : (∀ id, E.lorc id = none) → ρ.le ρ'
  pre : Keep0 E ρ ρ'
theorem Keeps.refl (E : Env) (ρ : Ren) : Keeps E ρ ρ := ⟨fun _ => Ren.le_refl ρ, fun _ _ _ h => h⟩
theorem Keeps.of_le {E : Env} {ρ ρ' : Ren} (h : ρ.le ρ') : Keeps E ρ ρ' := ⟨fun _ => h, fun k r _ e => h k r e⟩
theorem Keeps.trans {E : Env} {a b c : Ren} (h : Keeps E a b) (k : Keeps E b c) : Keeps E a c := ⟨fun hn => Ren.le_trans (h.all hn) (k.all hn), fun i r hi e => k.pre i r hi (h.pre i r hi e)⟩

/-- What is owed of a loop's description. -/
structure LCOK (E : Env) (d : Nat) (body : Code) (lc : LC) : Prop where
  get_ok : ∀ st x, lc.get st = some x → ∀ B W ρ a w, Rel B W ρ st a w → ∃ ρ', Keep0 E ρ ρ' ∧ Rel B W ρ' (lc.put x) a w
  getX_ok : ∀ e st y, lc.getX e st = some y → (lc.putX y).1 = e ∧ ∀ B W ρ a w, Rel B W ρ st a w → ∃ ρ', Keep0 E ρ ρ' ∧ Rel B W ρ' (lc.putX y).2 a w
  zero : ∀ x, lc.run 0 x = none
  elim_ok : ∀ {R : Type} (y : lc.Y) (k : Ex → St → Option R), lc.elim y k = k (lc.putX y).1 (lc.putX y).2
  step : ∀ n x, lc.run (n + 1) x = roundL lc (lc.run n) (evC E (evFn E.plain d) body) x
def LoopsOK (E : Env) (d : Nat) : Code → Prop
  | .seq a b => LoopsOK E d a ∧ LoopsOK E d b
  | .cond _ a b => LoopsOK E d a ∧ LoopsOK E d b
  | .block _ a => LoopsOK E d a
  | .scope a => LoopsOK E d a
  | .loop a => (∀ lc, (firstRegion a).bind E.lorc = some lc → LCOK E d a lc) ∧ LoopsOK E d a
  | _ => True
theorem LoopsOK.plain (E : Env) (d : Nat) : ∀ c, LoopsOK E.plain d c
  | .seq a b => ⟨LoopsOK.plain E d a, LoopsOK.plain E d b⟩
  | .cond _ a b => ⟨LoopsOK.plain E d a, LoopsOK.plain E d b⟩
  | .block _ a => LoopsOK.plain E d a
  | .loop a => by
      refine ⟨fun lc h => ?_, LoopsOK.plain E d a⟩
      exfalso
      cases h1 : firstRegion a with
      | none => rw [h1] at h; cases h
      | some id => rw [h1] at h; cases h
  | .skip => trivial
  | .region .. => trivial
  | .rangeFunc .. => trivial
  | .exit _ => trivial
  | .scope a => LoopsOK.plain E d a
  | .label _ => trivial
  | .goto _ => trivial
  | .ret => trivial
  | .refuse _ => trivial

theorem splitI_ok {R : Type} {i : Int} {f : Nat → Option R} {r : R} : ∀ {n j : Nat}, splitI i f j n = some r → ∃ m : Nat, i = (m : Int) ∧ f m = some r
  | 0, j, h => by cases h
  | n + 1, j, h => by
    simp only [splitI] at h
    by_cases e : i = (j : Int)
    · rw [decide_eq_true e] at h; exact ⟨j, e, h⟩
    · rw [decide_eq_false e] at h; exact splitI_ok (n := n) h
theorem set_same' {α : Type} {l : List α} {i : Nat} {x : α} (h : l[i]? = some x) : l.set i x = l := by
  apply List.ext_getElem?
  intro j
  by_cases e : i = j
  · subst e
    rw [List.getElem?_set_self (List.getElem?_eq_some_iff.1 h).1, h]
  · rw [List.getElem?_set_ne e]
theorem pinIx_ok {R : Type} {k : St → Option R} {r : R} : ∀ {l : List (Nat × Nat)} {st : St}, pinIx k l st = some r → k st = some r
  | [], st, h => h
  | (s, n) :: t, st, h => by
    simp only [pinIx] at h
    split at h
    · rename_i q i hs
      obtain ⟨m, rfl, h2⟩ := splitI_ok h
      rw [set_same' hs] at h2
      exact pinIx_ok (l := t) h2
    · exact pinIx_ok (l := t) h

theorem evC_sound {E : Env} {d : Nat} {B : KS} {W : World} (hE : EnvOK E) (hmix : E.P.follows .mixedOrders = true) (hcall : ∀ {R : Type} (r : R), CallOK E.P B W (evFn E.plain d) r) :
    ∀ (c : Code), LoopsOK E d c → ∀ {R : Type} (st : St) (k : Ex → St → Option R) (r : R), evC E (evFn E.plain d) c st k = some r → ∀ (Q : Exit → Act → World → Prop) (ρ : Ren) (a : Act) (w : World), Rel B W ρ st a w →
      (∀ e st', k e st' = some r → ∀ ρ' a' w', Keeps E ρ ρ' → Rel B W ρ' st' a' w' → Q (exE e) a' w') → c.wp E.P Q a w
  | .skip, _, R, st, k, r, h, Q, ρ, a, w, hr, hQ => wp_skip (hQ .normal st h ρ a w (Keeps.refl E ρ) hr)
  | .exit id, _, R, st, k, r, h, Q, ρ, a, w, hr, hQ => wp_exit (hQ (.exit id) st h ρ a w (Keeps.refl E ρ) hr)
  | .ret, _, R, st, k, r, h, Q, ρ, a, w, hr, hQ => wp_ret (hQ .ret st h ρ a w (Keeps.refl E ρ) hr)
  | .region id ops draw, _, R, st, k, r, h, Q, ρ, a, w, hr, hQ => by
    simp only [evC] at h
    replace h := pinIx_ok h
    cases draw with
    | false =>
      simp only [Bool.false_eq_true, if_false] at h
      rw [evOpsP_eq] at h
      exact wp_region (evOps_sound hE (hcall r) _ st h ρ a w hr (fun st' h' ρ' a' w' hle hr' => hQ .normal st' h' ρ' a' w' (Keeps.of_le hle) hr'))
    | true =>
      simp only [if_true] at h
      split at h <;> first | cases h; done | skip
      rename_i hc
      simp only [Bool.and_eq_true] at hc
      rw [evOpsDP_eq] at h
      exact drawn_sound hE hmix hc.1.1 hc.1.2 hc.2 (st := ⟨st.tmps, Go.Ev.fzL E.mv ops.toList st.tmps ops.toList st.h⟩) h (Rel.fzL _ _ _ _ hr) (fun st' h' ρ' a' w' hle hr' => hQ .normal st' h' ρ' a' w' (Keeps.of_le hle) hr')
  | .seq x y, hl, R, st, k, r, h, Q, ρ, a, w, hr, hQ => by
    simp only [evC] at h
    refine wp_seq (evC_sound hE hmix hcall x hl.1 st _ r h _ ρ a w hr fun e st' h' ρ' a' w' hle hr' => ?_)
    cases e with
    | normal => exact evC_sound hE hmix hcall y hl.2 st' k r h' Q ρ' a' w' hr' fun e st'' h'' ρ'' a'' w'' hle' hr'' => hQ e st'' h'' ρ'' a'' w'' (hle.trans hle') hr''
    | exit id => exact hQ (.exit id) st' h' ρ' a' w' hle hr'
    | ret => exact hQ .ret st' h' ρ' a' w' hle hr'
  | .cond c x y, hl, R, st, k, r, h, Q, ρ, a, w, hr, hQ => by
    simp only [evC] at h
    split at h <;> first | cases h; done | skip
    rename_i t ht
    have hv := hr.eval c
    rw [ht] at hv
    cases t with
    | true => rw [cond_true, pinC_eq ht] at h; exact wp_cond_true hv (evC_sound hE hmix hcall x hl.1 st k r h Q ρ a w hr hQ)
    | false => rw [cond_false, pinC_eq ht] at h; exact wp_cond_false hv (evC_sound hE hmix hcall y hl.2 st k r h Q ρ a w hr hQ)
  | .block id x, hl, R, st, k, r, h, Q, ρ, a, w, hr, hQ => by
    simp only [evC] at h
    refine wp_block (evC_sound hE hmix hcall x hl st _ r h _ ρ a w hr fun e st' h' ρ' a' w' hle hr' => ?_)
    cases e with
    | normal => exact hQ .normal st' h' ρ' a' w' hle hr'
    | ret => exact hQ .ret st' h' ρ' a' w' hle hr'
    | exit i =>
      simp only [exE, Exit.inBlock]
      dsimp only at h'
      split at h'
      · rename_i e; rw [if_pos e]; exact hQ .normal st' h' ρ' a' w' hle hr'
      · rename_i e; rw [if_neg e]; exact hQ (.exit i) st' h' ρ' a' w' hle hr'
  | .loop x, hl, R, st, k, r, h, Q, ρ, a, w, hr, hQ => by
    simp only [evC] at h
    split at h
    case h_2 =>
      rename_i hnone
      refine wp_loop_ghost (fun n a' w' => ∃ st' ρ', loopN (evC E (evFn E.plain d) x) k n st' = some r ∧ Keeps E ρ ρ' ∧ Rel B W ρ' st' a' w') E.unr ⟨st, ρ, h, Keeps.refl E ρ, hr⟩ ?_
      rintro n a1 w1 ⟨st1, ρ1, hrun, hk1, hr1⟩
      cases n with
      | zero => cases hrun
      | succ n =>
        refine evC_sound hE hmix hcall x hl.2 st1 _ r hrun _ ρ1 a1 w1 hr1 fun e st' h' ρ' a' w' hkk hr' => ?_
        cases e with
        | normal => exact ⟨n, Nat.lt_succ_self n, st', ρ', h', hk1.trans hkk, hr'⟩
        | exit id => exact hQ _ _ h' ρ' a' w' (hk1.trans hkk) hr'
        | ret => exact hQ _ _ h' ρ' a' w' (hk1.trans hkk) hr'
    rename_i lc hlc
    have hlc' := hl.1 lc hlc
    rw [Option.bind_eq_some_iff] at h
    obtain ⟨x0, hx0, h⟩ := h
    rw [Option.bind_eq_some_iff] at h
    obtain ⟨y, hy, h⟩ := h
    rw [hlc'.elim_ok] at h
    obtain ⟨ρ0, hk0, hr0⟩ := hlc'.get_ok st x0 hx0 B W ρ a w hr
    have hno : ¬ ∀ id, E.lorc id = none := by
      intro hn
      cases h1 : firstRegion x with
      | none => rw [h1] at hlc; cases hlc
      | some id => rw [h1] at hlc; simp only [Option.bind_some] at hlc; rw [hn id] at hlc; cases hlc
    refine wp_loop_ghost (fun n a' w' => ∃ z ρ', lc.run n z = some y ∧ Keep0 E ρ ρ' ∧ Rel B W ρ' (lc.put z) a' w') E.N ⟨x0, ρ0, hy, hk0, hr0⟩ ?_
    rintro n a1 w1 ⟨z, ρ1, hrun, hk1, hr1⟩
    cases n with
    | zero => rw [hlc'.zero] at hrun; cases hrun
    | succ n =>
      rw [hlc'.step] at hrun
      unfold roundL at hrun
      refine evC_sound hE hmix hcall x hl.2 (lc.put z) _ y hrun _ ρ1 a1 w1 hr1 fun e st' h' ρ' a' w' hkk hr' => ?_
      cases e with
      | normal =>
        dsimp only at h'
        rw [Option.bind_eq_some_iff] at h'
        obtain ⟨z', hz', hrun'⟩ := h'
        obtain ⟨ρ2, hk2, hr2⟩ := hlc'.get_ok st' z' hz' B W ρ' a' w' hr'
        exact ⟨n, Nat.lt_succ_self n, z', ρ2, hrun', fun i q hi e => hk2 i q hi (hkk.pre i q hi (hk1 i q hi e)), hr2⟩
      | exit id =>
        dsimp only at h'
        obtain ⟨he, hx⟩ := hlc'.getX_ok (.exit id) st' y h'
        obtain ⟨ρ2, hk2, hr2⟩ := hx B W ρ' a' w' hr'
        have := hQ _ _ h ρ2 a' w' ⟨fun hn => absurd hn hno, fun i q hi e => hk2 i q hi (hkk.pre i q hi (hk1 i q hi e))⟩ hr2
        rw [he] at this; exact this
      | ret =>
        dsimp only at h'
        obtain ⟨he, hx⟩ := hlc'.getX_ok .ret st' y h'
        obtain ⟨ρ2, hk2, hr2⟩ := hx B W ρ' a' w' hr'
        have := hQ _ _ h ρ2 a' w' ⟨fun hn => absurd hn hno, fun i q hi e => hk2 i q hi (hkk.pre i q hi (hk1 i q hi e))⟩ hr2
        rw [he] at this; exact this
  | .rangeFunc .., _, R, st, k, r, h, _, _, _, _, _, _ => by simp [evC] at h
  | .scope x, hl, R, st, k, r, h, Q, ρ, a, w, hr, hQ => by
    simp only [evC] at h
    refine wp_scope_straight (evC_sound hE hmix hcall x hl st k r h _ ρ a w hr fun e st' h' ρ' a' w' hle hr' => ?_)
    have := hQ e st' h' ρ' a' w' hle hr'
    cases e <;> exact this
  | .label _, _, R, st, k, r, h, Q, ρ, a, w, hr, hQ => wp_label (hQ .normal st h ρ a w (Keeps.refl E ρ) hr)
  | .goto _, _, R, st, k, r, h, _, _, _, _, _, _ => by simp [evC] at h
  | .refuse _, _, R, st, k, r, h, _, _, _, _, _, _ => by simp [evC] at h

def resSem (a : Act) : ResultVar → Sem Value
  | .tmp t => pure (a.tmps.getD t undef)
  | .cell ad t => do loadVar t (← asAddr (a.tmps.getD ad undef))
theorem resItem_ok {E : Env} {B : KS} {W : World} {ρ : Ren} {st : St} {a : Act} {w : World} {x : ResultVar} {v : AV} (h : resItem E x st = some v) (hr : Rel B W ρ st a w) :
    ∃ v', (resSem a x).run E.P w = .ok v' w ∧ VR ρ v v' ∧ ∀ l, v ≠ .tup l := by
  cases x with
  | tmp t =>
    simp only [resItem] at h
    cases ht : st.tmps[t]? with
    | none => rw [ht] at h; cases h
    | some x =>
      rw [ht] at h
      have hv := hr.tmps t x ht
      cases x <;> first | cases h; done | skip
      all_goals
        obtain rfl := Option.some.inj h
        exact ⟨_, rfl, hv, fun l e => by cases e⟩
  | cell ad t =>
    simp only [resItem] at h
    cases ht : st.tmps[ad]? with
    | none => rw [ht] at h; cases h
    | some p =>
      rw [ht] at h
      dsimp only at h
      cases hl : loadA st.h p (E.P.cellsOf t) with
      | none => rw [hl] at h; cases h
      | some cs =>
        rw [hl] at h
        dsimp only at h
        cases hc : ofCells E.P t cs with
        | none => rw [hc] at h; cases h
        | some y =>
          rw [hc] at h
          have hv := hr.tmps ad p ht
          obtain ⟨addr, vs, hx, hlie, hcs, hlen⟩ := loadA_ok hl hv hr.heap.choose_spec.2
          obtain ⟨v', hrun, hv'⟩ := load_ok hc hlen hcs hlie
          cases y <;> first | cases h; done | skip
          all_goals
            obtain rfl := Option.some.inj h
            refine ⟨v', ?_, hv', fun l e => by cases e⟩
            simp only [resSem]
            rw [Sem.run_bind, hx]
            simpa [asAddr] using hrun

theorem resItems_ok {E : Env} {B : KS} {W : World} {ρ : Ren} {st : St} {a : Act} {w : World} (hr : Rel B W ρ st a w) : ∀ {l : List ResultVar} {vs : List AV}, l.mapM (fun r => resItem E r st) = some vs →
    ∃ us, (l.mapM (resSem a)).run E.P w = .ok us w ∧ All2 (fun x u => VR ρ x u ∧ ∀ l, x ≠ .tup l) vs us
  | [], vs, h => by simp at h; subst h; exact ⟨[], rfl, .nil⟩
  | x :: l, vs, h => by
    simp only [List.mapM_cons, Option.bind_eq_bind, Option.bind_eq_some_iff, Option.pure_def, Option.some.injEq] at h
    obtain ⟨y, hy, ys, hys, rfl⟩ := h
    obtain ⟨u, hu, hv⟩ := resItem_ok hy hr
    obtain ⟨us, hus, hvs⟩ := resItems_ok hr hys
    refine ⟨u :: us, ?_, .cons hv hvs⟩
    rw [List.mapM_cons, Sem.run_bind, hu]
    simp only [Result.andThen_ok, Sem.run_bind, hus, Sem.run_pure]

theorem resOf_ok {E : Env} {B : KS} {W : World} {ρ : Ren} {st : St} {a : Act} {w : World} {fn : Func} {v : AV} (h : resOf E fn st = some v) (hr : Rel B W ρ st a w) :
    ∃ v', (results fn a.tmps).run E.P w = .ok v' w ∧ VR ρ v v' := by
  unfold resOf at h
  cases hm : fn.results.toList.mapM (fun r => resItem E r st) with
  | none => rw [hm] at h; cases h
  | some vs =>
    rw [hm] at h
    obtain ⟨us, hus, hall⟩ := resItems_ok hr hm
    have hlen := hall.length
    have hres : (results fn a.tmps).run E.P w = .ok (if h : us.toArray.size = 1 then us.toArray[0] else .tuple us.toArray) w := by
      have e : results fn a.tmps = (do let vs ← fn.results.mapM (resSem a); pure (if h : vs.size = 1 then vs[0] else .tuple vs)) := by
        unfold results
        congr 1
      rw [e, Sem.run_bind, Array.mapM_eq_mapM_toList, Sem.run_map, hus]
      rfl
    rw [hres]
    refine ⟨_, rfl, ?_⟩
    match vs, us, hall, h with
    | [x], [u], .cons hx .nil, h =>
      obtain rfl := Option.some.inj h
      simpa using hx.1
    | [], [], .nil, h =>
      obtain rfl := Option.some.inj h
      exact ⟨#[], by simp, .nil⟩
    | x :: y :: vs, u :: u2 :: us, hall, h =>
      obtain rfl := Option.some.inj h
      refine ⟨(u :: u2 :: us).toArray, by simp, ?_⟩
      exact hall.mono fun x u hx => by rw [← VR_VR1 hx.2]; exact hx.1

/-- Names that the machine doesn't take for its own. -/
def NamesOK (P : Program) : Prop := ∀ (f : FuncId) (fn : Func), P.funcs[f]? = some fn → (fn.name == "runtime.NumGoroutine") = false

theorem body_rel {B : KS} {W : World} {ρ : Ren} {args : List AV} {h : List AB} {vs : Array Value} {w : World} (n : Nat) (ha : All2 (VR ρ) args vs.toList) (hh : HX w B ρ h) (hb : Kp B W w) :
    Rel B W ρ ⟨args ++ List.replicate (n - args.length) .junk, h⟩ { tmps := vs ++ Array.replicate (n - vs.size) undef, defers := [] } w := by
  have hlen : args.length = vs.size := by rw [ha.length]; simp
  refine ⟨by simp [hlen], fun i x hx => ?_, hh, hb, rfl⟩
  rw [List.getElem?_append] at hx
  split at hx
  · rename_i hlt
    obtain ⟨y, hy, hxy⟩ := ha.get hx
    have hi : i < vs.size := by omega
    have hy' : vs[i]? = some y := by simpa using hy
    rw [Array.getD_eq_getD_getElem?, Array.getElem?_append_left hi, hy']
    exact hxy
  · rw [List.getElem?_replicate] at hx
    split at hx
    · obtain rfl := Option.some.inj hx; trivial
    · cases hx

theorem evFn_top {E : Env} {d : Nat} {B : KS} {W : World} (hE : EnvOK E) (hmix : E.P.follows .mixedOrders = true) (hcall : ∀ {R : Type} (r : R), CallOK E.P B W (evFn E.plain d) r)
    {R : Type} {f : FuncId} {args : List AV} {h : List AB} {k : AV → List AB → Option R} {r : R} (hev : evFn E (d + 1) f args h k = some r) (hL : ∀ fn c, E.P.funcs[f]? = some fn → fn.body = some c → LoopsOK E d c)
    {ρ : Ren} {w : World} {vs : Array Value} {R' : Ending → World → Prop} (ha : All2 (VR ρ) args vs.toList) (hh : HX w B ρ h) (hb : Kp B W w)
    (hk : ∀ v h', k v h' = some r → ∀ ρ' v' w', Keeps E ρ ρ' → VR ρ' v v' → HX w' B ρ' h' → Kp B W w' → R' (.returned v') w') : Calls E.P f vs w R' := by
  simp only [evFn] at hev
  cases hf : E.P.funcs[f]? with
  | none => rw [hf] at hev; cases hev
  | some fn =>
    rw [hf] at hev
    dsimp only at hev
    cases hbd : fn.body with
    | none => rw [hbd] at hev; cases hev
    | some c =>
      rw [hbd] at hev
      dsimp only at hev
      refine calls_of_wp hf hbd (evC_sound hE hmix hcall c (hL fn c hf hbd) _ _ r hev _ ρ _ w (body_rel fn.ntmps ha hh hb) fun e st' h' ρ' a' w' hle hr' => ?_)
      have fin : ∀ v, resOf E fn st' = some v → k v st'.h = some r → a'.defers = [] ∧ ∃ v, (results fn a'.tmps).run E.P w' = .ok v w' ∧ R' (.returned v) w' := by
        intro v hv hkv
        obtain ⟨v', hrun, hvr⟩ := resOf_ok hv hr'
        exact ⟨hr'.defers, v', hrun, hk v st'.h hkv ρ' v' w' hle hvr hr'.heap hr'.below⟩
      cases e with
      | exit id => cases h'
      | normal =>
        dsimp only at h'
        cases hv : resOf E fn st' with
        | none => rw [hv] at h'; cases h'
        | some v => rw [hv] at h'; exact fin v hv h'
      | ret =>
        dsimp only at h'
        cases hv : resOf E fn st' with
        | none => rw [hv] at h'; cases h'
        | some v => rw [hv] at h'; exact fin v hv h'

theorem EnvOK.plain {E : Env} (h : EnvOK E) : EnvOK E.plain := h

/-- INLINED CALLS. -/
theorem evFn_ok {E : Env} (hE : EnvOK E) (hmix : E.P.follows .mixedOrders = true) (hN : NamesOK E.P) : ∀ (d : Nat) (B : KS) (W : World) {R : Type} (r : R), CallOK E.P B W (evFn E.plain d) r
  | 0, B, W, R, r => fun f args h k hev => by simp [evFn] at hev
  | d + 1, B, W, R, r => fun f args h k hev => by
    have hfb : ∃ fn, E.P.funcs[f]? = some fn ∧ (fn.name == "runtime.NumGoroutine") = false ∧ fn.body.isSome = true := by
      have hev' := hev
      simp only [evFn] at hev'
      cases hf : E.plain.P.funcs[f]? with
      | none => rw [hf] at hev'; cases hev'
      | some fn =>
        rw [hf] at hev'
        dsimp only at hev'
        cases hbd : fn.body with
        | none => rw [hbd] at hev'; cases hev'
        | some c => exact ⟨fn, hf, hN f fn hf, by simp [hbd]⟩
    refine ⟨hfb, fun ρ w vs R' ha hh hb hk => ?_⟩
    exact evFn_top (E := E.plain) (d := d) hE.plain hmix (fun r => evFn_ok hE hmix hN d B W r) hev (fun fn c _ _ => LoopsOK.plain E d c) ha hh hb
      (fun v h' hkv ρ' v' w' hle hv hh' hb' => hk v h' hkv ρ' v' w' (hle.all fun _ => rfl) hv hh' hb')
end Go.Ev
