/- A law's call: from what the evaluator tells of it. -/
import Derived.Test.YtgjmfljogaanfaaGreatEvN
namespace Go.Ev
open Go.ChangeShapes Go.WideShapes Go.ChangeAt Go.RowKit

def argsOK (P : Program) : List TypeId → List RPat → Bool
  | [], [] => true
  | t :: ts, r :: rs => argOK P t r && argsOK P ts rs
  | _, _ => false

section
variable {H : Type} {enc : TypeId × Value → H} {P : Program} {w : World} {held : Bool}

theorem open_args {b0 : Nat} : ∀ {ts : List TypeId} {rs : List RPat} {vs : List Value} {ds : List (DataW H)} {ps : List MemPlace}, argsOK P ts rs = true →
    (∀ (j : Nat) t v, ts[j]? = some t → vs[j]? = some v → Value.okWide P w .any b0 t v) → DataW.TrodAll enc P w 0 (fun _ => true) held ts vs ds ps →
    ∃ x : RT rs, RT.wf rs x ∧ ∀ key, ∃ rows : List Value, rows.length = (encA key rs x).2.length ∧
      ∀ ρ : Ren, (∀ (j : Nat) (v : Value), rows[j]? = some v → ρ (key + j) = some (.sv v)) → All2 (VR ρ) (encA key rs x).1 vs ∧
        ∀ (j : Nat) (b : AB), (encA key rs x).2[j]? = some b → ∃ v, rows[j]? = some v ∧ (∀ rv, ownB b rv = none) ∧ HB w (Old w) ρ b (.sv v)
  | [], [], vs, ds, ps, _, _, h => by
    obtain ⟨rfl, _, _⟩ := trodAll_nil h
    exact ⟨(), trivial, fun key => ⟨[], rfl, fun ρ _ => ⟨.nil, fun j b hb => by simp [encA] at hb⟩⟩⟩
  | [], _ :: _, _, _, _, h, _, _ => by simp [argsOK] at h
  | _ :: _, [], _, _, _, h, _, _ => by simp [argsOK] at h
  | t :: ts, r :: rs, vs, ds, ps, hk, hval, h => by
    simp only [argsOK, Bool.and_eq_true] at hk
    obtain ⟨v, vs', d, ds', p, q, rfl, rfl, rfl, hd, hrest⟩ := trodAll_cons h
    obtain ⟨x, hw, hx⟩ := open_arg hk.1 (hval 0 t v rfl rfl) hd
    obtain ⟨y, hwy, hy⟩ := open_args (rs := rs) hk.2 (fun j t v h1 h2 => hval (j + 1) t v (by simpa using h1) (by simpa using h2)) hrest
    have one : ∀ key, ∃ rows : List Value, rows.length = (encA1 key r x).2.toList.length ∧
        ∀ ρ : Ren, (∀ (j : Nat) (v : Value), rows[j]? = some v → ρ (key + j) = some (.sv v)) → VR ρ (encA1 key r x).1 v ∧
        ∀ (j : Nat) (b : AB), (encA1 key r x).2.toList[j]? = some b → ∃ v, rows[j]? = some v ∧ (∀ rv, ownB b rv = none) ∧ HB w (Old w) ρ b (.sv v) := by
      intro key
      rcases hx with hx | hx
      · obtain ⟨h1, h2⟩ := hx key
        refine ⟨[], by rw [h1]; rfl, fun ρ _ => ⟨h2 ρ, fun j b hb => ?_⟩⟩
        rw [h1] at hb; simp at hb
      · obtain ⟨uv, hx⟩ := hx
        obtain ⟨b, h1, h2, h3⟩ := hx key
        refine ⟨[uv], by rw [h1]; rfl, fun ρ hρ => ?_⟩
        obtain ⟨h4, h5⟩ := h3 ρ (hρ 0 uv rfl)
        refine ⟨h4, fun j b' hb => ?_⟩
        rw [h1] at hb
        cases j with
        | zero => simp at hb; subst hb; exact ⟨uv, rfl, h2, h5⟩
        | succ j => simp at hb
    cases rs with
    | nil =>
      obtain ⟨rows', _, hr'⟩ := hy 0
      refine ⟨x, hw, fun key => ?_⟩
      obtain ⟨rows, hl, hr⟩ := one key
      refine ⟨rows, hl, fun ρ hρ => ⟨.cons (hr ρ hρ).1 ?_, (hr ρ hρ).2⟩⟩
      cases ts with
      | nil => obtain ⟨rfl, _, _⟩ := trodAll_nil hrest; exact .nil
      | cons _ _ => simp [argsOK] at hk
    | cons r2 rs =>
      refine ⟨(x, y), ⟨hw, hwy⟩, fun key => ?_⟩
      obtain ⟨rows, hl, hr⟩ := one key
      obtain ⟨rows', hl', hr'⟩ := hy (key + (encA1 key r x).2.toList.length)
      refine ⟨rows ++ rows', by simp only [encA, List.length_append, hl, hl'], fun ρ hρ => ?_⟩
      obtain ⟨h1, h2⟩ := hr ρ (fun j v hj => hρ j v (by rw [List.getElem?_append_left (List.getElem?_eq_some_iff.1 hj).1]; exact hj))
      obtain ⟨h3, h4⟩ := hr' ρ (fun j v hj => by
        have := hρ (rows.length + j) v (by rw [List.getElem?_append_right (by omega)]; simpa using hj)
        rwa [hl, ← Nat.add_assoc] at this)
      refine ⟨.cons h1 h3, fun j b hb => ?_⟩
      simp only [encA] at hb
      rw [List.getElem?_append] at hb
      split at hb
      · rename_i hlt
        obtain ⟨v', h5, h6⟩ := h2 j b hb
        exact ⟨v', by rw [List.getElem?_append_left (by omega)]; exact h5, h6⟩
      · rename_i hlt
        obtain ⟨v', h5, h6⟩ := h4 _ b hb
        exact ⟨v', by rw [List.getElem?_append_right (by omega), hl]; exact h5, h6⟩

/-- THE WALK OF A LAW. -/
theorem law_walk {E : Nat → Env} {d : Nat} {n : FuncId} {fn : Func} {c : Code} {rs : List RPat} {b0 : Nat} {args : Array Value} {ds : List (DataW H)} {ps : List MemPlace}
    (hP : ∀ N, (E N).P = P) (hE : ∀ N, EnvOK (E N)) (hmix : P.follows .mixedOrders = true) (hN : NamesOK P) (hfn : P.funcs[n]? = some fn) (hbd : fn.body = some c) (hL : ∀ N, LoopsOK (E N) d c)
    (hk : argsOK P fn.params.toList rs = true) (hval : ∀ (j : Nat) t v, fn.params[j]? = some t → args[j]? = some v → Value.okWide P w .any b0 t v)
    (h : DataW.TrodAll enc P w 0 (fun _ => true) held fn.params.toList args.toList ds ps)
    (law : ∀ x : RT rs, RT.wf rs x → ∃ N, evFn (E N) (d + 1) n (encA 0 rs x).1 (encA 0 rs x).2 (decR [.sc .bool]) = some true) :
    Calls P n args w fun e W' => e = .returned (.bool true) ∧ Below w.heap.size w W' := by
  obtain ⟨x, hw, hx⟩ := open_args hk (fun j t v h1 h2 => hval j t v (by simpa using h1) (by simpa using h2)) h
  obtain ⟨N, hN'⟩ := law x hw
  obtain ⟨rows, hl, hr⟩ := hx 0
  let ρ : Ren := fun k => (rows[k]?).map .sv
  obtain ⟨h1, h2⟩ := hr ρ (fun j v hj => by simp only [ρ, Nat.zero_add, hj]; rfl)
  have hHR : HR w (Old w) ρ (encA 0 rs x).2 := by
    refine ⟨fun k b hk => ?_, fun k b k' b' r r' g _ h3 _ _ _ ho => ?_, fun k hk => ?_, Le.refl _⟩
    · obtain ⟨v, h3, _, h4⟩ := h2 k b hk
      exact .inr ⟨.sv v, by simp only [ρ, h3]; rfl, h4⟩
    · obtain ⟨v, _, hno, _⟩ := h2 k b h3
      rw [hno] at ho; cases ho
    · simp only [ρ]
      rw [List.getElem?_eq_none (by omega)]; rfl
  have e := hP N
  subst e
  refine evFn_top (hE N) hmix (fun r B W => evFn_ok (hE N) hmix hN d B W r) hN' (fun fn' c' h3 h4 => ?_) h1 hHR.x (Kp.refl _ _) fun v h' hdec ρ' v' w' _ hv _ hb => ?_
  · rw [hfn] at h3; obtain rfl := Option.some.inj h3
    rw [hbd] at h4; obtain rfl := Option.some.inj h4
    exact hL N
  · refine ⟨?_, hb.below⟩
    simp only [decR] at hdec
    split at hdec <;> first | cases hdec; done | skip
    simp only [resL, decRL, decR1] at hdec
    have := SK.ofAV_some hdec
    subst this
    obtain rfl : v' = .bool true := hv
    rfl

/-- The arguments read as before. -/
theorem args_back (hl : laidOutB P = true) {W' : World} (hb : Below w.heap.size w W') : ∀ {ts : List TypeId} {vs : List Value} {ds : List (DataW H)} {ps : List MemPlace}, (ts.all fun t => P.readableRec t && decide (t < P.types.size)) = true →
    DataW.TrodAll enc P w 0 (fun _ => true) true ts vs ds ps → DataW.TrodAll enc P W' 0 (fun b => decide (b < w.heap.size)) true ts vs ds ps
  | [], vs, ds, ps, _, h => by
    obtain ⟨rfl, rfl, rfl⟩ := trodAll_nil h
    exact rfl
  | t :: ts, vs, ds, ps, ht, h => by
    simp only [List.all_cons, Bool.and_eq_true, decide_eq_true_eq] at ht
    obtain ⟨v, vs', d, ds', p, q, rfl, rfl, rfl, hd, hrest⟩ := trodAll_cons h
    refine ⟨p, q, Below.trod hl ht.1.1 ht.1.2 hd hb ?_, args_back hl hb (by simpa using ht.2) hrest, rfl⟩
    obtain ⟨m, hm⟩ := hd
    exact DataW.trod_lt m _ _ _ hm
end
end Go.Ev
