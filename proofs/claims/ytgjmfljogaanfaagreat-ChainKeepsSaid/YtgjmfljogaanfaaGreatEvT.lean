/- slices.Clone: its contract, whatever its argument: nil, empty, or not. -/
import Derived.Test.YtgjmfljogaanfaaGreatEvR
namespace Go.Ev
open Go.RowKit

def cloneC (e : TypeId) (sh : List SK) (bytes : Nat) : FC := mkF [.row e sh] [.row e sh] fun _ xs => if xs.length * bytes ≤ 140737488355328 then some xs else none

theorem wp_ops1 {P : Program} {o : Oper} {Q : Exit → Act → World → Prop} {a : Act} {w : World} {v : Value} (hg : o.guard = none) (hr : (execOp a.eval o).run P w = .ok (.value v) w) (h : Q .normal (a.put o.dst v) w) :
    wpOps P #[o] Q (List.range 1) a w := by
  have hw : Region.wanted o (yielded #[o] a.tmps) = true := by simp [Region.wanted, hg]
  have : List.range 1 = [0] := rfl
  rw [this]
  show (if Region.wanted o (yielded #[o] a.tmps) then o.wp P a w (wpOps P #[o] Q []) Q ∨ (o.asks P a w ∧ LetsOut Q) else wpOps P #[o] Q [] (a.put o.dst undef) w)
  rw [if_pos hw]
  left
  unfold Oper.wp
  rw [hr]
  exact h
theorem wp_ops2 {P : Program} {o o' : Oper} {Q : Exit → Act → World → Prop} {a : Act} {w : World} {v v' : Value} (hg : o.guard = none) (hg' : o'.guard = none) (hr : (execOp a.eval o).run P w = .ok (.value v) w)
    (hr' : (execOp (a.put o.dst v).eval o').run P w = .ok (.value v') w) (h : Q .normal ((a.put o.dst v).put o'.dst v') w) : wpOps P #[o, o'] Q (List.range 2) a w := by
  have hw : ∀ a : Act, Region.wanted o (yielded #[o, o'] a.tmps) = true := fun a => by simp [Region.wanted, hg]
  have hw' : ∀ a : Act, Region.wanted o' (yielded #[o, o'] a.tmps) = true := fun a => by simp [Region.wanted, hg']
  have : List.range 2 = [0, 1] := rfl
  rw [this]
  show (if Region.wanted o (yielded #[o, o'] a.tmps) then o.wp P a w (wpOps P #[o, o'] Q [1]) Q ∨ (o.asks P a w ∧ LetsOut Q) else wpOps P #[o, o'] Q [1] (a.put o.dst undef) w)
  rw [if_pos (hw a)]
  left
  unfold Oper.wp
  rw [hr]
  show (if Region.wanted o' (yielded #[o, o'] (a.put o.dst v).tmps) then o'.wp P (a.put o.dst v) w (wpOps P #[o, o'] Q []) Q ∨ (o'.asks P (a.put o.dst v) w ∧ LetsOut Q) else wpOps P #[o, o'] Q [] ((a.put o.dst v).put o'.dst undef) w)
  rw [if_pos (hw' _)]
  left
  unfold Oper.wp
  rw [hr']
  exact h

theorem run_eql_nil' {P : Program} (w : World) (t e : TypeId) (a : Option Addr) (l c : Nat) (h : P.underlying t = some (.slice e)) : (binOp .eql t (.slice a l c) (.slice none 0 0)).run P w = .ok (.bool a.isNone) w := by
  have h1 : ∀ d : Nat, (Op.equalIn (d + 1) t (.slice a l c) (.slice none 0 0)).run P w = .ok a.isNone w := fun d => by cases a <;> simp [Op.equalIn, run_underlying h]
  have h2 : (Op.equal t (.slice a l c) (.slice none 0 0)).run P w = .ok a.isNone w := h1 9999
  simp [binOp, h2]
def cOp0 : Code → Oper | .seq (.region _ ops _) _ => ops.getD 0 ⟨none, .move (.tmp 0), 0, "", #[], none⟩ | _ => ⟨none, .move (.tmp 0), 0, "", #[], none⟩
def cOpI (i : Nat) : Code → Oper | .seq _ (.seq (.seq (.region _ ops _) _) _) => ops.getD i ⟨none, .move (.tmp 0), 0, "", #[], none⟩ | _ => ⟨none, .move (.tmp 0), 0, "", #[], none⟩
def cC : Code → Code | .seq _ (.seq (.seq _ (.cond _ C _)) _) => C | _ => .skip
def cD : Code → Code | .seq _ (.seq _ D) => D | _ => .skip
/-- The code of slices.Clone. -/
structure CloneAt (P : Program) (g : FuncId) (T : TypeId) where
  fn : Func
  i0 : Nat
  i1 : Nat
  o0 : Oper
  o1 : Oper
  o2 : Oper
  C : Code
  D : Code
  hfn : P.funcs[g]? = some fn
  hb : fn.body = some (.seq (.region i0 #[o0] false) (.seq (.seq (.region i1 #[o1, o2] false) (.cond (.tmp 4) C .skip)) D))
  hn : fn.ntmps = 8
  h0 : o0.op = .assign (.const (.slice none 0 0)) ∧ o0.dst = some 2 ∧ o0.guard = none
  h1 : o1.op = .move (.tmp 0) ∧ o1.dst = some 3 ∧ o1.guard = none
  h2 : o2.op = .binOp .eql T (.tmp 3) (.const (.slice none 0 0)) T ∧ o2.dst = some 4 ∧ o2.guard = none
/-- The rest of the code, evaluated. -/
def cloneEnv (P : Program) : Env := mkEnvX 0 [] P [] [] 0
def cloneK (P : Program) (fn : Func) (e : TypeId) (sh : List SK) (b : Bool) : Ex → St → Option (List (Row sh)) := fun x st =>
  match x with
  | .exit _ => none
  | .normal => if b then none else match resOf (cloneEnv P) fn st with | some v => decR [.row e sh] v st.h | none => none
  | .ret => match resOf (cloneEnv P) fn st with | some v => decR [.row e sh] v st.h | none => none
def cloneYes (P : Program) (fn : Func) (c : Code) (e : TypeId) (sh : List SK) (b : Bool) (xs : List (Row sh)) : Option (List (Row sh)) :=
  evC (cloneEnv P) (evFn (cloneEnv P).plain 0) c ⟨[.sl 0, .junk, .nilsl, .sl 0, .bool b, .junk, .junk, .junk], [.ext e sh xs]⟩ (cloneK P fn e sh b)

theorem LoopsOK_none {E : Env} {d : Nat} {c : Code} (h : (loopBodies c).isEmpty = true) (h2 : ∀ id, E.rorc id = none := by exact fun _ => rfl) : LoopsOK E d c :=
  LoopsOK_of c (fun b hb => by rw [List.isEmpty_iff.1 h] at hb; cases hb) fun x _ rc hrc => by
    cases hf : firstRegion x.2.2 with
    | none => rw [hf] at hrc; cases hrc
    | some id => rw [hf] at hrc; simp only [Option.bind_some] at hrc; rw [h2 id] at hrc; cases hrc
/-- What is owed of the answer. -/
def CPost (w : World) (ρ : Ren) (e : TypeId) (sh : List SK) (r : List (Row sh)) (v' : Value) (w' : World) : Prop :=
  Below w.heap.size w w' ∧ ∀ key, (∀ j, j < [AB.rows e sh r].length → ρ (key + j) = none) →
    ∃ ρ', ρ.le ρ' ∧ (∀ k, (∀ j, j < [AB.rows e sh r].length → k ≠ key + j) → ρ' k = ρ k) ∧ VR ρ' (.sl key) v' ∧
      (∀ (j : Nat) (b : AB), [AB.rows e sh r][j]? = some b → ∃ rv, ρ' (key + j) = some rv ∧ (∃ e sh xs, b = .rows e sh xs) ∧ HB w' (Old w) ρ' b rv) ∧
      (∀ (j j' : Nat) (b b' : AB) rv rv' g, j ≠ j' → [AB.rows e sh r][j]? = some b → [AB.rows e sh r][j']? = some b' → ρ' (key + j) = some rv → ρ' (key + j') = some rv' → ownB b rv = some g → ownB b' rv' ≠ some g)

theorem clone_end {P : Program} {e : TypeId} {sh : List SK} (fn : Func) (hmix : P.follows .mixedOrders = true) (hN : NamesOK P) {aa : Option Addr} {n c : Nat} {ρ ρ1 : Ren} {w : World} {b : Bool} {cc : Code} {xs r : List (Row sh)}
    (hl : LoopsOK (cloneEnv P) 0 cc) (hev : cloneYes P fn cc e sh b xs = some r) (hρ : ρ1 0 = some (.sv (.slice aa n c))) (hHX : HX w (Old w) ρ1 [.ext e sh xs]) :
    cc.wp P (fun ex a' w' => bodyPost P fn (fun e' w' => ∃ v', e' = .returned v' ∧ CPost w ρ e sh r v' w') ex a' w' ∧ (b = true → ex = .ret))
      { tmps := #[.slice aa n c, undef, .slice none 0 0, .slice aa n c, .bool b, undef, undef, undef], defers := [] } w := by
  refine wp_of_Fc (n := 0) (evC_sound cc (E := cloneEnv P) (d := 0) (fun g fc h => by cases h) hmix (fun r B W => evFn_ok (E := cloneEnv P) (fun g fc h => by cases h) hmix hN 0 B W r) none 0 (.inl rfl) hl _ _ r hev _ (Old w) w ρ1 _ w ?_ ?_)
  · refine ⟨rfl, fun i x hi => ?_, hHX, Kp.refl _ _, rfl⟩
    match i, hi with
    | 0, hi => cases hi; exact ⟨hρ, _, _, _, rfl⟩
    | 1, hi => cases hi; trivial
    | 2, hi => cases hi; rfl
    | 3, hi => cases hi; exact ⟨hρ, _, _, _, rfl⟩
    | 4, hi => cases hi; rfl
    | 5, hi => cases hi; trivial
    | 6, hi => cases hi; trivial
    | 7, hi => cases hi; trivial
    | i + 8, hi => cases hi
  · intro ex st' hk B' W' ρ' a' w' hgw hkp hr'
    obtain ⟨hB', hW'⟩ := hgw.same fun _ => rfl
    rw [hB', hW'] at hr'
    have main : ∀ v, resOf (cloneEnv P) fn st' = some v → decR [.row e sh] v st'.h = some r → a'.defers = [] ∧ ∃ v, (results fn a'.tmps).run P w' = .ok v w' ∧ ∃ v', Ending.returned v = .returned v' ∧ CPost w ρ e sh r v' w' := fun v h1 h2 => by
      obtain ⟨v', hrn, hvr⟩ := resOf_ok h1 hr'
      refine ⟨hr'.defers, v', hrn, v', rfl, hr'.below.below, fun key hkey => ?_⟩
      obtain ⟨K, hs, hq⟩ := hr'.heap
      obtain ⟨ρ2, g1, g2, g3, g4, g5⟩ := put_ok h2 hvr hq key hkey
      refine ⟨ρ2, g1, g2, g3, fun j b hb => ?_, g5⟩
      obtain ⟨rv, e1, ⟨e, sh, xs, rfl⟩, e3⟩ := g4 j b hb
      exact ⟨rv, e1, ⟨e, sh, xs, rfl⟩, e3.lower hs.le⟩
    cases ex with
    | exit id => cases hk
    | normal =>
      simp only [cloneK] at hk
      split at hk <;> first | cases hk; done | skip
      rename_i hbb
      cases hv : resOf (cloneEnv P) fn st' with
      | none => rw [hv] at hk; cases hk
      | some v => rw [hv] at hk; exact ⟨main v hv hk, fun e => absurd e hbb⟩
    | ret =>
      simp only [cloneK] at hk
      cases hv : resOf (cloneEnv P) fn st' with
      | none => rw [hv] at hk; cases hk
      | some v => rw [hv] at hk; exact ⟨main v hv hk, fun _ => rfl⟩

theorem wp_mono' {P : Program} {c : Code} {Q Q' : Exit → Act → World → Prop} {a : Act} {w : World} (h : c.wp P Q a w) (hq : ∀ e a w, Q e a w → Q' e a w) : c.wp P Q' a w := (wpIn_wide (n := 0)).1 (wpIn_mono ((wpIn_wide (n := 0)).2 h) hq)

theorem clone_ok {P : Program} {N g : Nat} {T e : TypeId} {sh : List SK} {bytes : Nat} (A : CloneAt P g T) (hF : Facts P) (hname : (A.fn.name == "runtime.NumGoroutine") = false) (hT : P.underlying T = some (.slice e)) (hsh : 0 < sh.length)
    (hLC : LoopsOK (cloneEnv P) 0 A.C) (hLD : LoopsOK (cloneEnv P) 0 A.D)
    (hC : cloneYes P A.fn A.C e sh true [] = some []) (hD : ∀ xs : List (Row sh), cloneYes P A.fn A.D e sh false xs = bif decide ((([] : List (Row sh)).length + xs.length) * bytes ≤ 140737488355328) then some xs else none) : FCOK P N g (cloneC e sh bytes) :=
  .body A.fn A.hfn hname (by rw [A.hb]; rfl) <| FCCalls.of_makes (nb := fun r => [.rows e sh r]) (fun _ _ _ => rfl) (fun _ _ _ => rfl) fun as hm ρ w B vs t ks r ha hh hd hr => by
    obtain ⟨t1, hd', e1⟩ := Option.map_eq_some_iff.1 (show (getS true 0 (aPs 0 [.row e sh]) (aHs [.row e sh]) as hm).map (fun t => (t, ([] : List Nat))) = some (t, ks) from hd)
    obtain rfl : t1 = t := (Prod.mk.inj e1).1
    clear e1
    obtain ⟨hr1, ha1⟩ := getS_HR (weak := true) (ps := aPs 0 [.row e sh]) (hs := aHs [.row e sh]) (fun _ => rfl) rfl rfl hd' hh
    have ha2 := ha1 _ ha
    obtain ⟨⟨⟩, xs, ⟨⟩⟩ := t1
    have hrun : (if xs.length * bytes ≤ 140737488355328 then some xs else none) = some r := hr
    obtain ⟨l⟩ := vs
    cases ha2 with
    | cons hv hrest =>
    cases hrest
    rename_i v
    obtain ⟨hρ, aa, n, c, rfl⟩ := hv
    obtain ⟨ρ1, hρ1⟩ : ∃ ρ1, ρ1 = renOf ρ (sigS 0 (aPs 0 [.row e sh]) (aHs [.row e sh]) as hm) (aHs [.row e sh]).length := ⟨_, rfl⟩
    rw [← hρ1] at hr1 hρ
    have hHX : HX w (Old w) ρ1 [.ext e sh xs] := hr1.x
    have hnil : aa = none → xs = [] := by
      intro e0
      subst e0
      rcases hr1.blk 0 _ rfl with e | ⟨r0, h1, h2⟩
      · cases e
      rw [hρ] at h1; obtain rfl := Option.some.inj h1
      obtain ⟨_, a1, c1, e2, _, h3⟩ := h2
      cases e2
      cases xs with
      | nil => rfl
      | cons x xs =>
        have hp : 0 < (flat sh (x :: xs)).length := by rw [flat_length]; exact Nat.mul_pos (by simp) hsh
        obtain ⟨_, e, _⟩ := h3 0 _ (List.getElem?_eq_getElem hp)
        cases e
    refine calls_of_wp A.hfn A.hb ?_
    rw [A.hn]
    have e8 : (#[Value.slice aa n c] ++ Array.replicate (8 - (#[Value.slice aa n c]).size) undef : Array Value) = #[.slice aa n c, undef, undef, undef, undef, undef, undef, undef] := rfl
    show Code.wp P _ _ { tmps := (#[Value.slice aa n c] ++ Array.replicate (8 - (#[Value.slice aa n c]).size) undef : Array Value), defers := [] } w
    rw [e8]
    obtain ⟨a0, b0, c0⟩ := A.h0; obtain ⟨a1, b1, c1⟩ := A.h1; obtain ⟨a2, b2, c2⟩ := A.h2
    refine wp_seq (wp_region (wp_ops1 (v := .slice none 0 0) c0 (by simp [execOp, a0, Act.eval]) ?_))
    rw [b0]
    show Code.wp P _ _ { tmps := #[.slice aa n c, undef, .slice none 0 0, undef, undef, undef, undef, undef], defers := [] } w
    refine wp_seq (wp_seq (wp_region (wp_ops2 (v := .slice aa n c) (v' := .bool aa.isNone) c1 c2 (by simp [execOp, a1, Act.eval]) ?_ ?_)))
    · rw [b1]
      have := run_eql_nil' (P := P) w T e aa n c hT
      simp [execOp, a2, Act.eval, Act.put, eqGuard, this]
    rw [b1, b2]
    show Code.wp P _ _ { tmps := #[.slice aa n c, undef, .slice none 0 0, .slice aa n c, .bool aa.isNone, undef, undef, undef], defers := [] } w
    cases hb : aa.isNone with
    | true =>
      have hx := hnil (by simpa using hb)
      subst hx
      have er : some [] = some r := by rw [← hrun]; simp
      obtain rfl := Option.some.inj er
      refine wp_cond_true rfl (wp_mono' (clone_end (ρ := ρ) A.fn hF.mix hF.names hLC hC hρ hHX) fun ex a' w' hq => ?_)
      obtain ⟨h1, h2⟩ := hq
      obtain rfl := h2 rfl
      exact h1
    | false =>
      refine wp_cond_false rfl (wp_skip ?_)
      exact wp_mono' (clone_end (ρ := ρ) A.fn hF.mix hF.names hLD ((hD xs).trans (Eq.trans (by simp [Bool.cond_decide]) hrun)) hρ hHX) fun ex a' w' hq => hq.1

/-! Entries of flows, told one by one (an iterator of the meter's): which are told; the slice and the number that it has captured. -/
abbrev sh6 : List SK := [.int .i64, .int .i64, .int .i64, .int .i64, .int .i64, .int .i64]
def metP (n : Int) (e : Row sh6) : Bool := (e.2.1 != 8) && (decide (0 ≤ e.2.2.1) && decide (e.2.2.1 < n))
def metOf (xs : List (Row sh6)) (n : Int) : List (Row sh6) := xs.filter (metP n)
def metDec (e : TypeId) (cap : List (Nat × Nat)) (h : List AB) : Option (List (Row sh6)) :=
  match cap with
  | [(a, 0), (b, 0)] =>
    match h[a]?, h[b]? with
    | some (.rcells [.nilsl]), some (.rcells [.int .i64 _]) => some []
    | some (.rcells [.sl k]), some (.rcells [.int .i64 n]) =>
      match h[k]? with
      | some (.ext e' sh xs) => if e' = e then (if hs : sh = sh6 then (bif decide (xs.length ≤ 1000000000) then some (metOf (hs ▸ xs) n) else none) else none) else none
      | _ => none
    | _, _ => none
  | _ => none

/-! Rows of twelve numbers, by the place of each. -/
abbrev R12 : Type := Int × Int × Int × Int × Int × Int × Int × Int × Int × Int × Int × Int
def z12 : R12 := (0, (0, (0, (0, (0, (0, (0, (0, (0, (0, (0, 0)))))))))))
def get12 (r : R12) : Nat → Int
  | 0 => r.1
  | 1 => r.2.1
  | 2 => r.2.2.1
  | 3 => r.2.2.2.1
  | 4 => r.2.2.2.2.1
  | 5 => r.2.2.2.2.2.1
  | 6 => r.2.2.2.2.2.2.1
  | 7 => r.2.2.2.2.2.2.2.1
  | 8 => r.2.2.2.2.2.2.2.2.1
  | 9 => r.2.2.2.2.2.2.2.2.2.1
  | 10 => r.2.2.2.2.2.2.2.2.2.2.1
  | _ => r.2.2.2.2.2.2.2.2.2.2.2
def set12 (r : R12) (v : Int) : Nat → R12
  | 0 => (v, r.2)
  | 1 => (r.1, (v, r.2.2))
  | 2 => (r.1, (r.2.1, (v, r.2.2.2)))
  | 3 => (r.1, (r.2.1, (r.2.2.1, (v, r.2.2.2.2))))
  | 4 => (r.1, (r.2.1, (r.2.2.1, (r.2.2.2.1, (v, r.2.2.2.2.2)))))
  | 5 => (r.1, (r.2.1, (r.2.2.1, (r.2.2.2.1, (r.2.2.2.2.1, (v, r.2.2.2.2.2.2))))))
  | 6 => (r.1, (r.2.1, (r.2.2.1, (r.2.2.2.1, (r.2.2.2.2.1, (r.2.2.2.2.2.1, (v, r.2.2.2.2.2.2.2)))))))
  | 7 => (r.1, (r.2.1, (r.2.2.1, (r.2.2.2.1, (r.2.2.2.2.1, (r.2.2.2.2.2.1, (r.2.2.2.2.2.2.1, (v, r.2.2.2.2.2.2.2.2))))))))
  | 8 => (r.1, (r.2.1, (r.2.2.1, (r.2.2.2.1, (r.2.2.2.2.1, (r.2.2.2.2.2.1, (r.2.2.2.2.2.2.1, (r.2.2.2.2.2.2.2.1, (v, r.2.2.2.2.2.2.2.2.2)))))))))
  | 9 => (r.1, (r.2.1, (r.2.2.1, (r.2.2.2.1, (r.2.2.2.2.1, (r.2.2.2.2.2.1, (r.2.2.2.2.2.2.1, (r.2.2.2.2.2.2.2.1, (r.2.2.2.2.2.2.2.2.1, (v, r.2.2.2.2.2.2.2.2.2.2))))))))))
  | 10 => (r.1, (r.2.1, (r.2.2.1, (r.2.2.2.1, (r.2.2.2.2.1, (r.2.2.2.2.2.1, (r.2.2.2.2.2.2.1, (r.2.2.2.2.2.2.2.1, (r.2.2.2.2.2.2.2.2.1, (r.2.2.2.2.2.2.2.2.2.1, (v, r.2.2.2.2.2.2.2.2.2.2.2)))))))))))
  | _ => (r.1, (r.2.1, (r.2.2.1, (r.2.2.2.1, (r.2.2.2.2.1, (r.2.2.2.2.2.1, (r.2.2.2.2.2.2.1, (r.2.2.2.2.2.2.2.1, (r.2.2.2.2.2.2.2.2.1, (r.2.2.2.2.2.2.2.2.2.1, (r.2.2.2.2.2.2.2.2.2.2.1, v)))))))))))
def metGet (xs : List R12) (i j : Nat) : Int := get12 (xs.getD i z12) j
def metSet (xs : List R12) (i j : Nat) (f : Int → Int) : List R12 := xs.set i (set12 (xs.getD i z12) (f (get12 (xs.getD i z12) j)) j)
end Go.Ev
