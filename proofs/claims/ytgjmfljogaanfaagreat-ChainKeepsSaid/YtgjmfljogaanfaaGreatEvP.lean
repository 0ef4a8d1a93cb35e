/- The forms in which a session's texts use the evaluator: functions one after the other, laws. -/
import Derived.Test.YtgjmfljogaanfaaGreatEvO
import Derived.KernelRfl
namespace Go.Ev
open Go.RowKit

/-- A text by its bytes. -/
def bytesL (l : List Nat) : ByteArray := ⟨(l.map UInt8.ofNat).toArray⟩

def orcL : List (Nat × FC) → FuncId → Option FC
  | [], _ => none
  | (n, c) :: t, g => if g = n then some c else orcL t g
def lorcL : List (Nat × LC) → Nat → Option LC
  | [], _ => none
  | (n, c) :: t, g => if g = n then some c else lorcL t g
def rorcL : List (Nat × RC) → Nat → Option RC
  | [], _ => none
  | (n, c) :: t, g => if g = n then some c else rorcL t g
def mkEnvX (n0 : Nat) (pins : List (Nat × Nat)) (P : Program) (l : List (Nat × FC)) (ls : List (Nat × LC)) (N : Nat) (rs : List (Nat × RC) := []) : Env := { P := P, N := N, orc := orcL l, lorc := lorcL ls, n0 := n0, unr := 100, pins := pins, rorc := rorcL rs }
abbrev mkEnv (P : Program) (l : List (Nat × FC)) (ls : List (Nat × LC)) (N : Nat) : Env := mkEnvX 0 [] P l ls N

/-- What is asked of the program. -/
structure Facts (P : Program) : Prop where
  mix : P.follows .mixedOrders = true
  names : NamesOK P
def namesB (P : Program) : Bool := P.funcs.toList.all fun fn => !(fn.name == "runtime.NumGoroutine")
theorem names_of {P : Program} (h : namesB P = true) : NamesOK P := by
  intro f fn hf
  have := List.all_eq_true.1 h fn (by
    have := Array.getElem?_eq_some_iff.1 hf
    rw [← this.2]; exact Array.getElem_mem_toList this.1)
  simpa using this

def OrcOK (P : Program) (l : List (Nat × FC)) (N : Nat) : Prop := ∀ g fc, orcL l g = some fc → FCOK P N g fc
theorem orc_nil {P : Program} {N : Nat} : OrcOK P [] N := fun g fc h => by cases h
theorem orc_cons {P : Program} {N : Nat} {l : List (Nat × FC)} {g : Nat} {fc : FC} (h : FCOK P N g fc) (hl : OrcOK P l N) : OrcOK P ((g, fc) :: l) N := by
  intro g' fc' h'
  simp only [orcL] at h'
  split at h'
  · rename_i e; subst e; obtain rfl := Option.some.inj h'; exact h
  · exact hl g' fc' h'

def bodyOf (P : Program) (g : Nat) : Code := ((P.funcs[g]?).bind (·.body)).getD .skip
def hasBody (P : Program) (g : Nat) : Bool := ((P.funcs[g]?).bind (·.body)).isSome
def loopBodies : Code → List Code
  | .seq a b => loopBodies a ++ loopBodies b
  | .cond _ a b => loopBodies a ++ loopBodies b
  | .block _ a => loopBodies a
  | .loop a => a :: loopBodies a
  | .scope a => loopBodies a
  | _ => []
def loopAt (P : Program) (g j : Nat) : Code := (loopBodies (bodyOf P g)).getD j .skip

def rangeBodies : Code → List (Array Tmp × Code × Code)
  | .seq a b => rangeBodies a ++ rangeBodies b
  | .cond _ a b => rangeBodies a ++ rangeBodies b
  | .block _ a => rangeBodies a
  | .loop a => rangeBodies a
  | .scope a => rangeBodies a
  | .rangeFunc _ ps a b => [(ps, a, b)]
  | _ => []
def rangeAt (P : Program) (g j : Nat) : Array Tmp × Code × Code := (rangeBodies (bodyOf P g)).getD j (#[], .skip, .skip)

theorem LoopsOK_of {E : Env} {d : Nat} : ∀ (c : Code), (∀ b, b ∈ loopBodies c → ∀ lc, (firstRegion b).bind E.lorc = some lc → LCOK E d b lc) → (∀ x, x ∈ rangeBodies c → ∀ rc, (firstRegion x.2.2).bind E.rorc = some rc → RCOK E d x.1 x.2.1 x.2.2 rc) → LoopsOK E d c
  | .seq a b, h, g => ⟨LoopsOK_of a (fun x hx => h x (by simp [loopBodies, hx])) fun x hx => g x (by simp [rangeBodies, hx]), LoopsOK_of b (fun x hx => h x (by simp [loopBodies, hx])) fun x hx => g x (by simp [rangeBodies, hx])⟩
  | .cond _ a b, h, g => ⟨LoopsOK_of a (fun x hx => h x (by simp [loopBodies, hx])) fun x hx => g x (by simp [rangeBodies, hx]), LoopsOK_of b (fun x hx => h x (by simp [loopBodies, hx])) fun x hx => g x (by simp [rangeBodies, hx])⟩
  | .block _ a, h, g => LoopsOK_of a (fun x hx => h x (by simp [loopBodies, hx])) fun x hx => g x (by simp [rangeBodies, hx])
  | .loop a, h, g => ⟨fun lc hlc => h a (by simp [loopBodies]) lc hlc, LoopsOK_of a (fun x hx => h x (by simp [loopBodies, hx])) fun x hx => g x (by simp [rangeBodies, hx])⟩
  | .skip, _, _ => trivial
  | .region .., _, _ => trivial
  | .rangeFunc _ ps a b, _, g => fun rc hrc => g (ps, a, b) (by simp [rangeBodies]) rc hrc
  | .exit _, _, _ => trivial
  | .scope a, h, g => LoopsOK_of a (fun x hx => h x (by simp [loopBodies, hx])) fun x hx => g x (by simp [rangeBodies, hx])
  | .label _, _, _ => trivial
  | .goto _, _, _ => trivial
  | .ret, _, _ => trivial
  | .refuse _, _, _ => trivial

/-- The loops of a function, each with what is known of it. -/
structure LoopsFor (E : Env) (P : Program) (g n : Nat) : Prop where
  len : (loopBodies (bodyOf P g)).length = n
  loops : ∀ j, j < n → (∃ lc, (firstRegion (loopAt P g j)).bind E.lorc = some lc ∧ LCOK E 12 (loopAt P g j) lc) ∨ (firstRegion (loopAt P g j)).bind E.lorc = none
  ranges : ∀ x, x ∈ rangeBodies (bodyOf P g) → ∀ rc, (firstRegion x.2.2).bind E.rorc = some rc → RCOK E 12 x.1 x.2.1 x.2.2 rc
theorem loops_mk {E : Env} {P : Program} {g n : Nat} (h1 : (loopBodies (bodyOf P g)).length = n) (h2 : ∀ j, j < n → (∃ lc, (firstRegion (loopAt P g j)).bind E.lorc = some lc ∧ LCOK E 12 (loopAt P g j) lc) ∨ (firstRegion (loopAt P g j)).bind E.lorc = none) (h3 : ∀ id, E.rorc id = none) : LoopsFor E P g n :=
  ⟨h1, h2, fun x _ rc hrc => by
    cases hf : firstRegion x.2.2 with
    | none => rw [hf] at hrc; cases hrc
    | some id => rw [hf] at hrc; simp only [Option.bind_some] at hrc; rw [h3 id] at hrc; cases hrc⟩
theorem loops_mkR {E : Env} {P : Program} {g n : Nat} (m : Nat) (h1 : (loopBodies (bodyOf P g)).length = n) (h2 : ∀ j, j < n → (∃ lc, (firstRegion (loopAt P g j)).bind E.lorc = some lc ∧ LCOK E 12 (loopAt P g j) lc) ∨ (firstRegion (loopAt P g j)).bind E.lorc = none)
    (h3 : (rangeBodies (bodyOf P g)).length = m) (h4 : ∀ j, j < m → ∃ rc, (firstRegion (rangeAt P g j).2.2).bind E.rorc = some rc ∧ RCOK E 12 (rangeAt P g j).1 (rangeAt P g j).2.1 (rangeAt P g j).2.2 rc) : LoopsFor E P g n :=
  ⟨h1, h2, fun x hx rc hrc => by
    obtain ⟨j, hj, rfl⟩ := List.mem_iff_getElem.1 hx
    have e : rangeAt P g j = (rangeBodies (bodyOf P g))[j] := by simp [rangeAt, List.getD, hj]
    obtain ⟨rc', q1, q2⟩ := h4 j (by rw [← h3]; exact hj)
    rw [e] at q1 q2
    rw [q1] at hrc
    obtain rfl := Option.some.inj hrc
    exact q2⟩
theorem LoopsFor.ok {E : Env} {P : Program} {g n : Nat} (h : LoopsFor E P g n) : LoopsOK E 12 (bodyOf P g) := by
  refine LoopsOK_of _ (fun b hb lc hlc => ?_) h.ranges
  obtain ⟨j, hj, rfl⟩ := List.mem_iff_getElem.1 hb
  have e : loopAt P g j = (loopBodies (bodyOf P g))[j] := by simp [loopAt, List.getD, hj]
  rcases h.loops j (by rw [← h.len]; exact hj) with ⟨lc', h1, h2⟩ | h1
  case inr => rw [e, hlc] at h1; cases h1
  rw [e] at h1 h2
  rw [h1] at hlc
  obtain rfl := Option.some.inj hlc
  exact h2

theorem body_of {P : Program} {g : Nat} (h : hasBody P g = true) : ∃ fn, P.funcs[g]? = some fn ∧ fn.body = some (bodyOf P g) := by
  unfold hasBody at h
  unfold bodyOf
  cases hf : P.funcs[g]? with
  | none => rw [hf] at h; cases h
  | some fn =>
    rw [hf] at h
    cases hb : fn.body with
    | none => rw [Option.bind_some, hb] at h; cases h
    | some c => exact ⟨fn, rfl, by rw [Option.bind_some, hb]; rfl⟩

def argB (ks : List RPat) : Bool := okP (aPs 0 ks) (aHs ks) && (aHs ks).all HPat.ro

/-- A FUNCTION. -/
theorem fun_ok {P : Program} {l : List (Nat × FC)} {ls : List (Nat × LC)} {N g n : Nat} {ks rs : List RPat} {f : Nat → Cur ks (Option (RT rs))} (hF : Facts P) (hO : OrcOK P l N) (hb : hasBody P g = true) (ha : argB ks = true)
    {pins : List (Nat × Nat)} {rs0 : List (Nat × RC)} (hL : LoopsFor (mkEnvX 0 pins P l ls N rs0) P g n)
    (hrun : ∀ t : PT (aPs 0 ks) × HT (aHs ks), unc 0 ks (f N) t.1 t.2 = evFn (mkEnvX 0 pins P l ls N rs0) 13 g (putP (aPs 0 ks) t.1) (putH (aHs ks) t.2) (decR rs)) : FCOK P N g (mkF ks rs f) := by
  obtain ⟨fn, h1, h2⟩ := body_of hb
  simp only [argB, Bool.and_eq_true] at ha
  exact mkFC_ok (E := mkEnvX 0 pins P l ls N rs0) (d := 12) hO hF.mix hF.names h1 h2 hL.ok ha.1 ha.2 hrun

/-- A FUNCTION that reads through pointers. -/
theorem ro_ok {P : Program} {l : List (Nat × FC)} {ls : List (Nat × LC)} {N g n : Nat} {ps : List Pat} {hs : List HPat} {rs : List RPat} {f : Nat → PT ps × HT hs → Option (RT rs)} (hF : Facts P) (hO : OrcOK P l N) (hb : hasBody P g = true) (ha : (okP ps hs && hs.all HPat.ro) = true)
    {pins : List (Nat × Nat)} {rs0 : List (Nat × RC)} (hL : LoopsFor (mkEnvX 0 pins P l ls N rs0) P g n)
    (hrun : ∀ t : PT ps × HT hs, f N t = evFn (mkEnvX 0 pins P l ls N rs0) 13 g (putP ps t.1) (putH hs t.2) (decR rs)) : FCOK P N g (mkFC ps hs rs f) := by
  obtain ⟨fn, h1, h2⟩ := body_of hb
  simp only [Bool.and_eq_true] at ha
  exact mkFC_ok (E := mkEnvX 0 pins P l ls N rs0) (d := 12) hO hF.mix hF.names h1 h2 hL.ok ha.1 ha.2 hrun

def uncR {R : Type} : (ks : List RPat) → Cur ks R → RT ks → R
  | [], f, _ => f
  | [_], f, x => f x
  | _ :: a :: t, f, x => uncR (a :: t) (f x.1) x.2

/-- A LAW. -/
theorem law_ok {H : Type} {enc : TypeId × Value → H} {w : World} {held : Bool} {P : Program} {l : List (Nat × FC)} {ls : Nat → List (Nat × LC)} {g n : Nat} {fn : Func} {ks : List RPat} {f : Nat → Cur ks (Option Bool)} {b0 : Nat} {args : Array Value} {ds : List (DataW H)} {ps : List MemPlace}
    (hF : Facts P) (hO : ∀ N, OrcOK P l N) (hb : hasBody P g = true) (hfn : P.funcs[g]? = some fn) {pins : List (Nat × Nat)} {rs0 : Nat → List (Nat × RC)} (hL : ∀ N, LoopsFor (mkEnvX 0 pins P l (ls N) N (rs0 N)) P g n)
    (hk : argsOK P fn.params.toList ks = true)
    (hrun : ∀ N (x : RT ks), uncR ks (f N) x = evFn (mkEnvX 0 pins P l (ls N) N (rs0 N)) 13 g (encA 0 ks x).1 (encA 0 ks x).2 (decR [.sc .bool]))
    (law : ∀ x : RT ks, RT.wf ks x → ∃ N, uncR ks (f N) x = some true)
    (hval : ∀ (j : Nat) t v, fn.params[j]? = some t → args[j]? = some v → Value.okWide P w .any b0 t v)
    (h : DataW.TrodAll enc P w 0 (fun _ => true) held fn.params.toList args.toList ds ps) :
    Calls P g args w fun e W' => e = .returned (.bool true) ∧ Below w.heap.size w W' := by
  obtain ⟨fn', h1, h2⟩ := body_of hb
  rw [hfn] at h1; obtain rfl := Option.some.inj h1
  refine law_walk (E := fun N => mkEnvX 0 pins P l (ls N) N (rs0 N)) (d := 12) (fun _ => rfl) hO hF.mix hF.names hfn h2 (fun N => (hL N).ok) hk hval h fun x hx => ?_
  obtain ⟨N, hN⟩ := law x hx
  exact ⟨N, (hrun N x).symm.trans hN⟩

/-! A sum with a carry: the machine's own. -/
def add64 (x y c : Int) : Option (Int × Int) := bif decide (0 ≤ x) && decide (0 ≤ y) && decide (0 ≤ c) && decide (c ≤ 1) then some ((x + y + c) % 18446744073709551616, (x + y + c) / 18446744073709551616) else none
def add64C : FC := mkF [.sc (.int .u64), .sc (.int .u64), .sc (.int .u64)] [.sc (.int .u64), .sc (.int .u64)] fun _ x y c => add64 x y c
theorem getP_int {σ : Sig} {k : IntKind} {ps : List Pat} {as : List AV} {y : PT (.sc (.int k) :: ps)} (h : getP σ (.sc (.int k) :: ps) as = some y) : ∃ vs, as = .int k y.1 :: vs ∧ getP σ ps vs = some y.2 := by
  cases as with
  | nil => simp [getP] at h
  | cons v vs =>
    simp only [getP, getP1, getL1, Option.bind_eq_some_iff, Option.map_eq_some_iff] at h
    obtain ⟨x, h1, z, h2, rfl⟩ := h
    refine ⟨vs, ?_, h2⟩
    cases v <;> simp only [SK.ofAV, reduceCtorEq] at h1
    split at h1 <;> simp only [Option.some.injEq, reduceCtorEq] at h1
    rename_i e
    subst e; subst h1; rfl
theorem add64_ext (P : Program) (N : Nat) : FCExt P N add64C add64Entry := by
  intro as hm ρ w B vs t ks r ha _ hd hr
  obtain ⟨⟨x, y, c, u⟩, u'⟩ := t
  obtain ⟨t1, hd0, e⟩ := Option.map_eq_some_iff.1 (show (getS true 0 [.sc (.int .u64), .sc (.int .u64), .sc (.int .u64)] [] as hm).map (fun t => (t, ([] : List Nat))) = some (((x, y, c, u), u'), ks) from hd)
  obtain rfl := (Prod.mk.inj e).1
  have has : as = [.int .u64 x, .int .u64 y, .int .u64 c] := by
    have hd' : getS true 0 [.sc (.int .u64), .sc (.int .u64), .sc (.int .u64)] [] as hm = some ((x, y, c, u), u') := hd0
    unfold getS at hd'
    extract_lets σ at hd'
    split at hd' <;> first | cases hd'; done | skip
    obtain ⟨p, h1, h2⟩ := Option.bind_eq_some_iff.1 hd'
    obtain ⟨_, _, h3⟩ := Option.map_eq_some_iff.1 h2
    have hp : p = (x, y, c, u) := congrArg Prod.fst h3
    subst hp
    obtain ⟨l1, rfl, h1⟩ := getP_int h1
    obtain ⟨l2, rfl, h1⟩ := getP_int h1
    obtain ⟨l3, rfl, h1⟩ := getP_int h1
    cases l3 with
    | nil => rfl
    | cons _ _ => simp [getP] at h1
  subst has
  have hr' : add64 x y c = some r := hr
  unfold add64 at hr'
  cases hc : (decide (0 ≤ x) && decide (0 ≤ y) && decide (0 ≤ c) && decide (c ≤ 1)) with
  | false => rw [hc] at hr'; cases hr'
  | true =>
    rw [hc] at hr'
    simp only [Bool.and_eq_true, decide_eq_true_eq] at hc
    obtain rfl := Option.some.inj hr'
    have hv : vs = #[.int .u64 x, .int .u64 y, .int .u64 c] := by
      obtain ⟨l⟩ := vs
      cases ha with
      | cons h1 q1 => cases q1 with
        | cons h2 q2 => cases q2 with
          | cons h3 q3 => cases q3 with
            | nil =>
              have e1 : _ = Value.int .u64 x := h1
              have e2 : _ = Value.int .u64 y := h2
              have e3 : _ = Value.int .u64 c := h3
              rw [e1, e2, e3]
    subst hv
    refine ⟨fun _ => ⟨rfl, rfl⟩, _, run_add64 x y c hc.1.1.1 hc.1.1.2 hc.1.2 hc.2 w, fun key => ⟨_, rfl, ?_⟩⟩
    exact .cons rfl (.cons rfl .nil)
theorem add64_ok {P : Program} {N g : Nat} {fn : Func} (hfn : P.funcs[g]? = some fn) (hname : (fn.name == "runtime.NumGoroutine") = false) (hb : fn.body.isNone = true) (hn : Extern.findNext fn = none) (he : Extern.find fn = some add64Entry) : FCOK P N g add64C :=
  .ext fn add64Entry hfn hname hb hn he (add64_ext P N)
end Go.Ev
