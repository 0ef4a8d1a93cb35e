/- Contracts of functions and loops, by patterns. -/
import Derived.Test.YtgjmfljogaanfaaGreatEvL
namespace Go.Ev
open Go.RowKit

/-- A result's pattern. -/
inductive RPat where
  | sc (s : SK)
  | agg (sh : List SK)
  | row (e : TypeId) (sh : List SK)
  | mix (e e2 : TypeId) (sh sh2 : List SK)
  | aggs (sh : List SK) (e2 : TypeId) (sh2 : List SK)
abbrev RPat.T : RPat → Type
  | .sc s => s.T
  | .agg sh => Row sh
  | .row _ sh => List (Row sh)
  | .mix _ _ sh sh2 => List (Row sh × List (Row sh2))
  | .aggs sh _ sh2 => Row sh × List (Row sh2)
abbrev RTOf (r : RPat) (t : List RPat) (R : Type) : Type := match t with | [] => r.T | _ :: _ => r.T × R
abbrev RT : List RPat → Type
  | [] => Unit
  | r :: t => RTOf r t (RT t)
def decR1 (h : List AB) : (r : RPat) → AV → Option r.T
  | .sc s, v => s.ofAV v
  | .agg sh, .agg cs => Row.ofAVs sh cs
  | .row e sh, v =>
    match v with
    | .nilsl => if 0 < sh.length then some [] else none
    | .sl k =>
      match h[k]? with
      | some (.rows e' sh' xs) => if hs : e' = e ∧ sh' = sh then some (hs.2 ▸ xs) else none
      | _ => none
    | _ => none
  | _, _ => none
def decRL (h : List AB) : (rs : List RPat) → List AV → Option (RT rs)
  | [], [] => some ()
  | [r], [v] => decR1 h r v
  | r :: a :: t, v :: vs => (decR1 h r v).bind fun x => (decRL h (a :: t) vs).map fun y => (x, y)
  | _, _ => none
def rKey : RPat → AV → Option Nat
  | .row .., .sl k => some k
  | _, _ => none
def rKeys : List RPat → List AV → List Nat
  | r :: rs, v :: vs => match rKey r v with | some k => k :: rKeys rs vs | none => rKeys rs vs
  | _, _ => []
def resL (rs : List RPat) (v : AV) : List AV :=
  match rs with
  | [_] => [v]
  | _ => match v with | .tup vs => vs | _ => [.junk]
/-- A function's answer, decoded. -/
def decR (rs : List RPat) (v : AV) (h : List AB) : Option (RT rs) :=
  if (rKeys rs (resL rs v)).Nodup then decRL h rs (resL rs v) else none

def encR1 (key : Nat) : (r : RPat) → r.T → AV × Option AB
  | .sc s, x => (s.toAV x, none)
  | .agg sh, x => (.agg (Row.toAVs sh x), none)
  | .row e sh, xs => (.sl key, some (.rows e sh xs))
  | .mix e e2 sh sh2, xs => (.sl key, some (.mixe e e2 sh sh2 xs))
  | .aggs sh e2 sh2, x => (.agg (Row.toAVs sh x.1 ++ [.sl key]), some (.ext e2 sh2 x.2))
def encRL : Nat → (rs : List RPat) → RT rs → List AV × List AB
  | _, [], _ => ([], [])
  | key, [r], x => ([(encR1 key r x).1], (encR1 key r x).2.toList)
  | key, r :: a :: t, x =>
    ((encR1 key r x.1).1 :: (encRL (key + (encR1 key r x.1).2.toList.length) (a :: t) x.2).1,
     (encR1 key r x.1).2.toList ++ (encRL (key + (encR1 key r x.1).2.toList.length) (a :: t) x.2).2)
def encR (rs : List RPat) (key : Nat) (x : RT rs) : AV :=
  match rs, (encRL key rs x).1 with
  | [_], v :: _ => v
  | _, vs => .tup vs

/-- A contract. -/
def mkFC (ps : List Pat) (hs : List HPat) (rs : List RPat) (run : Nat → PT ps × HT hs → Option (RT rs)) : FC where
  T := PT ps × HT hs
  R := RT rs
  eff := false
  dec := fun as h => (getS true 0 ps hs as h).map fun t => (t, [])
  run := run
  enc := fun _ => encR rs
  nb := fun _ _ r => (encRL 0 rs r).2
  up := fun _ _ _ => []

/-- Arguments by results' patterns: rows are read only. -/
def aPs : Nat → List RPat → List Pat
  | _, [] => []
  | c, .sc s :: t => .sc s :: aPs c t
  | c, .agg sh :: t => .agg sh :: aPs c t
  | c, .row _ _ :: t => .sl c :: aPs (c + 1) t
  | c, .mix _ _ _ _ :: t => .sl c :: aPs (c + 1) t
  | c, .aggs sh _ _ :: t => .aggp [.grp sh, .sl c] :: aPs (c + 1) t
def aHs : List RPat → List HPat
  | [] => []
  | .row e sh :: t => .ext e sh :: aHs t
  | .mix e e2 sh sh2 :: t => .mixe e e2 sh sh2 :: aHs t
  | .aggs _ e2 sh2 :: t => .ext e2 sh2 :: aHs t
  | .sc _ :: t => aHs t
  | .agg _ :: t => aHs t
abbrev Cur : List RPat → Type → Type
  | [], R => R
  | r :: t, R => r.T → Cur t R
def unc {R : Type} : (c : Nat) → (ks : List RPat) → Cur ks R → PT (aPs c ks) → HT (aHs ks) → R
  | _, [], f, _, _ => f
  | c, .sc _ :: t, f, x, y => unc c t (f x.1) x.2 y
  | c, .agg _ :: t, f, x, y => unc c t (f x.1) x.2 y
  | c, .row _ _ :: t, f, x, y => unc (c + 1) t (f y.1) x y.2
  | c, .mix _ _ _ _ :: t, f, x, y => unc (c + 1) t (f y.1) x y.2
  | c, .aggs _ _ _ :: t, f, x, y => unc (c + 1) t (f (x.1.1, y.1)) x.2 y.2
def mkF (ks rs : List RPat) (f : Nat → Cur ks (Option (RT rs))) : FC := mkFC (aPs 0 ks) (aHs ks) rs fun N t => unc 0 ks (f N) t.1 t.2

/-- A loop's ends. -/
structure XP where
  e : Ex
  ps : List Pat
  hs : List HPat
abbrev XP.T (x : XP) : Type := PT x.ps × HT x.hs
abbrev XTOf (x : XP) (t : List XP) (R : Type) : Type := match t with | [] => x.T | _ :: _ => x.T ⊕ R
abbrev XT : List XP → Type
  | [] => Empty
  | x :: t => XTOf x t (XT t)
def getX1 (n0 : Nat) (x : XP) (e : Ex) (st : St) : Option x.T := if e = x.e then getF n0 x.ps x.hs st.tmps st.h else none
def getXs (n0 : Nat) : (xs : List XP) → Ex → St → Option (XT xs)
  | [], _, _ => none
  | [x], e, st => getX1 n0 x e st
  | x :: a :: t, e, st => if e = x.e then (getX1 n0 x e st).map .inl else (getXs n0 (a :: t) e st).map .inr
def putX1 (x : XP) (y : x.T) : Ex × St := (x.e, ⟨putP x.ps y.1, putH x.hs y.2⟩)
def putXs : (xs : List XP) → XT xs → Ex × St
  | [x], y => putX1 x y
  | x :: a :: t, y => match y with | .inl y => putX1 x y | .inr y => putXs (a :: t) y
def elimXs {R : Type} : (xs : List XP) → XT xs → (Ex → St → Option R) → Option R
  | [], _, _ => none
  | [x], y, k => k x.e ⟨putP x.ps y.1, putH x.hs y.2⟩
  | x :: a :: t, y, k => match y with | .inl y => k x.e ⟨putP x.ps y.1, putH x.hs y.2⟩ | .inr y => elimXs (a :: t) y k
theorem elimXs_ok {R : Type} : ∀ (xs : List XP) (y : XT xs) (k : Ex → St → Option R), elimXs xs y k = k (putXs xs y).1 (putXs xs y).2
  | [], y, _ => nomatch y
  | [_], _, _ => rfl
  | _ :: _ :: _, .inl _, _ => rfl
  | _ :: a :: t, .inr y, k => elimXs_ok (a :: t) y k
def iter {X Y : Type} (round : (X → Option Y) → X → Option Y) : Nat → X → Option Y
  | 0 => fun _ => none
  | n + 1 => round (iter round n)
def mkLC (n0 : Nat) (ps : List Pat) (hs : List HPat) (xs : List XP) (round : (PT ps × HT hs → Option (XT xs)) → PT ps × HT hs → Option (XT xs)) : LC where
  X := PT ps × HT hs
  Y := XT xs
  get := fun st => getF n0 ps hs st.tmps st.h
  put := fun x => ⟨putP ps x.1, putH hs x.2⟩
  getX := getXs n0 xs
  putX := putXs xs
  run := iter round
  elim := elimXs xs

def okP (ps : List Pat) (hs : List HPat) : Bool := ps.all (Pat.below hs.length) && hs.all (HPat.below hs.length)

section
variable {B : KS} {W : World} {ρ : Ren} {st : St} {a : Act} {w : World}
theorem keep0_ren {E : Env} {n0 : Nat} (hn : E.n0 = n0) {hs : List HPat} {σ : Sig} (hσ : ∀ c, c < n0 → sigAt σ c = some (.key c)) (hl : n0 ≤ hs.length) : Keep0 E ρ (renOf ρ σ hs.length) := by
  intro k r hk e
  rw [hn] at hk
  rw [renOf_key (hσ k hk) (by omega)]; exact e
theorem getX1_ok {E : Env} {n0 : Nat} (hn : E.n0 = n0) {x : XP} {e : Ex} {y : x.T} (hp : (okP x.ps x.hs && decide (n0 ≤ x.hs.length)) = true) (h : getX1 n0 x e st = some y) : (putX1 x y).1 = e ∧ (Rel B W ρ st a w → ∃ ρ', Keep0 E ρ ρ' ∧ Rel B W ρ' (putX1 x y).2 a w) := by
  unfold getX1 at h
  split at h <;> first | cases h; done | skip
  rename_i he
  simp only [okP, Bool.and_eq_true, decide_eq_true_eq] at hp
  refine ⟨he.symm, fun hr => ?_⟩
  obtain ⟨σ, hσ, h1⟩ := getF_Rel hp.1.2 hp.1.1 h hr
  exact ⟨_, keep0_ren hn hσ hp.2, h1⟩
theorem getXs_ok {E : Env} {n0 : Nat} (hn : E.n0 = n0) : ∀ {xs : List XP} {e : Ex} {y : XT xs}, (xs.all fun x => okP x.ps x.hs && decide (n0 ≤ x.hs.length)) = true → getXs n0 xs e st = some y → (putXs xs y).1 = e ∧ (Rel B W ρ st a w → ∃ ρ', Keep0 E ρ ρ' ∧ Rel B W ρ' (putXs xs y).2 a w)
  | [], _, _, _, h => by cases h
  | [x], e, y, hp, h => getX1_ok hn (by simpa using hp) h
  | x :: x2 :: t, e, y, hp, h => by
    rw [List.all_cons, Bool.and_eq_true] at hp
    simp only [getXs] at h
    split at h
    · rw [Option.map_eq_some_iff] at h
      obtain ⟨z, hz, rfl⟩ := h
      exact getX1_ok hn hp.1 hz
    · rw [Option.map_eq_some_iff] at h
      obtain ⟨z, hz, rfl⟩ := h
      exact getXs_ok hn (xs := x2 :: t) hp.2 hz
end

/-- A loop's contract holds. -/
theorem mkLC_ok {E : Env} {d n0 : Nat} {body : Code} {ps : List Pat} {hs : List HPat} {xs : List XP} {round : (PT ps × HT hs → Option (XT xs)) → PT ps × HT hs → Option (XT xs)}
    (hn : E.n0 = n0) (hp : (okP ps hs && decide (n0 ≤ hs.length)) = true) (hx : (xs.all fun x => okP x.ps x.hs && decide (n0 ≤ x.hs.length)) = true)
    (hround : ∀ F x, round F x = roundL (mkLC n0 ps hs xs round) F (evC E (evFn E.plain d) body) x) : LCOK E d body (mkLC n0 ps hs xs round) where
  get_ok := fun st x h B W ρ a w hr => by
    simp only [okP, Bool.and_eq_true, decide_eq_true_eq] at hp
    obtain ⟨σ, hσ, h1⟩ := getF_Rel hp.1.2 hp.1.1 h hr
    exact ⟨_, keep0_ren hn hσ hp.2, h1⟩
  getX_ok := fun e st y h => ⟨(getXs_ok (B := ⟨fun _ => False, fun _ => False, []⟩) (W := default) (ρ := fun _ => none) (a := ⟨#[], []⟩) (w := default) hn hx h).1, fun B W ρ a w hr => (getXs_ok hn hx h).2 hr⟩
  zero := fun x => rfl
  elim_ok := fun y k => elimXs_ok xs y k
  step := fun n x => hround _ x

/-- The rounds of a range over a function, item by item. -/
def itR {I X : Type} (round : I → (X → Option X) → X → Option X) : List I → X → Option X
  | [], x => some x
  | i :: t, x => round i (itR round t) x
/-- A range over a function, by a pattern of its states between two rounds. -/
def mkRC (n0 gf : Nat) (sh : List SK) (dec : List (Nat × Nat) → List AB → Option (List (Row sh))) (ps : List Pat) (hs : List HPat) (round : Row sh → (PT ps × HT hs → Option (PT ps × HT hs)) → PT ps × HT hs → Option (PT ps × HT hs)) : RC where
  gf := gf
  sh := sh
  dec := dec
  X := PT ps × HT hs
  get := fun st => getF n0 ps hs st.tmps st.h
  put := fun x => ⟨putP ps x.1, putH hs x.2⟩
  run := fun _ => itR round
theorem mkRC_ok {E : Env} {d n0 gf : Nat} {sh : List SK} {dec : List (Nat × Nat) → List AB → Option (List (Row sh))} {pr : Array Tmp} {asg body : Code} {ps : List Pat} {hs : List HPat} {round : Row sh → (PT ps × HT hs → Option (PT ps × HT hs)) → PT ps × HT hs → Option (PT ps × HT hs)}
    (hn : E.n0 = n0) (hN : NamesOK E.P) (hp : (okP ps hs && decide (n0 ≤ hs.length)) = true) (hb : ((E.P.funcs[gf]?).bind (·.body)).isSome = true) (hnd : (noDefer asg && noDefer body) = true) (hseq : SeqOK E.P (mkRC n0 gf sh dec ps hs round))
    (hround : ∀ i F x, round i F x = roundR E d (mkRC n0 gf sh dec ps hs round) pr asg body i F x) : RCOK E d pr asg body (mkRC n0 gf sh dec ps hs round) where
  seq := hseq
  get_ok := fun st x h B W ρ a w hr => by
    simp only [okP, Bool.and_eq_true, decide_eq_true_eq] at hp
    obtain ⟨σ, hσ, h1⟩ := getF_Rel hp.1.2 hp.1.1 h hr
    exact ⟨_, keep0_ren hn hσ hp.2, h1⟩
  nd := hnd
  fine := by
    cases hf : E.P.funcs[gf]? with
    | none => rw [hf] at hb; cases hb
    | some fn => rw [hf] at hb; exact ⟨fn, hf, hb, hN gf fn hf⟩
  nil := fun x => rfl
  cons := fun i t x => hround i _ x

/-- A result's rows. -/
theorem decR1_ok {h : List AB} {r : RPat} {v : AV} {x : r.T} {w : World} {B : KS} {ρ : Ren} {u : Value} (hd : decR1 h r v = some x) (hv : VR ρ v u) (hr : HR w B ρ h) :
    ∀ key, ((encR1 key r x).2 = none ∧ rKey r v = none ∧ ∀ ρ', VR1 ρ' (encR1 key r x).1 u) ∨
      ∃ e sh xs, (encR1 key r x) = (.sl key, some (.rows e sh xs)) ∧ (∀ ρ' : Ren, ρ' key = some (.sv u) → VR1 ρ' (.sl key) u ∧ HB w B ρ' (.rows e sh xs) (.sv u)) ∧
        ((rKey r v = none ∧ rowBlk u = none) ∨ ∃ q b, rKey r v = some q ∧ h[q]? = some b ∧ ρ q = some (.sv u) ∧ ownB b (.sv u) = rowBlk u) := by
  intro key
  cases r with
  | sc s =>
    simp only [decR1] at hd
    have e := SK.ofAV_some hd
    subst e
    exact .inl ⟨rfl, rfl, fun ρ' => by cases s <;> exact hv⟩
  | agg sh =>
    cases v <;> simp only [decR1, reduceCtorEq] at hd
    obtain ⟨c, rfl, h2⟩ := hv
    rw [Row.ofAVs_some hd] at h2
    exact .inl ⟨rfl, rfl, fun ρ' => ⟨c, rfl, by rw [Row.vals_of_rel h2]; exact Row.rel ρ' sh x⟩⟩
  | row e sh =>
    cases v <;> simp only [decR1, reduceCtorEq] at hd
    · split at hd <;> first | cases hd; done | skip
      rename_i hl
      obtain rfl := Option.some.inj hd
      obtain rfl : u = .slice none 0 0 := hv
      exact .inr ⟨e, sh, [], rfl, fun ρ' hρ => ⟨⟨hρ, _, _, _, rfl⟩, hl, Owns.nil w _ e sh.length⟩, .inl ⟨rfl, rfl⟩⟩
    · rename_i q
      split at hd <;> first | cases hd; done | skip
      rename_i e' sh' xs hq
      split at hd <;> first | cases hd; done | skip
      rename_i he
      obtain ⟨rfl, rfl⟩ := he
      obtain rfl := Option.some.inj hd
      obtain ⟨h1, a, n, c, rfl⟩ := hv
      rcases hr.blk q _ hq with e | ⟨r, hrq, hB⟩
      · cases e
      rw [h1] at hrq; obtain rfl := Option.some.inj hrq
      exact .inr ⟨e', sh', xs, rfl, fun ρ' hρ => ⟨⟨hρ, _, _, _, rfl⟩, hB⟩, .inr ⟨q, _, rfl, hq, h1, rfl⟩⟩
  | mix e e2 sh sh2 => simp [decR1] at hd
  | aggs sh e2 sh2 => simp [decR1] at hd

/-- What a decoded answer is, put at a key. -/
theorem decRL_ok {h : List AB} {w : World} {B : KS} {ρ : Ren} (hr : HR w B ρ h) : ∀ {rs : List RPat} {vs : List AV} {x : RT rs} {us : List Value}, decRL h rs vs = some x → (rKeys rs vs).Nodup → All2 (VR ρ) vs us → ∀ (key : Nat) ,
    ∃ rows : List Value, rows.length = (encRL key rs x).2.length ∧ (∀ ρ' : Ren, (∀ (j : Nat) (v : Value), rows[j]? = some v → ρ' (key + j) = some (.sv v)) →
        All2 (VR1 ρ') (encRL key rs x).1 us ∧ ∀ (j : Nat) (b : AB), (encRL key rs x).2[j]? = some b → ∃ v, rows[j]? = some v ∧ (∃ e sh xs, b = .rows e sh xs) ∧ HB w B ρ' b (.sv v)) ∧
      (∀ v, v ∈ rows → rowBlk v = none ∨ ∃ q b, q ∈ rKeys rs vs ∧ h[q]? = some b ∧ ρ q = some (.sv v) ∧ ownB b (.sv v) = rowBlk v) ∧
      (rows.Pairwise fun v v' => ∀ g, rowBlk v = some g → rowBlk v' ≠ some g)
  | [], [], x, us, _, _, ha, key => by
    cases ha
    exact ⟨[], rfl, fun ρ' _ => ⟨.nil, fun j b hb => by simp [encRL] at hb⟩, fun v hv => by simp at hv, .nil⟩
  | [], _ :: _, _, _, h, _, _, _ => by simp [decRL] at h
  | [_], [], _, _, h, _, _, _ => by simp [decRL] at h
  | [_], _ :: _ :: _, _, _, h, _, _, _ => by simp [decRL] at h
  | _ :: _ :: _, [], _, _, h, _, _, _ => by simp [decRL] at h
  | [r], [v], x, _, hd, _, .cons (b := u) hv .nil, key => by
    simp only [decRL] at hd
    rcases decR1_ok hd hv hr key with ⟨h1, _, h3⟩ | ⟨e, sh, xs, h1, h2, h3⟩
    · refine ⟨[], by simp [encRL, h1], fun ρ' _ => ⟨.cons (h3 ρ') .nil, fun j b hb => by simp [encRL, h1] at hb⟩, fun v hv => by simp at hv, .nil⟩
    · refine ⟨[u], by simp [encRL, h1], fun ρ' hρ => ?_, fun v' hv' => ?_, by simp⟩
      · obtain ⟨q1, q2⟩ := h2 ρ' (by simpa using hρ 0 u rfl)
        refine ⟨by simp only [encRL, h1]; exact .cons q1 .nil, fun j b hb => ?_⟩
        simp only [encRL, h1, Option.toList_some] at hb
        cases j with
        | zero => simp at hb; subst hb; exact ⟨u, rfl, ⟨_, _, _, rfl⟩, q2⟩
        | succ j => simp at hb
      · simp at hv'; subst hv'
        rcases h3 with ⟨_, h3⟩ | ⟨q, b, h3, h4⟩
        · exact .inl h3
        · exact .inr ⟨q, b, by simp [rKeys, h3], h4⟩
  | r :: r2 :: t, v :: vs, x, _, hd, hn, .cons (b := u) (bs := us) hv ha, key => by
    simp only [decRL, Option.bind_eq_some_iff, Option.map_eq_some_iff] at hd
    obtain ⟨y, hy, z, hz, rfl⟩ := hd
    rcases decR1_ok hy hv hr key with ⟨h1, h2, h3⟩ | ⟨e, sh, xs, h1, h2, h3⟩
    · have hk : rKeys (r :: r2 :: t) (v :: vs) = rKeys (r2 :: t) vs := by simp [rKeys, h2]
      rw [hk] at hn ⊢
      obtain ⟨rows, hl, hA, hO, hS⟩ := decRL_ok hr hz hn ha key
      refine ⟨rows, by simpa [encRL, h1] using hl, fun ρ' hρ => ?_, hO, hS⟩
      obtain ⟨q1, q2⟩ := hA ρ' hρ
      exact ⟨by simpa [encRL, h1] using All2.cons (h3 ρ') q1, fun j b hb => q2 j b (by simpa [encRL, h1] using hb)⟩
    · have hkn : (rKeys (r2 :: t) vs).Nodup ∧ (∀ k, k ∈ rKeys (r2 :: t) vs → k ∈ rKeys (r :: r2 :: t) (v :: vs)) ∧ (∀ q, rKey r v = some q → q ∈ rKeys (r :: r2 :: t) (v :: vs) ∧ q ∉ rKeys (r2 :: t) vs) := by
        simp only [rKeys] at hn ⊢
        cases hr : rKey r v with
        | none => rw [hr] at hn; exact ⟨hn, fun k hk => hk, fun q e => by cases e⟩
        | some q =>
          rw [hr] at hn
          simp only [List.nodup_cons] at hn
          exact ⟨hn.2, fun k hk => List.mem_cons_of_mem _ hk, fun q' e => by obtain rfl := Option.some.inj e; exact ⟨by simp, hn.1⟩⟩
      obtain ⟨rows, hl, hA, hO, hS⟩ := decRL_ok hr hz hkn.1 ha (key + 1)
      refine ⟨u :: rows, by simp only [encRL, h1, Option.toList_some, List.length_cons, List.length_nil, List.length_append]; rw [hl]; exact Nat.add_comm _ _, fun ρ' hρ => ?_, fun v' hv' => ?_, ?_⟩
      · obtain ⟨q1, q2⟩ := h2 ρ' (by simpa using hρ 0 u rfl)
        obtain ⟨q3, q4⟩ := hA ρ' (fun j v' hj => by have := hρ (j + 1) v' (by simpa using hj); rwa [show key + (j + 1) = key + 1 + j by omega] at this)
        refine ⟨by simp only [encRL, h1]; exact .cons q1 q3, fun j b hb => ?_⟩
        simp only [encRL, h1, Option.toList_some, List.length_cons, List.length_nil, List.cons_append, List.nil_append] at hb
        cases j with
        | zero => simp at hb; subst hb; exact ⟨u, rfl, ⟨_, _, _, rfl⟩, q2⟩
        | succ j =>
          obtain ⟨v', h5, h6⟩ := q4 j b (by simpa using hb)
          exact ⟨v', by simpa using h5, h6⟩
      · simp only [List.mem_cons] at hv'
        rcases hv' with rfl | hv'
        · rcases h3 with ⟨_, h3⟩ | ⟨q, b, h3, h4⟩
          · exact .inl h3
          · exact .inr ⟨q, b, (hkn.2.2 q h3).1, h4⟩
        · rcases hO v' hv' with h5 | ⟨q, b, h5, h6⟩
          · exact .inl h5
          · exact .inr ⟨q, b, hkn.2.1 q h5, h6⟩
      · refine List.pairwise_cons.2 ⟨fun v' hv' g hg hg' => ?_, hS⟩
        rcases h3 with ⟨_, h3⟩ | ⟨q, b, h3, h4, h5, h6⟩
        · rw [h3] at hg; cases hg
        · rcases hO v' hv' with h7 | ⟨q', b', h7, h8, h9, h10⟩
          · rw [h7] at hg'; cases hg'
          · have hne : q ≠ q' := by rintro rfl; exact (hkn.2.2 q h3).2 h7
            exact hr.sep q b q' b' _ _ g hne h4 h8 h5 h9 (by rw [h6, hg]) (by rw [h10, hg'])

theorem encRL_nb (k k' : Nat) : ∀ (rs : List RPat) (x : RT rs), (encRL k rs x).2 = (encRL k' rs x).2
  | [], _ => rfl
  | [r], x => by cases r <;> rfl
  | r :: a :: t, x => by
    have h1 : (encR1 k r x.1).2 = (encR1 k' r x.1).2 := by cases r <;> rfl
    simp only [encRL, h1]
    rw [encRL_nb _ _ (a :: t) x.2]

theorem getRow {rows : List Value} {j : Nat} {b : AB} {bs : List AB} (hl : rows.length = bs.length) (h : bs[j]? = some b) : ∃ v, rows[j]? = some v := by
  have hj : j < rows.length := by rw [hl]; exact (List.getElem?_eq_some_iff.1 h).1
  exact ⟨rows[j], List.getElem?_eq_getElem hj⟩

theorem decR1_nt {r : RPat} {v : AV} {x : r.T} {h : List AB} (hx : decR1 h r v = some x) : ∀ l, v ≠ .tup l := by
  rintro l rfl
  cases r <;> simp [decR1] at hx
  rename_i s; cases s <;> simp [SK.ofAV] at hx
theorem decRL_nt {h : List AB} : ∀ {rs : List RPat} {vs : List AV} {x : RT rs}, decRL h rs vs = some x → ∀ v, v ∈ vs → ∀ l, v ≠ .tup l
  | [], [], _, _, v, hv => by simp at hv
  | [], _ :: _, _, h, _, _ => by simp [decRL] at h
  | [_], [], _, h, _, _ => by simp [decRL] at h
  | [_], _ :: _ :: _, _, h, _, _ => by simp [decRL] at h
  | _ :: _ :: _, [], _, h, _, _ => by simp [decRL] at h
  | [r], [v0], x, h, v, hv => by simp at hv; subst hv; exact decR1_nt h
  | r :: r2 :: t, v0 :: vs, x, h, v, hv => by
    simp only [decRL, Option.bind_eq_some_iff, Option.map_eq_some_iff] at h
    obtain ⟨y, hy, z, hz, _⟩ := h
    simp only [List.mem_cons] at hv
    rcases hv with rfl | hv
    · exact decR1_nt hy
    · exact decRL_nt hz v hv
theorem VR_all {ρ : Ren} {l : List AV} {m : List Value} (ha : All2 (VR1 ρ) l m) : (∀ v, v ∈ l → ∀ t, v ≠ .tup t) → All2 (VR ρ) l m := by
  induction ha with
  | nil => intro _; exact .nil
  | cons r _ ih => intro hh; exact .cons (VR.of_VR1 (hh _ (by simp)) r) (ih fun v hv => hh v (by simp [hv]))

theorem res_ok {h : List AB} {ρ : Ren} {v : AV} {v' : Value} : ∀ {rs : List RPat} {r : RT rs}, decRL h rs (resL rs v) = some r → VR ρ v v' → ∀ key,
    ∃ us, All2 (VR ρ) (resL rs v) us ∧ ∀ ρ2, All2 (VR1 ρ2) (encRL key rs r).1 us → VR ρ2 (encR rs key r) v'
  | [r0], r, _, hv, key => by
    refine ⟨[v'], .cons hv .nil, fun ρ2 ha => ?_⟩
    have : (encRL key [r0] r).1 = [(encR1 key r0 r).1] := rfl
    rw [this] at ha
    have e : encR [r0] key r = (encR1 key r0 r).1 := rfl
    rw [e]
    cases ha with
    | cons hx _ =>
      refine VR.of_VR1 (fun l e => ?_) hx
      cases r0 with
      | sc s => cases s <;> cases e
      | agg sh => cases e
      | row _ _ => cases e
      | mix _ _ _ _ => cases e
      | aggs _ _ _ => cases e
  | [], r, hd, hv, key => by
    cases v <;> simp only [resL, decRL, reduceCtorEq] at hd
    rename_i vs'
    obtain ⟨cc, rfl, h2⟩ := hv
    cases vs' with
    | cons _ _ => simp [decRL] at hd
    | nil =>
      refine ⟨cc.toList, ?_, fun ρ2 ha => ⟨cc, rfl, ha⟩⟩
      simp only [resL]
      generalize cc.toList = l at h2
      cases h2; exact .nil
  | r0 :: r2 :: rs', r, hd, hv, key => by
    cases v
    case tup vs' =>
      obtain ⟨cc, rfl, h2⟩ := hv
      exact ⟨cc.toList, VR_all h2 (decRL_nt hd), fun ρ2 ha => ⟨cc, rfl, ha⟩⟩
    all_goals (exfalso; simp [resL, decRL] at hd)

theorem put_ok {rs : List RPat} {r : RT rs} {v : AV} {h' : List AB} {ρ ρ' : Ren} {v' : Value} {w' : World} {B : KS} (hdec : decR rs v h' = some r) (hv : VR ρ' v v') (hh' : HR w' B ρ' h') (key : Nat)
    (hkey : ∀ j, j < ((encRL 0 rs r).2).length → ρ (key + j) = none) :
      ∃ ρ2, ρ.le ρ2 ∧ (∀ k, (∀ j, j < ((encRL 0 rs r).2).length → k ≠ key + j) → ρ2 k = ρ k) ∧ VR ρ2 (encR rs key r) v' ∧
        (∀ (j : Nat) (b : AB), ((encRL 0 rs r).2)[j]? = some b → ∃ rv, ρ2 (key + j) = some rv ∧ (∃ e sh xs, b = .rows e sh xs) ∧ HB w' B ρ2 b rv) ∧
        (∀ (j j' : Nat) (b b' : AB) rv rv' g, j ≠ j' → ((encRL 0 rs r).2)[j]? = some b → ((encRL 0 rs r).2)[j']? = some b' → ρ2 (key + j) = some rv → ρ2 (key + j') = some rv' → ownB b rv = some g → ownB b' rv' ≠ some g) := by
  unfold decR at hdec
  split at hdec <;> first | cases hdec; done | skip
  rename_i hnd
  obtain ⟨us, hus, hval⟩ := res_ok hdec hv key
  obtain ⟨rows, hlen, hA, hO, hS⟩ := decRL_ok hh' hdec hnd hus key
  rw [encRL_nb key 0] at hlen hA
  let ρ2 : Ren := fun k => if key ≤ k ∧ k < key + rows.length then (rows[k - key]?).map .sv else ρ k
  have hρ2 : ∀ (j : Nat) (v : Value), rows[j]? = some v → ρ2 (key + j) = some (.sv v) := by
    intro j v hj
    have : j < rows.length := (List.getElem?_eq_some_iff.1 hj).1
    simp only [ρ2]
    rw [if_pos ⟨by omega, by omega⟩, Nat.add_sub_cancel_left, hj]; rfl
  obtain ⟨q1, q2⟩ := hA ρ2 hρ2
  refine ⟨ρ2, fun k rv hk => ?_, fun k hk => ?_, hval ρ2 q1, fun j b hb => ?_, fun j j' b b' rv rv' g hne hb hb' hrv hrv' ho ho' => ?_⟩
  · simp only [ρ2]
    split
    · rename_i hin
      have := hkey (k - key) (by rw [← hlen]; omega)
      rw [show key + (k - key) = k by omega] at this
      rw [this] at hk; cases hk
    · exact hk
  · simp only [ρ2]
    rw [if_neg]
    rintro ⟨h1, h2⟩
    exact hk (k - key) (by rw [← hlen]; omega) (by omega)
  · obtain ⟨v2, h1, h2, h3⟩ := q2 j b hb
    exact ⟨_, hρ2 j v2 h1, h2, h3⟩
  · obtain ⟨v2, h1, ⟨e, sh, xs, rfl⟩, _⟩ := q2 j b hb
    obtain ⟨v3, h4, ⟨e', sh', xs', rfl⟩, _⟩ := q2 j' b' hb'
    rw [hρ2 j v2 h1] at hrv; obtain rfl := Option.some.inj hrv
    rw [hρ2 j' v3 h4] at hrv'; obtain rfl := Option.some.inj hrv'
    have h1l := (List.getElem?_eq_some_iff.1 h1)
    have h4l := (List.getElem?_eq_some_iff.1 h4)
    rcases Nat.lt_or_gt_of_ne hne with hlt | hlt
    · have := List.pairwise_iff_getElem.1 hS j j' h1l.1 h4l.1 hlt g
      rw [h1l.2, h4l.2] at this
      exact this ho ho'
    · have := List.pairwise_iff_getElem.1 hS j' j h4l.1 h1l.1 hlt g
      rw [h1l.2, h4l.2] at this
      exact this ho' ho

/-- A function's contract holds. -/
theorem mkFC_ok {E : Env} {d : Nat} {g : FuncId} {fn : Func} {c : Code} {ps : List Pat} {hs : List HPat} {rs : List RPat} {run : Nat → PT ps × HT hs → Option (RT rs)}
    (hE : EnvOK E) (hmix : E.P.follows .mixedOrders = true) (hN : NamesOK E.P) (hfn : E.P.funcs[g]? = some fn) (hbd : fn.body = some c) (hL : LoopsOK E d c)
    (hp : okP ps hs = true) (hro : hs.all HPat.ro = true)
    (hrun : ∀ t, run E.N t = evFn E (d + 1) g (putP ps t.1) (putH hs t.2) (decR rs)) : FCOK E.P E.N g (mkFC ps hs rs run) :=
  .body fn hfn (hN g fn hfn) (by rw [hbd]; rfl) <| FCCalls.of_makes (nb := fun r => (encRL 0 rs r).2) (fun _ _ _ => rfl) (fun _ _ _ => rfl) fun as hm ρ w B vs t ks r ha hh hd hr => by
    obtain ⟨t1, hd', e⟩ := Option.map_eq_some_iff.1 (show (getS true 0 ps hs as hm).map (fun t => (t, ([] : List Nat))) = some (t, ks) from hd)
    obtain rfl : t1 = t := (Prod.mk.inj e).1
    clear e
    replace hd := hd'
    simp only [okP, Bool.and_eq_true] at hp
    obtain ⟨hr1, ha1⟩ := getS_HR (weak := true) (fun _ => hro) hp.2 hp.1 hd hh
    have hr' : evFn E (d + 1) g (putP ps t1.1) (putH hs t1.2) (decR rs) = some r := (hrun t1).symm.trans hr
    refine evFn_top hE hmix (fun r B W => evFn_ok hE hmix hN d B W r) hr' (fun fn' c' h1 h2 => ?_) (ha1 _ ha) hr1.x (Kp.refl _ _) fun v h' hdec ρ' v' w' _ hv hh' hb' => ?_
    · rw [hfn] at h1; obtain rfl := Option.some.inj h1
      rw [hbd] at h2; obtain rfl := Option.some.inj h2
      exact hL
    · refine ⟨v', rfl, hb'.below, fun key hkey => ?_⟩
      obtain ⟨K, hs, hq⟩ := hh'
      obtain ⟨ρ2, h1, h2, h3, h4, h5⟩ := put_ok hdec hv hq key hkey
      refine ⟨ρ2, h1, h2, h3, fun j b hb => ?_, h5⟩
      obtain ⟨rv, e1, ⟨e, sh, xs, rfl⟩, e3⟩ := h4 j b hb
      exact ⟨rv, e1, ⟨e, sh, xs, rfl⟩, e3.lower hs.le⟩
end Go.Ev
