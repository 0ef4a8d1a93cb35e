/- Patterns of states: what a function's arguments, its result, and a loop's states look like. -/
import Derived.Test.YtgjmfljogaanfaaGreatEvJ
namespace Go.Ev
open Go.RowKit

/-- A pattern of a value that lies in one cell, or of a row of scalars; blocks go by numbers of the pattern's own. -/
inductive LPat where
  | any
  | sc (s : SK)
  | agg (sh : List SK)
  | sl (c : Nat)
  | ptr (c off : Nat)
  | eltp (c sz off : Nat)
  | nilp
  | nils
  | fn (f : Nat) (cap : List (Nat × Nat))
  | grp (sh : List SK)
abbrev LPat.T1 : LPat → Type → Type
  | .sc s, R => s.T × R
  | .agg sh, R => Row sh × R
  | .grp sh, R => Row sh × R
  | .eltp _ _ _, R => Nat × R
  | _, R => R
/-- What a row of patterns leaves open. -/
abbrev LT : List LPat → Type
  | [] => Unit
  | p :: ps => p.T1 (LT ps)
/-- A value's pattern. -/
inductive Pat where
  | l (p : LPat)
  | aggp (ps : List LPat)
abbrev Pat.any : Pat := .l .any
abbrev Pat.sc (s : SK) : Pat := .l (.sc s)
abbrev Pat.agg (sh : List SK) : Pat := .l (.agg sh)
abbrev Pat.sl (c : Nat) : Pat := .l (.sl c)
abbrev Pat.ptr (c off : Nat) : Pat := .l (.ptr c off)
abbrev Pat.eltp (c sz off : Nat) : Pat := .l (.eltp c sz off)
abbrev Pat.nilp : Pat := .l .nilp
abbrev Pat.nils : Pat := .l .nils
abbrev Pat.fn (f : Nat) (cap : List (Nat × Nat)) : Pat := .l (.fn f cap)
abbrev Pat.T1 : Pat → Type → Type
  | .l p, R => p.T1 R
  | .aggp ps, R => LT ps × R
abbrev PT : List Pat → Type
  | [] => Unit
  | p :: ps => p.T1 (PT ps)
inductive HPat where
  | gone
  | cells (ps : List LPat)
  | rcells (ps : List LPat)
  | rows (e : TypeId) (sh : List SK)
  | ext (e : TypeId) (sh : List SK)
  | nest (e e2 : TypeId) (sh : List SK)
  | mix (e e2 : TypeId) (sh sh2 : List SK)
  | mixe (e e2 : TypeId) (sh sh2 : List SK)
abbrev HPat.T1 : HPat → Type → Type
  | .cells ps, R => LT ps × R
  | .rcells ps, R => LT ps × R
  | .rows _ sh, R => List (Row sh) × R
  | .ext _ sh, R => List (Row sh) × R
  | .nest _ _ sh, R => List (List (Row sh)) × R
  | .mix _ _ sh sh2, R => List (Row sh × List (Row sh2)) × R
  | .mixe _ _ sh sh2, R => List (Row sh × List (Row sh2)) × R
  | .gone, R => R
abbrev HT : List HPat → Type
  | [] => Unit
  | p :: ps => p.T1 (HT ps)

def putL1 : (p : LPat) → (R : Type) → p.T1 R → AV × R
  | .any, _, x => (.junk, x)
  | .sc s, _, x => (s.toAV x.1, x.2)
  | .agg sh, _, x => (.agg (Row.toAVs sh x.1), x.2)
  | .sl c, _, x => (.sl c, x)
  | .ptr c o, _, x => (.ptr c o, x)
  | .eltp c sz o, _, x => (.elt c x.1 sz o, x.2)
  | .nilp, _, x => (.nilptr, x)
  | .nils, _, x => (.nilsl, x)
  | .fn f cap, _, x => (.fn f cap, x)
  | .grp sh, _, x => (.agg (Row.toAVs sh x.1), x.2)
/-- In a row of cells a group stands for as many cells as it has scalars. -/
def putLs1 : (p : LPat) → (R : Type) → p.T1 R → List AV × R
  | .grp sh, _, x => (Row.toAVs sh x.1, x.2)
  | p, R, x => ([(putL1 p R x).1], (putL1 p R x).2)
def putL : (ps : List LPat) → LT ps → List AV
  | [], _ => []
  | p :: ps, x => (putLs1 p (LT ps) x).1 ++ putL ps (putLs1 p (LT ps) x).2
def putP1 : (p : Pat) → (R : Type) → p.T1 R → AV × R
  | .l p, R, x => putL1 p R x
  | .aggp ps, _, x => (.agg (putL ps x.1), x.2)
def putP : (ps : List Pat) → PT ps → List AV
  | [], _ => []
  | p :: ps, x => (putP1 p (PT ps) x).1 :: putP ps (putP1 p (PT ps) x).2
def putH1 : (p : HPat) → (R : Type) → p.T1 R → AB × R
  | .gone, _, x => (.gone, x)
  | .cells ps, _, x => (.cells (putL ps x.1), x.2)
  | .rcells ps, _, x => (.rcells (putL ps x.1), x.2)
  | .rows e sh, _, x => (.rows e sh x.1, x.2)
  | .ext e sh, _, x => (.ext e sh x.1, x.2)
  | .nest e e2 sh, _, x => (.nest e e2 sh x.1, x.2)
  | .mix e e2 sh sh2, _, x => (.mix e e2 sh sh2 x.1, x.2)
  | .mixe e e2 sh sh2, _, x => (.mixe e e2 sh sh2 x.1, x.2)
def putH : (ps : List HPat) → HT ps → List AB
  | [], _ => []
  | p :: ps, x => (putH1 p (HT ps) x).1 :: putH ps (putH1 p (HT ps) x).2

/-- Where a pattern's block is: at a key, or it is the nil slice. -/
inductive KR where
  | key (k : Nat)
  | nil
  deriving DecidableEq
abbrev Sig := List (Nat × KR)
def sigAt : Sig → Nat → Option KR
  | [], _ => none
  | (c, r) :: t, c' => if c = c' then some r else sigAt t c'
def find1 (σ : Sig) : LPat → AV → Sig
  | .sl c, .sl k => if (sigAt σ c).isSome then σ else σ ++ [(c, .key k)]
  | .sl c, .nilsl => if (sigAt σ c).isSome then σ else σ ++ [(c, .nil)]
  | .ptr c _, .ptr k _ => if (sigAt σ c).isSome then σ else σ ++ [(c, .key k)]
  | .eltp c _ _, .elt k _ _ _ => if (sigAt σ c).isSome then σ else σ ++ [(c, .key k)]
  | .fn _ cap, .fn _ cap' => (cap.zip cap').foldl (fun σ x => if (sigAt σ x.1.1).isSome then σ else σ ++ [(x.1.1, .key x.2.1)]) σ
  | _, _ => σ
def findLL : List LPat → List AV → Sig → Sig
  | .grp sh :: ps, vs, σ => findLL ps (vs.drop sh.length) σ
  | p :: ps, v :: vs, σ => findLL ps vs (find1 σ p v)
  | _, _, σ => σ
def find1P (σ : Sig) : Pat → AV → Sig
  | .l p, v => find1 σ p v
  | .aggp ps, .agg cs => findLL ps cs σ
  | _, _ => σ
def findL : List Pat → List AV → Sig → Sig
  | p :: ps, v :: vs, σ => findL ps vs (find1P σ p v)
  | _, _, σ => σ
def findH (h : List AB) : List HPat → Nat → Sig → Sig
  | [], _, σ => σ
  | .cells ps :: t, c, σ =>
    match sigAt σ c with
    | some (.key k) => match h[k]? with
      | some (.cells cs) => findH h t (c + 1) (findLL ps cs σ)
      | _ => findH h t (c + 1) σ
    | _ => findH h t (c + 1) σ
  | .rcells ps :: t, c, σ =>
    match sigAt σ c with
    | some (.key k) => match h[k]? with
      | some (.cells cs) => findH h t (c + 1) (findLL ps cs σ)
      | some (.rcells cs) => findH h t (c + 1) (findLL ps cs σ)
      | _ => findH h t (c + 1) σ
    | _ => findH h t (c + 1) σ
  | _ :: t, c, σ => findH h t (c + 1) σ

def getL1 (σ : Sig) : (p : LPat) → AV → (R : Type) → Option R → Option (p.T1 R)
  | .any, _, _, k => k
  | .sc s, v, _, k => (s.ofAV v).bind fun x => k.map fun y => (x, y)
  | .agg sh, v, _, k => match v with | .agg cs => (Row.ofAVs sh cs).bind fun x => k.map fun y => (x, y) | _ => none
  | .sl c, v, _, k =>
    match v with
    | .sl q => if sigAt σ c = some (.key q) then k else none
    | .nilsl => if sigAt σ c = some .nil then k else none
    | _ => none
  | .ptr c o, v, _, k => match v with | .ptr q o' => if sigAt σ c = some (.key q) ∧ o = o' then k else none | _ => none
  | .eltp c sz o, v, _, k => match v with | .elt q i sz' o' => if sigAt σ c = some (.key q) ∧ sz = sz' ∧ o = o' then k.map fun y => (i, y) else none | _ => none
  | .nilp, v, _, k => match v with | .nilptr => k | _ => none
  | .nils, v, _, k => match v with | .nilsl => k | _ => none
  | .fn f cap, v, _, k =>
    match v with
    | .fn f' cap' => if f = f' ∧ cap.map (fun x => (sigAt σ x.1, x.2)) = cap'.map (fun x => (some (.key x.1), x.2)) then k else none
    | _ => none
  | .grp sh, v, _, k => match v with | .agg cs => (Row.ofAVs sh cs).bind fun x => k.map fun y => (x, y) | _ => none
def getL (σ : Sig) : (ps : List LPat) → List AV → Option (LT ps)
  | [], [] => some ()
  | .grp sh :: ps, vs => (Row.ofAVs sh (vs.take sh.length)).bind fun x => (getL σ ps (vs.drop sh.length)).map fun y => (x, y)
  | p :: ps, v :: vs => getL1 σ p v (LT ps) (getL σ ps vs)
  | _, _ => none
def getP1 (σ : Sig) : (p : Pat) → AV → (R : Type) → Option R → Option (p.T1 R)
  | .l p, v, R, k => getL1 σ p v R k
  | .aggp ps, v, _, k => match v with | .agg cs => (getL σ ps cs).bind fun x => k.map fun y => (x, y) | _ => none
def getP (σ : Sig) : (ps : List Pat) → List AV → Option (PT ps)
  | [], [] => some ()
  | p :: ps, v :: vs => getP1 σ p v (PT ps) (getP σ ps vs)
  | _, _ => none
/-- 'weak': own rows serve where rows that are only read are asked for. -/
def getH1 (weak : Bool) (σ : Sig) (h : List AB) (c : Nat) : (p : HPat) → (R : Type) → Option R → Option (p.T1 R)
  | .gone, _, k => k
  | .cells ps, _, k =>
    match sigAt σ c with
    | some (.key q) => match h[q]? with
      | some (.cells cs) => (getL σ ps cs).bind fun x => k.map fun y => (x, y)
      | _ => none
    | _ => none
  | .rcells ps, _, k =>
    match sigAt σ c with
    | some (.key q) => match h[q]? with
      | some (.rcells cs) => (getL σ ps cs).bind fun x => k.map fun y => (x, y)
      | some (.cells cs) => if weak then (getL σ ps cs).bind fun x => k.map fun y => (x, y) else none
      | _ => none
    | _ => none
  | .rows e sh, _, k =>
    match sigAt σ c with
    | some (.key q) => match h[q]? with
      | some (.rows e' sh' xs) => if hs : e' = e ∧ sh' = sh then k.map fun y => (hs.2 ▸ xs, y) else none
      | _ => none
    | some .nil => if 0 < sh.length then k.map fun y => ([], y) else none
    | none => none
  | .ext e sh, _, k =>
    match sigAt σ c with
    | some (.key q) => match h[q]? with
      | some (.ext e' sh' xs) => if hs : e' = e ∧ sh' = sh then k.map fun y => (hs.2 ▸ xs, y) else none
      | some (.rows e' sh' xs) => if hs : weak = true ∧ e' = e ∧ sh' = sh then k.map fun y => (hs.2.2 ▸ xs, y) else none
      | _ => none
    | some .nil => if 0 < sh.length then k.map fun y => ([], y) else none
    | none => none
  | .nest e e2 sh, _, k =>
    match sigAt σ c with
    | some (.key q) => match h[q]? with
      | some (.nest e' e2' sh' xss) => if hs : (e' = e ∧ e2' = e2) ∧ sh' = sh then k.map fun y => (hs.2 ▸ xss, y) else none
      | _ => none
    | some .nil => if 0 < sh.length then k.map fun y => ([], y) else none
    | none => none
  | .mix e e2 sh sh2, _, k =>
    match sigAt σ c with
    | some (.key q) => match h[q]? with
      | some (.mix e' e2' sh' sh2' xs) => if hs : ((e' = e ∧ e2' = e2) ∧ sh' = sh) ∧ sh2' = sh2 then k.map fun y => (hs.2 ▸ hs.1.2 ▸ xs, y) else none
      | _ => none
    | some .nil => if 0 < sh2.length then k.map fun y => ([], y) else none
    | none => none
  | .mixe e e2 sh sh2, _, k =>
    match sigAt σ c with
    | some (.key q) => match h[q]? with
      | some (.mixe e' e2' sh' sh2' xs) => if hs : ((e' = e ∧ e2' = e2) ∧ sh' = sh) ∧ sh2' = sh2 then k.map fun y => (hs.2 ▸ hs.1.2 ▸ xs, y) else none
      | some (.mix e' e2' sh' sh2' xs) => if hs : ((weak = true ∧ e' = e ∧ e2' = e2) ∧ sh' = sh) ∧ sh2' = sh2 then k.map fun y => (hs.2 ▸ hs.1.2 ▸ xs, y) else none
      | _ => none
    | some .nil => if 0 < sh2.length then k.map fun y => ([], y) else none
    | none => none
def getH (weak : Bool) (σ : Sig) (h : List AB) : Nat → (ps : List HPat) → Option (HT ps)
  | _, [] => some ()
  | c, p :: ps => getH1 weak σ h c p (HT ps) (getH weak σ h (c + 1) ps)

def keysOf (σ : Sig) : List Nat := σ.filterMap fun x => match x.2 with | .key k => some k | .nil => none
/-- A state read by its pattern. -/
def preS : Nat → Sig
  | 0 => []
  | n + 1 => preS n ++ [(n, .key n)]
def sigS (n0 : Nat) (ps : List Pat) (hs : List HPat) (tmps : List AV) (h : List AB) : Sig := findH h hs 0 (findL ps tmps (preS n0))
def getS (weak : Bool) (n0 : Nat) (ps : List Pat) (hs : List HPat) (tmps : List AV) (h : List AB) : Option (PT ps × HT hs) :=
  let σ := sigS n0 ps hs tmps h
  if (weak = true ∨ (keysOf σ).Nodup) ∧ (σ.map (·.1)).Nodup then (getP σ ps tmps).bind fun x => (getH weak σ h 0 hs).map fun y => (x, y) else none

/-- Own rows of which the pattern says that they are read only are written no more. -/
def fzHS (σ : Sig) : Nat → List HPat → List AB → List AB
  | _, [], h => h
  | c, .ext _ _ :: t, h => fzHS σ (c + 1) t (match sigAt σ c with | some (.key k) => (match h[k]? with | some (.rows e sh xs) => h.set k (.ext e sh xs) | _ => h) | _ => h)
  | c, .mixe _ _ _ _ :: t, h => fzHS σ (c + 1) t (match sigAt σ c with | some (.key k) => (match h[k]? with | some (.mix e e2 sh sh2 xs) => h.set k (.mixe e e2 sh sh2 xs) | _ => h) | _ => h)
  | c, _ :: t, h => fzHS σ (c + 1) t h
def getF (n0 : Nat) (ps : List Pat) (hs : List HPat) (tmps : List AV) (h : List AB) : Option (PT ps × HT hs) :=
  getS false n0 ps hs tmps (fzHS (sigS n0 ps hs tmps h) 0 hs h)

theorem sigAt_app {σ τ : Sig} {c : Nat} {r : KR} (h : sigAt σ c = some r) : sigAt (σ ++ τ) c = some r := by
  induction σ with
  | nil => cases h
  | cons x t ih =>
    obtain ⟨a, b⟩ := x
    simp only [List.cons_append, sigAt] at h ⊢
    split
    · rename_i e; rw [if_pos e] at h; exact h
    · rename_i e; rw [if_neg e] at h; exact ih h
theorem sigAt_if {σ τ : Sig} {b : Bool} {c : Nat} {r : KR} (h : sigAt σ c = some r) : sigAt (if b = true then σ else σ ++ τ) c = some r := by
  split
  · exact h
  · exact sigAt_app h
theorem find1_pre {σ : Sig} {p : LPat} {v : AV} {c : Nat} {r : KR} (h : sigAt σ c = some r) : sigAt (find1 σ p v) c = some r := by
  unfold find1
  split
  · exact sigAt_if h
  · exact sigAt_if h
  · exact sigAt_if h
  · exact sigAt_if h
  · rename_i f1 cap f2 cap'
    generalize cap.zip cap' = l
    induction l generalizing σ with
    | nil => exact h
    | cons x l ih => exact ih (sigAt_if h)
  · exact h
theorem findLL_pre {c : Nat} {r : KR} : ∀ {ps : List LPat} {vs : List AV} {σ : Sig}, sigAt σ c = some r → sigAt (findLL ps vs σ) c = some r
  | [], _, σ, h => by simpa [findLL] using h
  | p :: ps, vs, σ, h => by
    cases p <;> first
      | (simp only [findLL]; exact findLL_pre h)
      | (cases vs with
         | nil => simpa [findLL] using h
         | cons v vs => simp only [findLL]; exact findLL_pre (find1_pre h))
theorem find1P_pre {σ : Sig} {p : Pat} {v : AV} {c : Nat} {r : KR} (h : sigAt σ c = some r) : sigAt (find1P σ p v) c = some r := by
  unfold find1P
  split
  · exact find1_pre h
  · exact findLL_pre h
  · exact h
theorem findL_pre {c : Nat} {r : KR} : ∀ {ps : List Pat} {vs : List AV} {σ : Sig}, sigAt σ c = some r → sigAt (findL ps vs σ) c = some r
  | p :: ps, v :: vs, σ, h => findL_pre (ps := ps) (find1P_pre h)
  | [], _, σ, h => by simpa [findL] using h
  | _ :: _, [], σ, h => by simpa [findL] using h
theorem findH_pre {hp : List AB} {c : Nat} {r : KR} : ∀ {hs : List HPat} {i : Nat} {σ : Sig}, sigAt σ c = some r → sigAt (findH hp hs i σ) c = some r
  | [], i, σ, h => h
  | .cells ps :: t, i, σ, h => by
    simp only [findH]
    split
    · split
      · exact findH_pre (findLL_pre h)
      · exact findH_pre h
    · exact findH_pre h
  | .rcells ps :: t, i, σ, h => by
    simp only [findH]
    split
    · split
      · exact findH_pre (findLL_pre h)
      · exact findH_pre (findLL_pre h)
      · exact findH_pre h
    · exact findH_pre h
  | .gone :: t, i, σ, h => by simp only [findH]; exact findH_pre h
  | .rows .. :: t, i, σ, h => by simp only [findH]; exact findH_pre h
  | .ext .. :: t, i, σ, h => by simp only [findH]; exact findH_pre h
  | .nest .. :: t, i, σ, h => by simp only [findH]; exact findH_pre h
  | .mix .. :: t, i, σ, h => by simp only [findH]; exact findH_pre h
  | .mixe .. :: t, i, σ, h => by simp only [findH]; exact findH_pre h
theorem preS_at : ∀ {n c : Nat}, c < n → sigAt (preS n) c = some (.key c)
  | n + 1, c, h => by
    by_cases e : c < n
    · exact sigAt_app (preS_at e)
    · obtain rfl : c = n := by omega
      have : ∀ m, m ≤ c → sigAt (preS m ++ [(c, KR.key c)]) c = some (.key c) := by
        intro m
        induction m with
        | zero => intro _; simp [preS, sigAt]
        | succ m ih =>
          intro hm
          have hne : ∀ (σ τ : Sig), sigAt (σ ++ (m, KR.key m) :: τ) c = sigAt (σ ++ τ) c := by
            intro σ τ
            induction σ with
            | nil => simp only [List.nil_append, sigAt]; rw [if_neg (by omega)]
            | cons x σ ih2 => obtain ⟨a, b⟩ := x; simp only [List.cons_append, sigAt, ih2]
          simp only [preS, List.append_assoc, List.singleton_append]
          rw [hne]; exact ih (by omega)
      exact this c (Nat.le_refl c)
theorem sigS_pre {n0 : Nat} {ps : List Pat} {hs : List HPat} {tmps : List AV} {h : List AB} {c : Nat} (hc : c < n0) : sigAt (sigS n0 ps hs tmps h) c = some (.key c) := findH_pre (findL_pre (preS_at hc))

/-- The blocks' renaming. -/
def renOf (ρ : Ren) (σ : Sig) (n : Nat) : Ren := fun c => if c < n then (match sigAt σ c with | some (.key k) => ρ k | some .nil => some (.sv (.slice none 0 0)) | none => none) else none

section
variable {ρ : Ren} {σ : Sig} {n : Nat}
theorem renOf_key {c k : Nat} (h : sigAt σ c = some (.key k)) (hc : c < n) : renOf ρ σ n c = ρ k := by simp [renOf, hc, h]
theorem renOf_nil {c : Nat} (h : sigAt σ c = some .nil) (hc : c < n) : renOf ρ σ n c = some (.sv (.slice none 0 0)) := by simp [renOf, hc, h]

/-- All block numbers of a pattern lie below n. -/
def LPat.below (n : Nat) : LPat → Bool
  | .sl c => decide (c < n)
  | .ptr c _ => decide (c < n)
  | .eltp c _ _ => decide (c < n)
  | .fn _ cap => cap.all fun x => decide (x.1 < n)
  | _ => true

theorem getL1_ok {p : LPat} {v : AV} {R : Type} {k : Option R} {x : p.T1 R} (hb : p.below n = true) (h : getL1 σ p v R k = some x) :
    k = some (putL1 p R x).2 ∧ ∀ u, (VR ρ v u → VR (renOf ρ σ n) (putL1 p R x).1 u) ∧ ((putL1 p R x).1 ≠ .junk → LR ρ v u → LR (renOf ρ σ n) (putL1 p R x).1 u) ∧ (∀ l, (putL1 p R x).1 ≠ .tup l) := by
  cases p with
  | any => exact ⟨h, fun u => ⟨fun _ => trivial, fun e => absurd rfl e, fun l e => by cases e⟩⟩
  | sc s =>
    simp only [getL1, Option.bind_eq_some_iff, Option.map_eq_some_iff] at h
    obtain ⟨y, hy, z, hz, rfl⟩ := h
    have e := SK.ofAV_some hy
    subst e
    refine ⟨hz, fun u => ⟨fun hv => ?_, fun _ hv => ?_, fun l e => by cases s <;> cases e⟩⟩
    · cases s <;> exact hv
    · cases s <;> exact hv
  | agg sh =>
    simp only [getL1] at h
    cases v <;> first | cases h; done | skip
    rename_i cs
    simp only [Option.bind_eq_some_iff, Option.map_eq_some_iff] at h
    obtain ⟨y, hy, z, hz, rfl⟩ := h
    refine ⟨hz, fun u => ⟨fun hv => ?_, fun _ hv => hv.elim, fun l e => by cases e⟩⟩
    obtain ⟨c, rfl, h2⟩ := hv
    refine ⟨c, rfl, ?_⟩
    rw [Row.ofAVs_some hy] at h2
    rw [Row.vals_of_rel h2]
    exact Row.rel _ sh y
  | sl c =>
    simp only [getL1] at h
    simp only [LPat.below, decide_eq_true_eq] at hb
    cases v <;> dsimp only at h <;> first | cases h; done | skip
    · split at h <;> first | cases h; done | skip
      rename_i e
      refine ⟨h, fun u => ⟨fun hv => ?_, fun _ hv => ?_, fun l e => by cases e⟩⟩
      · obtain rfl : u = .slice none 0 0 := hv
        exact ⟨renOf_nil e hb, _, _, _, rfl⟩
      · obtain rfl : u = .slice none 0 0 := hv
        exact ⟨renOf_nil e hb, _, _, _, rfl⟩
    · split at h <;> first | cases h; done | skip
      rename_i q e
      refine ⟨h, fun u => ⟨fun hv => ?_, fun _ hv => ?_, fun l e => by cases e⟩⟩
      · obtain ⟨h1, h2⟩ := hv
        exact ⟨by rw [renOf_key e hb]; exact h1, h2⟩
      · obtain ⟨h1, h2⟩ := hv
        exact ⟨by rw [renOf_key e hb]; exact h1, h2⟩
  | ptr c o =>
    simp only [getL1] at h
    simp only [LPat.below, decide_eq_true_eq] at hb
    cases v <;> dsimp only at h <;> first | cases h; done | skip
    split at h <;> first | cases h; done | skip
    rename_i q o' e
    obtain ⟨e, rfl⟩ := e
    refine ⟨h, fun u => ⟨fun hv => ?_, fun _ hv => ?_, fun l e => by cases e⟩⟩
    · obtain ⟨b, h1, h2⟩ := hv
      exact ⟨b, by rw [renOf_key e hb]; exact h1, h2⟩
    · obtain ⟨b, h1, h2⟩ := hv
      exact ⟨b, by rw [renOf_key e hb]; exact h1, h2⟩
  | eltp c sz o =>
    simp only [getL1] at h
    simp only [LPat.below, decide_eq_true_eq] at hb
    cases v <;> dsimp only at h <;> first | cases h; done | skip
    split at h <;> first | cases h; done | skip
    rename_i q i sz' o' e
    obtain ⟨e, rfl, rfl⟩ := e
    simp only [Option.map_eq_some_iff] at h
    obtain ⟨z, hz, rfl⟩ := h
    refine ⟨hz, fun u => ⟨fun hv => ?_, fun _ hv => ?_, fun l e => by cases e⟩⟩
    · obtain ⟨ad, n, cp, h1, h2⟩ := hv
      exact ⟨ad, n, cp, by rw [renOf_key e hb]; exact h1, h2⟩
    · obtain ⟨ad, n, cp, h1, h2⟩ := hv
      exact ⟨ad, n, cp, by rw [renOf_key e hb]; exact h1, h2⟩
  | nilp =>
    simp only [getL1] at h
    cases v <;> dsimp only at h <;> first | cases h; done | skip
    exact ⟨h, fun u => ⟨fun hv => hv, fun _ hv => hv, fun l e => by cases e⟩⟩
  | nils =>
    simp only [getL1] at h
    cases v <;> dsimp only at h <;> first | cases h; done | skip
    exact ⟨h, fun u => ⟨fun hv => hv, fun _ hv => hv, fun l e => by cases e⟩⟩
  | grp sh =>
    simp only [getL1] at h
    cases v <;> first | cases h; done | skip
    rename_i cs
    simp only [Option.bind_eq_some_iff, Option.map_eq_some_iff] at h
    obtain ⟨y, hy, z, hz, rfl⟩ := h
    refine ⟨hz, fun u => ⟨fun hv => ?_, fun _ hv => hv.elim, fun l e => by cases e⟩⟩
    obtain ⟨c, rfl, h2⟩ := hv
    refine ⟨c, rfl, ?_⟩
    rw [Row.ofAVs_some hy] at h2
    rw [Row.vals_of_rel h2]
    exact Row.rel _ sh y
  | fn f cap =>
    simp only [getL1] at h
    cases v <;> dsimp only at h <;> first | cases h; done | skip
    split at h <;> first | cases h; done | skip
    rename_i f' cap' e
    obtain ⟨rfl, e⟩ := e
    have hcap : ∀ (cap cap' : List (Nat × Nat)) (l : List Value), (cap.all fun x => decide (x.1 < n)) = true → cap.map (fun x => (sigAt σ x.1, x.2)) = cap'.map (fun x => (some (KR.key x.1), x.2)) → All2 (fun x u => PtrR ρ x.1 x.2 u) cap' l → All2 (fun x u => PtrR (renOf ρ σ n) x.1 x.2 u) cap l := by
      intro cap cap' l hb e ha
      induction ha generalizing cap with
      | nil =>
        cases cap with
        | nil => exact .nil
        | cons _ _ => simp at e
      | cons r _ ih =>
        cases cap with
        | nil => simp at e
        | cons x cap =>
          simp only [List.map_cons, List.cons.injEq, Prod.mk.injEq] at e
          simp only [List.all_cons, Bool.and_eq_true, decide_eq_true_eq] at hb
          obtain ⟨b, h1, h2⟩ := r
          refine .cons ⟨b, by rw [renOf_key e.1.1 hb.1]; exact h1, by rw [e.1.2]; exact h2⟩ (ih cap hb.2 e.2)
    refine ⟨h, fun u => ⟨fun hv => ?_, fun _ hv => ?_, fun l e => by cases e⟩⟩
    · obtain ⟨cv, h1, h2⟩ := hv
      exact ⟨cv, h1, hcap cap cap' _ hb e h2⟩
    · obtain ⟨cv, h1, h2⟩ := hv
      exact ⟨cv, h1, hcap cap cap' _ hb e h2⟩

/-- All block numbers of a pattern lie below n. -/
def Pat.below (n : Nat) : Pat → Bool
  | .l p => p.below n
  | .aggp ps => ps.all (LPat.below n)
theorem getL_cons {p : LPat} {ps : List LPat} {vs : List AV} {x : LT (p :: ps)} (h : getL σ (p :: ps) vs = some x) :
    (∃ sh, ∃ _e : p = .grp sh, ∃ y z, Row.ofAVs sh (vs.take sh.length) = some y ∧ getL σ ps (vs.drop sh.length) = some z ∧ putL (p :: ps) x = Row.toAVs sh y ++ putL ps z) ∨
    (∃ v vs', vs = v :: vs' ∧ getL1 σ p v (LT ps) (getL σ ps vs') = some x ∧ putL (p :: ps) x = (putL1 p (LT ps) x).1 :: putL ps (putL1 p (LT ps) x).2) := by
  cases p
  case grp sh =>
    simp only [getL, Option.bind_eq_some_iff, Option.map_eq_some_iff] at h
    obtain ⟨y, hy, z, hz, rfl⟩ := h
    exact .inl ⟨sh, rfl, y, z, hy, hz, rfl⟩
  all_goals
    cases vs with
    | nil => simp [getL] at h
    | cons v vs => exact .inr ⟨v, vs, rfl, h, rfl⟩
theorem getL_rel : ∀ {ps : List LPat} {vs : List AV} {x : LT ps} {us : List Value}, (ps.all (LPat.below n)) = true → getL σ ps vs = some x → All2 (LR ρ) vs us → All2 (LR (renOf ρ σ n)) (putL ps x) us
  | [], vs, x, us, _, h, ha => by
    cases vs with
    | nil => cases ha; exact .nil
    | cons _ _ => simp [getL] at h
  | p :: ps, vs, x, us, hb, h, ha => by
    simp only [List.all_cons, Bool.and_eq_true] at hb
    rcases getL_cons h with ⟨sh, rfl, y, z, hy, hz, e⟩ | ⟨v, vs', rfl, h1, e⟩
    · rw [e]
      have h1 := ha.take sh.length
      have h2 := ha.drop sh.length
      have ih := getL_rel hb.2 hz h2
      rw [Row.ofAVs_some hy] at h1
      rw [← List.take_append_drop sh.length us]
      refine All2.append ?_ ih
      rw [Row.vals_of_rel h1]
      exact Row.rel _ sh y
    · rw [e]
      cases ha with
      | cons r a =>
        obtain ⟨hk, hv⟩ := getL1_ok (ρ := ρ) hb.1 h1
        refine .cons ?_ (getL_rel hb.2 hk a)
        by_cases hj : (putL1 p (LT ps) x).1 = .junk
        · rw [hj]; exact r.one
        · exact (hv _).2.1 hj r
theorem getP1_ok {p : Pat} {v : AV} {R : Type} {k : Option R} {x : p.T1 R} (hb : p.below n = true) (h : getP1 σ p v R k = some x) :
    k = some (putP1 p R x).2 ∧ ∀ u, (VR ρ v u → VR (renOf ρ σ n) (putP1 p R x).1 u) ∧ (∀ l, (putP1 p R x).1 ≠ .tup l) := by
  cases p with
  | l p =>
    obtain ⟨h1, h2⟩ := getL1_ok (ρ := ρ) hb h
    exact ⟨h1, fun u => ⟨(h2 u).1, (h2 u).2.2⟩⟩
  | aggp ps =>
    simp only [getP1] at h
    cases v <;> first | cases h; done | skip
    rename_i cs
    simp only [Option.bind_eq_some_iff, Option.map_eq_some_iff] at h
    obtain ⟨y, hy, z, hz, rfl⟩ := h
    refine ⟨hz, fun u => ⟨fun hv => ?_, fun l e => by cases e⟩⟩
    obtain ⟨c, rfl, h2⟩ := hv
    exact ⟨c, rfl, getL_rel hb hy h2⟩

theorem sigAt_mem {c : Nat} {r : KR} : ∀ {σ : Sig}, sigAt σ c = some r → (c, r) ∈ σ
  | (c', r') :: t, h => by
    simp only [sigAt] at h
    split at h
    · rename_i e; subst e; obtain rfl := Option.some.inj h; simp
    · exact List.mem_cons_of_mem _ (sigAt_mem h)
theorem keysOf_inj : ∀ {σ : Sig}, (keysOf σ).Nodup → ∀ {c c' k : Nat}, c ≠ c' → (c, KR.key k) ∈ σ → (c', KR.key k) ∈ σ → False
  | [], _, _, _, _, _, h, _ => by cases h
  | (c0, r0) :: t, hn, c, c', k, hne, h1, h2 => by
    have htail : (keysOf t).Nodup := by
      unfold keysOf at hn ⊢
      rw [List.filterMap_cons] at hn
      split at hn
      · exact hn
      · exact (List.nodup_cons.1 hn).2
    have hmem : ∀ {c k : Nat}, (c, KR.key k) ∈ t → k ∈ keysOf t := fun {c k} hm => List.mem_filterMap.2 ⟨_, hm, rfl⟩
    simp only [List.mem_cons, Prod.mk.injEq] at h1 h2
    rcases h1 with ⟨rfl, rfl⟩ | h1
    · rcases h2 with ⟨rfl, _⟩ | h2
      · exact hne rfl
      · have : k ∈ keysOf t := hmem h2
        unfold keysOf at hn this
        rw [List.filterMap_cons] at hn
        simp only [List.nodup_cons] at hn
        exact hn.1 this
    · rcases h2 with ⟨rfl, rfl⟩ | h2
      · have : k ∈ keysOf t := hmem h1
        unfold keysOf at hn this
        rw [List.filterMap_cons] at hn
        simp only [List.nodup_cons] at hn
        exact hn.1 this
      · exact keysOf_inj htail hne h1 h2
end
end Go.Ev
