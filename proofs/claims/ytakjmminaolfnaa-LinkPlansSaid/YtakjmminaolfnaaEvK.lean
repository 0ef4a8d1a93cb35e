/- Patterns of states: what a function's arguments, its result, and a loop's states look like. -/
import Derived.Test.YtakjmminaolfnaaEvJ
namespace Go.Ev
open Go.RowKit

/-- A value's pattern; blocks go by numbers of the pattern's own. -/
inductive Pat where
  | any
  | sc (s : SK)
  | agg (sh : List SK)
  | sl (c : Nat)
  | ptr (c off : Nat)
  | fn (f : Nat) (cap : List (Nat × Nat))
abbrev Pat.T1 : Pat → Type → Type
  | .sc s, R => s.T × R
  | .agg sh, R => Row sh × R
  | _, R => R
/-- What a row of patterns leaves open. -/
abbrev PT : List Pat → Type
  | [] => Unit
  | p :: ps => p.T1 (PT ps)
inductive HPat where
  | gone
  | cells (ps : List Pat)
  | rows (e : TypeId) (sh : List SK)
  | ext (e : TypeId) (sh : List SK)
abbrev HPat.T1 : HPat → Type → Type
  | .cells ps, R => PT ps × R
  | .rows _ sh, R => List (Row sh) × R
  | .ext _ sh, R => List (Row sh) × R
  | .gone, R => R
abbrev HT : List HPat → Type
  | [] => Unit
  | p :: ps => p.T1 (HT ps)

def putP1 : (p : Pat) → (R : Type) → p.T1 R → AV × R
  | .any, _, x => (.junk, x)
  | .sc s, _, x => (s.toAV x.1, x.2)
  | .agg sh, _, x => (.agg (Row.toAVs sh x.1), x.2)
  | .sl c, _, x => (.sl c, x)
  | .ptr c o, _, x => (.ptr c o, x)
  | .fn f cap, _, x => (.fn f cap, x)
def putP : (ps : List Pat) → PT ps → List AV
  | [], _ => []
  | p :: ps, x => (putP1 p (PT ps) x).1 :: putP ps (putP1 p (PT ps) x).2
def putH1 : (p : HPat) → (R : Type) → p.T1 R → AB × R
  | .gone, _, x => (.gone, x)
  | .cells ps, _, x => (.cells (putP ps x.1), x.2)
  | .rows e sh, _, x => (.rows e sh x.1, x.2)
  | .ext e sh, _, x => (.ext e sh x.1, x.2)
def putH : (ps : List HPat) → HT ps → List AB
  | [], _ => []
  | p :: ps, x => (putH1 p (HT ps) x).1 :: putH ps (putH1 p (HT ps) x).2

/-- Where a pattern's block is: at a key, or it is the nil slice. -/
inductive KR where
  | key (k : Nat)
  | nil
  deriving DecidableEq
abbrev Sig := List (Nat × KR)
def sigAt : Sig → Nat → Option KR
  | [], _ => none
  | (c, r) :: t, c' => if c = c' then some r else sigAt t c'
def find1 (σ : Sig) : Pat → AV → Sig
  | .sl c, .sl k => if (sigAt σ c).isSome then σ else σ ++ [(c, .key k)]
  | .sl c, .nilsl => if (sigAt σ c).isSome then σ else σ ++ [(c, .nil)]
  | .ptr c _, .ptr k _ => if (sigAt σ c).isSome then σ else σ ++ [(c, .key k)]
  | .fn _ cap, .fn _ cap' => (cap.zip cap').foldl (fun σ x => if (sigAt σ x.1.1).isSome then σ else σ ++ [(x.1.1, .key x.2.1)]) σ
  | _, _ => σ
def findL : List Pat → List AV → Sig → Sig
  | p :: ps, v :: vs, σ => findL ps vs (find1 σ p v)
  | _, _, σ => σ
def findH (h : List AB) : List HPat → Nat → Sig → Sig
  | [], _, σ => σ
  | .cells ps :: t, c, σ =>
    match sigAt σ c with
    | some (.key k) => match h[k]? with
      | some (.cells cs) => findH h t (c + 1) (findL ps cs σ)
      | _ => findH h t (c + 1) σ
    | _ => findH h t (c + 1) σ
  | _ :: t, c, σ => findH h t (c + 1) σ

def getP1 (σ : Sig) : (p : Pat) → AV → (R : Type) → Option R → Option (p.T1 R)
  | .any, _, _, k => k
  | .sc s, v, _, k => (s.ofAV v).bind fun x => k.map fun y => (x, y)
  | .agg sh, v, _, k => match v with | .agg cs => (Row.ofAVs sh cs).bind fun x => k.map fun y => (x, y) | _ => none
  | .sl c, v, _, k =>
    match v with
    | .sl q => if sigAt σ c = some (.key q) then k else none
    | .nilsl => if sigAt σ c = some .nil then k else none
    | _ => none
  | .ptr c o, v, _, k => match v with | .ptr q o' => if sigAt σ c = some (.key q) ∧ o = o' then k else none | _ => none
  | .fn f cap, v, _, k =>
    match v with
    | .fn f' cap' => if f = f' ∧ cap.map (fun x => (sigAt σ x.1, x.2)) = cap'.map (fun x => (some (.key x.1), x.2)) then k else none
    | _ => none
def getP (σ : Sig) : (ps : List Pat) → List AV → Option (PT ps)
  | [], [] => some ()
  | p :: ps, v :: vs => getP1 σ p v (PT ps) (getP σ ps vs)
  | _, _ => none
/-- 'weak': own rows serve where rows that are only read are asked for. -/
def getH1 (weak : Bool) (σ : Sig) (h : List AB) (c : Nat) : (p : HPat) → (R : Type) → Option R → Option (p.T1 R)
  | .gone, _, k => k
  | .cells ps, _, k =>
    match sigAt σ c with
    | some (.key q) => match h[q]? with
      | some (.cells cs) => (getP σ ps cs).bind fun x => k.map fun y => (x, y)
      | _ => none
    | _ => none
  | .rows e sh, _, k =>
    match sigAt σ c with
    | some (.key q) => match h[q]? with
      | some (.rows e' sh' xs) => if hs : e' = e ∧ sh' = sh then k.map fun y => (hs.2 ▸ xs, y) else none
      | _ => none
    | some .nil => if 0 < sh.length then k.map fun y => ([], y) else none
    | none => none
  | .ext e sh, _, k =>
    match sigAt σ c with
    | some (.key q) => match h[q]? with
      | some (.ext e' sh' xs) => if hs : e' = e ∧ sh' = sh then k.map fun y => (hs.2 ▸ xs, y) else none
      | some (.rows e' sh' xs) => if hs : weak = true ∧ e' = e ∧ sh' = sh then k.map fun y => (hs.2.2 ▸ xs, y) else none
      | _ => none
    | some .nil => if 0 < sh.length then k.map fun y => ([], y) else none
    | none => none
def getH (weak : Bool) (σ : Sig) (h : List AB) : Nat → (ps : List HPat) → Option (HT ps)
  | _, [] => some ()
  | c, p :: ps => getH1 weak σ h c p (HT ps) (getH weak σ h (c + 1) ps)

def keysOf (σ : Sig) : List Nat := σ.filterMap fun x => match x.2 with | .key k => some k | .nil => none
/-- A state read by its pattern. -/
def getS (weak : Bool) (ps : List Pat) (hs : List HPat) (tmps : List AV) (h : List AB) : Option (PT ps × HT hs) :=
  let σ := findH h hs 0 (findL ps tmps [])
  if (weak = true ∨ (keysOf σ).Nodup) ∧ (σ.map (·.1)).Nodup then (getP σ ps tmps).bind fun x => (getH weak σ h 0 hs).map fun y => (x, y) else none

/-- The blocks' renaming. -/
def renOf (ρ : Ren) (σ : Sig) (n : Nat) : Ren := fun c => if c < n then (match sigAt σ c with | some (.key k) => ρ k | some .nil => some (.sv (.slice none 0 0)) | none => none) else none

section
variable {ρ : Ren} {σ : Sig} {n : Nat}
theorem renOf_key {c k : Nat} (h : sigAt σ c = some (.key k)) (hc : c < n) : renOf ρ σ n c = ρ k := by simp [renOf, hc, h]
theorem renOf_nil {c : Nat} (h : sigAt σ c = some .nil) (hc : c < n) : renOf ρ σ n c = some (.sv (.slice none 0 0)) := by simp [renOf, hc, h]

/-- All block numbers of a pattern lie below n. -/
def Pat.below (n : Nat) : Pat → Bool
  | .sl c => decide (c < n)
  | .ptr c _ => decide (c < n)
  | .fn _ cap => cap.all fun x => decide (x.1 < n)
  | _ => true

theorem getP1_ok {p : Pat} {v : AV} {R : Type} {k : Option R} {x : p.T1 R} (hb : p.below n = true) (h : getP1 σ p v R k = some x) :
    k = some (putP1 p R x).2 ∧ ∀ u, (VR ρ v u → VR (renOf ρ σ n) (putP1 p R x).1 u) ∧ ((putP1 p R x).1 ≠ .junk → LR ρ v u → LR (renOf ρ σ n) (putP1 p R x).1 u) ∧ (∀ l, (putP1 p R x).1 ≠ .tup l) := by
  cases p with
  | any => exact ⟨h, fun u => ⟨fun _ => trivial, fun e => absurd rfl e, fun l e => by cases e⟩⟩
  | sc s =>
    simp only [getP1, Option.bind_eq_some_iff, Option.map_eq_some_iff] at h
    obtain ⟨y, hy, z, hz, rfl⟩ := h
    have e := SK.ofAV_some hy
    subst e
    refine ⟨hz, fun u => ⟨fun hv => ?_, fun _ hv => ?_, fun l e => by cases s <;> cases e⟩⟩
    · cases s <;> exact hv
    · cases s <;> exact hv
  | agg sh =>
    simp only [getP1] at h
    cases v <;> first | cases h; done | skip
    rename_i cs
    simp only [Option.bind_eq_some_iff, Option.map_eq_some_iff] at h
    obtain ⟨y, hy, z, hz, rfl⟩ := h
    refine ⟨hz, fun u => ⟨fun hv => ?_, fun _ hv => hv.elim, fun l e => by cases e⟩⟩
    obtain ⟨c, rfl, h2⟩ := hv
    refine ⟨c, rfl, ?_⟩
    rw [Row.ofAVs_some hy] at h2
    rw [Row.vals_of_rel h2]
    exact Row.rel _ sh y
  | sl c =>
    simp only [getP1] at h
    simp only [Pat.below, decide_eq_true_eq] at hb
    cases v <;> dsimp only at h <;> first | cases h; done | skip
    · split at h <;> first | cases h; done | skip
      rename_i e
      refine ⟨h, fun u => ⟨fun hv => ?_, fun _ hv => ?_, fun l e => by cases e⟩⟩
      · obtain rfl : u = .slice none 0 0 := hv
        exact ⟨renOf_nil e hb, _, _, _, rfl⟩
      · obtain rfl : u = .slice none 0 0 := hv
        exact ⟨renOf_nil e hb, _, _, _, rfl⟩
    · split at h <;> first | cases h; done | skip
      rename_i q e
      refine ⟨h, fun u => ⟨fun hv => ?_, fun _ hv => ?_, fun l e => by cases e⟩⟩
      · obtain ⟨h1, h2⟩ := hv
        exact ⟨by rw [renOf_key e hb]; exact h1, h2⟩
      · obtain ⟨h1, h2⟩ := hv
        exact ⟨by rw [renOf_key e hb]; exact h1, h2⟩
  | ptr c o =>
    simp only [getP1] at h
    simp only [Pat.below, decide_eq_true_eq] at hb
    cases v <;> dsimp only at h <;> first | cases h; done | skip
    split at h <;> first | cases h; done | skip
    rename_i q o' e
    obtain ⟨e, rfl⟩ := e
    refine ⟨h, fun u => ⟨fun hv => ?_, fun _ hv => ?_, fun l e => by cases e⟩⟩
    · obtain ⟨b, h1, h2⟩ := hv
      exact ⟨b, by rw [renOf_key e hb]; exact h1, h2⟩
    · obtain ⟨b, h1, h2⟩ := hv
      exact ⟨b, by rw [renOf_key e hb]; exact h1, h2⟩
  | fn f cap =>
    simp only [getP1] at h
    cases v <;> dsimp only at h <;> first | cases h; done | skip
    split at h <;> first | cases h; done | skip
    rename_i f' cap' e
    obtain ⟨rfl, e⟩ := e
    have hcap : ∀ (cap cap' : List (Nat × Nat)) (l : List Value), (cap.all fun x => decide (x.1 < n)) = true → cap.map (fun x => (sigAt σ x.1, x.2)) = cap'.map (fun x => (some (KR.key x.1), x.2)) → All2 (fun x u => PtrR ρ x.1 x.2 u) cap' l → All2 (fun x u => PtrR (renOf ρ σ n) x.1 x.2 u) cap l := by
      intro cap cap' l hb e ha
      induction ha generalizing cap with
      | nil =>
        cases cap with
        | nil => exact .nil
        | cons _ _ => simp at e
      | cons r _ ih =>
        cases cap with
        | nil => simp at e
        | cons x cap =>
          simp only [List.map_cons, List.cons.injEq, Prod.mk.injEq] at e
          simp only [List.all_cons, Bool.and_eq_true, decide_eq_true_eq] at hb
          obtain ⟨b, h1, h2⟩ := r
          refine .cons ⟨b, by rw [renOf_key e.1.1 hb.1]; exact h1, by rw [e.1.2]; exact h2⟩ (ih cap hb.2 e.2)
    refine ⟨h, fun u => ⟨fun hv => ?_, fun _ hv => ?_, fun l e => by cases e⟩⟩
    · obtain ⟨cv, h1, h2⟩ := hv
      exact ⟨cv, h1, hcap cap cap' _ hb e h2⟩
    · obtain ⟨cv, h1, h2⟩ := hv
      exact ⟨cv, h1, hcap cap cap' _ hb e h2⟩

theorem getP_ok : ∀ {ps : List Pat} {vs : List AV} {x : PT ps}, (ps.all (Pat.below n)) = true → getP σ ps vs = some x →
    (putP ps x).length = vs.length ∧ ∀ (i : Nat) (v : AV), vs[i]? = some v → ∃ v' : AV, (putP ps x)[i]? = some v' ∧ ∀ u, (VR ρ v u → VR (renOf ρ σ n) v' u) ∧ (v' ≠ .junk → LR ρ v u → LR (renOf ρ σ n) v' u) ∧ (∀ l, v' ≠ .tup l)
  | [], [], x, _, h => ⟨rfl, fun i v hv => by simp at hv⟩
  | [], _ :: _, _, _, h => by simp [getP] at h
  | _ :: _, [], _, _, h => by simp [getP] at h
  | p :: ps, v :: vs, x, hb, h => by
    simp only [List.all_cons, Bool.and_eq_true] at hb
    simp only [getP] at h
    obtain ⟨hk, hv⟩ := getP1_ok (ρ := ρ) hb.1 h
    obtain ⟨hl, hr⟩ := getP_ok hb.2 hk
    refine ⟨by simp [putP, hl], fun i v' hv' => ?_⟩
    cases i with
    | zero =>
      simp only [List.getElem?_cons_zero, Option.some.injEq] at hv'
      subst hv'
      exact ⟨_, by simp [putP], hv⟩
    | succ i =>
      obtain ⟨v2, h2, h3⟩ := hr i v' (by simpa using hv')
      exact ⟨v2, by simpa [putP] using h2, h3⟩

theorem sigAt_mem {c : Nat} {r : KR} : ∀ {σ : Sig}, sigAt σ c = some r → (c, r) ∈ σ
  | (c', r') :: t, h => by
    simp only [sigAt] at h
    split at h
    · rename_i e; subst e; obtain rfl := Option.some.inj h; simp
    · exact List.mem_cons_of_mem _ (sigAt_mem h)
theorem keysOf_inj : ∀ {σ : Sig}, (keysOf σ).Nodup → ∀ {c c' k : Nat}, c ≠ c' → (c, KR.key k) ∈ σ → (c', KR.key k) ∈ σ → False
  | [], _, _, _, _, _, h, _ => by cases h
  | (c0, r0) :: t, hn, c, c', k, hne, h1, h2 => by
    have htail : (keysOf t).Nodup := by
      unfold keysOf at hn ⊢
      rw [List.filterMap_cons] at hn
      split at hn
      · exact hn
      · exact (List.nodup_cons.1 hn).2
    have hmem : ∀ {c k : Nat}, (c, KR.key k) ∈ t → k ∈ keysOf t := fun {c k} hm => List.mem_filterMap.2 ⟨_, hm, rfl⟩
    simp only [List.mem_cons, Prod.mk.injEq] at h1 h2
    rcases h1 with ⟨rfl, rfl⟩ | h1
    · rcases h2 with ⟨rfl, _⟩ | h2
      · exact hne rfl
      · have : k ∈ keysOf t := hmem h2
        unfold keysOf at hn this
        rw [List.filterMap_cons] at hn
        simp only [List.nodup_cons] at hn
        exact hn.1 this
    · rcases h2 with ⟨rfl, rfl⟩ | h2
      · have : k ∈ keysOf t := hmem h1
        unfold keysOf at hn this
        rw [List.filterMap_cons] at hn
        simp only [List.nodup_cons] at hn
        exact hn.1 this
      · exact keysOf_inj htail hne h1 h2
end
end Go.Ev
