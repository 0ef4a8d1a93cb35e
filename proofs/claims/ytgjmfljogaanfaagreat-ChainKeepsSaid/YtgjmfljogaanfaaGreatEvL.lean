/- A state that is read by a pattern is related to the same machine state. -/
import Derived.Test.YtgjmfljogaanfaaGreatEvK
namespace Go.Ev
open Go.RowKit

def HPat.ro : HPat → Bool
  | .gone => true
  | .ext .. => true
  | .rcells _ => true
  | .mixe .. => true
  | _ => false
def HPat.below (n : Nat) : HPat → Bool
  | .cells ps => ps.all (LPat.below n)
  | .rcells ps => ps.all (LPat.below n)
  | _ => true

/-- From which own blocks are counted behind a reading: a call counts anew. -/
def BB (weak : Bool) (w : World) (B : KS) : KS := if weak then Old w else B
theorem BB_le {weak : Bool} {w : World} {B : KS} (hB : Le B (Old w)) : (∀ b, B.k b → (BB weak w B).k b) ∧ Le (BB weak w B) (Old w) := by
  unfold BB; split
  · exact ⟨fun b hb => Old.all_iff.1 (hB b (.inl hb)), Le.refl _⟩
  · exact ⟨fun _ h => h, hB⟩

section
variable {ρ : Ren} {σ : Sig} {n : Nat} {weak : Bool} {h : List AB} {B C : KS} {w : World}

/-- What a block that was read comes from. -/
structure Into (weak : Bool) (w : World) (B C : KS) (ρ : Ren) (σ : Sig) (n : Nat) (h : List AB) : Prop where
  k : ∀ b, B.k b → C.k b
  base : Le C (Old w)
  wk : weak = true → ∀ g, g < w.heap.size → C.k g
  own : weak = false → ∀ c q b0 r g, c < n → sigAt σ c = some (.key q) → h[q]? = some b0 → ρ q = some r → ownB b0 r = some g → ¬ C.all g
def From (w : World) (B C : KS) (ρ : Ren) (σ : Sig) (n : Nat) (h : List AB) (c : Nat) (b : AB) : Prop :=
  b = .gone ∨ (∃ q b0, sigAt σ c = some (.key q) ∧ h[q]? = some b0 ∧ b0 ≠ .gone ∧ (∀ r, ρ q = some r → HB w B ρ b0 r → HB w C (renOf ρ σ n) b r) ∧ (∀ r g, ownB b r = some g → ownB b0 r = some g)) ∨
  (sigAt σ c = some .nil ∧ HB w C (renOf ρ σ n) b (.sv (.slice none 0 0)) ∧ ownB b (.sv (.slice none 0 0)) = none)

theorem getP_vrel {ps : List Pat} {vs : List AV} {x : PT ps} {us : List Value} (hb : (ps.all (Pat.below n)) = true) (h : getP σ ps vs = some x) (ha : All2 (VR ρ) vs us) : All2 (VR (renOf ρ σ n)) (putP ps x) us := by
  induction ha generalizing ps with
  | nil =>
    cases ps with
    | nil => exact .nil
    | cons _ _ => simp [getP] at h
  | cons r a ih =>
    cases ps with
    | nil => simp [getP] at h
    | cons p ps =>
      simp only [List.all_cons, Bool.and_eq_true] at hb
      simp only [getP] at h
      obtain ⟨hk, hv⟩ := getP1_ok (ρ := ρ) hb.1 h
      exact .cons ((hv _).1 r) (ih hb.2 hk)


theorem getH1_ok {c : Nat} {p : HPat} {R : Type} {k : Option R} {x : p.T1 R} (hI : Into weak w B C ρ σ n h) (hcn : c < n) (hro : weak = true → p.ro = true) (hb : p.below n = true) (hg : getH1 weak σ h c p R k = some x) :
    k = some (putH1 p R x).2 ∧ From w B C ρ σ n h c (putH1 p R x).1 := by
  cases p with
  | gone => exact ⟨hg, .inl rfl⟩
  | cells ps =>
    have hw : weak = false := by cases weak <;> first | rfl | exact absurd (hro rfl) (by simp [HPat.ro])
    subst hw
    simp only [getH1] at hg
    split at hg <;> first | cases hg; done | skip
    rename_i q hs
    split at hg <;> first | cases hg; done | skip
    rename_i cs hq
    simp only [Option.bind_eq_some_iff, Option.map_eq_some_iff] at hg
    obtain ⟨y, hy, z, hz, rfl⟩ := hg
    refine ⟨hz, .inr (.inl ⟨q, _, hs, hq, by simp, fun r hρ hr => ?_, fun r g ho => ?_⟩)⟩
    · cases r with
      | sv v => exact hr.elim
      | blk b =>
        obtain ⟨h1, cc, T, h2, h3⟩ := hr
        exact ⟨hI.own rfl c q _ _ b hcn hs hq hρ rfl, cc, T, h2, getL_rel hb hy h3⟩
    · cases r with
      | sv v => cases ho
      | blk b => exact ho
  | rcells ps =>
    simp only [getH1] at hg
    split at hg <;> first | cases hg; done | skip
    rename_i q hs
    split at hg <;> first | cases hg; done | skip
    · rename_i cs hq
      simp only [Option.bind_eq_some_iff, Option.map_eq_some_iff] at hg
      obtain ⟨y, hy, z, hz, rfl⟩ := hg
      refine ⟨hz, .inr (.inl ⟨q, _, hs, hq, by simp, fun r hρ hr => ?_, fun r g ho => by cases r <;> cases ho⟩)⟩
      cases r with
      | sv v => exact hr.elim
      | blk b =>
        obtain ⟨h1, cc, T, h2, h3⟩ := hr
        exact ⟨hI.k b h1, cc, T, h2, getL_rel hb hy h3⟩
    · rename_i cs hq
      split at hg <;> first | cases hg; done | skip
      rename_i hwk
      simp only [Option.bind_eq_some_iff, Option.map_eq_some_iff] at hg
      obtain ⟨y, hy, z, hz, rfl⟩ := hg
      refine ⟨hz, .inr (.inl ⟨q, _, hs, hq, by simp, fun r hρ hr => ?_, fun r g ho => by cases r <;> cases ho⟩)⟩
      cases r with
      | sv v => exact hr.elim
      | blk b =>
        obtain ⟨h1, cc, T, h2, h3⟩ := hr
        exact ⟨hI.wk hwk b (lt_of_heap h2), cc, T, h2, getL_rel hb hy h3⟩
  | rows e sh =>
    have hw : weak = false := by cases weak <;> first | rfl | exact absurd (hro rfl) (by simp [HPat.ro])
    subst hw
    simp only [getH1] at hg
    split at hg
    · rename_i q hs
      split at hg <;> first | cases hg; done | skip
      rename_i e' sh' xs hq
      split at hg <;> first | cases hg; done | skip
      rename_i he
      obtain ⟨rfl, rfl⟩ := he
      simp only [Option.map_eq_some_iff] at hg
      obtain ⟨z, hz, rfl⟩ := hg
      refine ⟨hz, .inr (.inl ⟨q, _, hs, hq, by simp, fun r hρ hr => ?_, fun r g ho => ho⟩)⟩
      cases r with
      | blk b => exact hr.elim
      | sv v => exact ⟨hr.1, hr.2.row, fun g hg => hI.own rfl c q _ _ g hcn hs hq hρ hg⟩
    · rename_i hs
      split at hg <;> first | cases hg; done | skip
      rename_i hl
      simp only [Option.map_eq_some_iff] at hg
      obtain ⟨z, hz, rfl⟩ := hg
      exact ⟨hz, .inr (.inr ⟨hs, ⟨hl, Owns.nil w _ e sh.length⟩, rfl⟩)⟩
    · cases hg
  | nest e e2 sh =>
    have hw : weak = false := by cases weak <;> first | rfl | exact absurd (hro rfl) (by simp [HPat.ro])
    subst hw
    simp only [getH1] at hg
    split at hg
    · rename_i q hs
      split at hg <;> first | cases hg; done | skip
      rename_i e' e2' sh' xss hq
      split at hg <;> first | cases hg; done | skip
      rename_i he
      obtain ⟨⟨rfl, rfl⟩, rfl⟩ := he
      simp only [Option.map_eq_some_iff] at hg
      obtain ⟨z, hz, rfl⟩ := hg
      refine ⟨hz, .inr (.inl ⟨q, _, hs, hq, by simp, fun r hρ hr => ?_, fun r g ho => ho⟩)⟩
      cases r with
      | blk b => exact hr.elim
      | sv v =>
        obtain ⟨h0, us, hus, hO⟩ := hr
        exact ⟨h0, us, hus.mono fun _ _ hx => hx.mono hI.k, hO.row, fun g hg => hI.own rfl c q _ _ g hcn hs hq hρ hg⟩
    · rename_i hs
      split at hg <;> first | cases hg; done | skip
      rename_i hl
      simp only [Option.map_eq_some_iff] at hg
      obtain ⟨z, hz, rfl⟩ := hg
      exact ⟨hz, .inr (.inr ⟨hs, ⟨hl, [], .nil, Owns.nil w _ e 1⟩, rfl⟩)⟩
    · cases hg
  | mix e e2 sh sh2 =>
    have hw : weak = false := by cases weak <;> first | rfl | exact absurd (hro rfl) (by simp [HPat.ro])
    subst hw
    simp only [getH1] at hg
    split at hg
    · rename_i q hs
      split at hg <;> first | cases hg; done | skip
      rename_i e' e2' sh' sh2' xss hq
      split at hg <;> first | cases hg; done | skip
      rename_i he
      obtain ⟨⟨⟨rfl, rfl⟩, rfl⟩, rfl⟩ := he
      simp only [Option.map_eq_some_iff] at hg
      obtain ⟨z, hz, rfl⟩ := hg
      refine ⟨hz, .inr (.inl ⟨q, _, hs, hq, by simp, fun r hρ hr => ?_, fun r g ho => ho⟩)⟩
      cases r with
      | blk b => exact hr.elim
      | sv v =>
        obtain ⟨h0, us, hus, hO⟩ := hr
        exact ⟨h0, us, hus.mono fun _ _ hx => hx.mono hI.k, hO.row, fun g hg => hI.own rfl c q _ _ g hcn hs hq hρ hg⟩
    · rename_i hs
      split at hg <;> first | cases hg; done | skip
      rename_i hl
      simp only [Option.map_eq_some_iff] at hg
      obtain ⟨z, hz, rfl⟩ := hg
      exact ⟨hz, .inr (.inr ⟨hs, ⟨hl, [], .nil, Owns.nil w _ e (sh.length + 1)⟩, rfl⟩)⟩
    · cases hg
  | mixe e e2 sh sh2 =>
    simp only [getH1] at hg
    split at hg
    · rename_i q hs
      split at hg
      · rename_i e' e2' sh' sh2' xs hq
        split at hg <;> first | cases hg; done | skip
        rename_i he
        obtain ⟨⟨⟨rfl, rfl⟩, rfl⟩, rfl⟩ := he
        simp only [Option.map_eq_some_iff] at hg
        obtain ⟨z, hz, rfl⟩ := hg
        refine ⟨hz, .inr (.inl ⟨q, _, hs, hq, by simp, fun r _ hr => HB.mixe_mixe hI.k hr, fun r g ho => by cases r <;> cases ho⟩)⟩
      · rename_i e' e2' sh' sh2' xs hq
        split at hg <;> first | cases hg; done | skip
        rename_i he
        obtain ⟨⟨⟨hwk, rfl, rfl⟩, rfl⟩, rfl⟩ := he
        simp only [Option.map_eq_some_iff] at hg
        obtain ⟨z, hz, rfl⟩ := hg
        refine ⟨hz, .inr (.inl ⟨q, _, hs, hq, by simp, fun r _ hr => by
          cases r with
          | blk _ => exact hr.elim
          | sv v => exact HB.mix_mixe hI.k (fun g hg => hI.wk hwk g (hr.own_lt (g := g) hg).2) hr, fun r g ho => by cases r <;> cases ho⟩)⟩
      · cases hg
    · rename_i hs
      split at hg <;> first | cases hg; done | skip
      rename_i hl
      simp only [Option.map_eq_some_iff] at hg
      obtain ⟨z, hz, rfl⟩ := hg
      exact ⟨hz, .inr (.inr ⟨hs, ⟨hl, [], .nil, none, 0, rfl, Nat.le_refl _, fun j u hu => by simp at hu⟩, rfl⟩)⟩
    · cases hg
  | ext e sh =>
    simp only [getH1] at hg
    split at hg
    · rename_i q hs
      split at hg
      · rename_i e' sh' xs hq
        split at hg <;> first | cases hg; done | skip
        rename_i he
        obtain ⟨rfl, rfl⟩ := he
        simp only [Option.map_eq_some_iff] at hg
        obtain ⟨z, hz, rfl⟩ := hg
        refine ⟨hz, .inr (.inl ⟨q, _, hs, hq, by simp, fun r _ hr => HB.ext_ext hI.k hr, fun r g ho => by cases r <;> cases ho⟩)⟩
      · rename_i e' sh' xs hq
        split at hg <;> first | cases hg; done | skip
        rename_i he
        obtain ⟨hwk, rfl, rfl⟩ := he
        simp only [Option.map_eq_some_iff] at hg
        obtain ⟨z, hz, rfl⟩ := hg
        refine ⟨hz, .inr (.inl ⟨q, _, hs, hq, by simp, fun r _ hr => by
          cases r with
          | blk _ => exact hr.elim
          | sv v => exact HB.rows_ext (fun g hg => hI.wk hwk g (hr.2.lt g hg).2) hr, fun r g ho => by cases r <;> cases ho⟩)⟩
      · cases hg
    · rename_i hs
      split at hg <;> first | cases hg; done | skip
      rename_i hl
      simp only [Option.map_eq_some_iff] at hg
      obtain ⟨z, hz, rfl⟩ := hg
      exact ⟨hz, .inr (.inr ⟨hs, ⟨hl, none, 0, rfl, Nat.le_refl _, fun j u hu => by simp [flat] at hu⟩, rfl⟩)⟩
    · cases hg

theorem getH_ok : ∀ {ps : List HPat} {c : Nat} {x : HT ps}, Into weak w B C ρ σ n h → c + ps.length ≤ n → (weak = true → ps.all HPat.ro = true) → (ps.all (HPat.below n)) = true → getH weak σ h c ps = some x →
    (putH ps x).length = ps.length ∧ ∀ (i : Nat) (b : AB), (putH ps x)[i]? = some b → From w B C ρ σ n h (c + i) b
  | [], _, _, _, _, _, _, _ => ⟨rfl, fun i b hb => by simp [putH] at hb⟩
  | p :: ps, c, x, hB, hcn, hro, hb, hg => by
    simp only [List.length_cons] at hcn
    simp only [List.all_cons, Bool.and_eq_true] at hb
    simp only [getH] at hg
    obtain ⟨hk, hf⟩ := getH1_ok (ρ := ρ) (n := n) hB (by omega) (fun e => by have := hro e; simp only [List.all_cons, Bool.and_eq_true] at this; exact this.1) hb.1 hg
    obtain ⟨hl, hr⟩ := getH_ok hB (by omega) (fun e => by have := hro e; simp only [List.all_cons, Bool.and_eq_true] at this; exact this.2) hb.2 hk
    refine ⟨by simp [putH, hl], fun i b hi => ?_⟩
    cases i with
    | zero =>
      simp only [putH, List.getElem?_cons_zero, Option.some.injEq] at hi
      subst hi; exact hf
    | succ i =>
      have := hr i b (by simpa [putH] using hi)
      rwa [show c + 1 + i = c + (i + 1) by omega] at this

/-- A heap that was read. -/
theorem putH_ro : ∀ {hs : List HPat} {z : HT hs} {c : Nat} {b : AB} {r : RV}, hs.all HPat.ro = true → (putH hs z)[c]? = some b → ownB b r = none
  | [], z, c, b, r, _, h => by simp [putH] at h
  | p :: ps, z, 0, b, r, hro, h => by
    simp only [List.all_cons, Bool.and_eq_true] at hro
    simp only [putH, List.getElem?_cons_zero, Option.some.injEq] at h
    subst h
    cases p <;> first | (cases r <;> rfl) | (simp [HPat.ro] at hro)
  | p :: ps, z, c + 1, b, r, hro, h => by
    simp only [List.all_cons, Bool.and_eq_true] at hro
    simp only [putH, List.getElem?_cons_succ] at h
    exact putH_ro hro.2 h

theorem getS_HRC {ps : List Pat} {hs : List HPat} {tmps : List AV} {x : PT ps × HT hs} (hro : weak = true → hs.all HPat.ro = true) (hb : (hs.all (HPat.below hs.length)) = true) (hp : (ps.all (Pat.below hs.length)) = true)
    {n0 : Nat} (hI : Into weak w B C ρ (sigS n0 ps hs tmps h) hs.length h) (hg : getS weak n0 ps hs tmps h = some x) (hr : HR w B ρ h) :
    HR w C (renOf ρ (sigS n0 ps hs tmps h) hs.length) (putH hs x.2) ∧ (∀ us, All2 (VR ρ) tmps us → All2 (VR (renOf ρ (sigS n0 ps hs tmps h) hs.length)) (putP ps x.1) us) := by
  unfold getS at hg
  simp only at hg
  generalize sigS n0 ps hs tmps h = σ at hg hI ⊢
  split at hg <;> first | cases hg; done | skip
  rename_i hnd
  simp only [Option.bind_eq_some_iff, Option.map_eq_some_iff] at hg
  obtain ⟨y, hy, z, hz, rfl⟩ := hg
  obtain ⟨hl, hf⟩ := getH_ok (ρ := ρ) (n := hs.length) hI (by omega) hro hb hz
  simp only [Nat.zero_add] at hf
  refine ⟨⟨fun c b hc => ?_, fun c b c' b' r r' g hne h1 h2 hr1 hr2 ho ho' => ?_, fun c hc => ?_, hI.base⟩, fun us ha => getP_vrel hp hy ha⟩
  · have hlt : c < hs.length := by rw [← hl]; exact (List.getElem?_eq_some_iff.1 hc).1
    rcases hf c b hc with e | ⟨q, b0, hs0, hq, hg0, hB, _⟩ | ⟨hs0, hB, _⟩
    · exact .inl e
    · rcases hr.blk q b0 hq with e | ⟨r, hrq, hBq⟩
      · exact absurd e hg0
      · exact .inr ⟨r, by rw [renOf_key hs0 hlt]; exact hrq, hB r hrq hBq⟩
    · exact .inr ⟨_, renOf_nil hs0 hlt, hB⟩
  · have hlt : c < hs.length := by rw [← hl]; exact (List.getElem?_eq_some_iff.1 h1).1
    have hlt' : c' < hs.length := by rw [← hl]; exact (List.getElem?_eq_some_iff.1 h2).1
    rcases hf c b h1 with e | ⟨q, b0, hs0, hq, hg0, _, hO⟩ | ⟨hs0, _, hO⟩
    · subst e; cases r <;> cases ho
    · rcases hf c' b' h2 with e | ⟨q', b0', hs0', hq', hg0', _, hO'⟩ | ⟨hs0', _, hO'⟩
      · subst e; cases r' <;> cases ho'
      · rw [renOf_key hs0 hlt] at hr1
        rw [renOf_key hs0' hlt'] at hr2
        have hqq : q ≠ q' := by
          rintro rfl
          rcases hnd.1 with hwk | hnk
          · rw [putH_ro (hro hwk) h1] at ho; cases ho
          · exact keysOf_inj hnk hne (sigAt_mem hs0) (sigAt_mem hs0')
        exact hr.sep q b0 q' b0' r r' g hqq hq hq' hr1 hr2 (hO r g ho) (hO' r' g ho')
      · rw [renOf_nil hs0' hlt'] at hr2
        obtain rfl := Option.some.inj hr2
        rw [hO'] at ho'; cases ho'
    · rw [renOf_nil hs0 hlt] at hr1
      obtain rfl := Option.some.inj hr1
      rw [hO] at ho; cases ho
  · simp only [renOf]
    rw [if_neg (by rw [hl] at hc; omega)]

theorem Into.bb {σ : Sig} {n : Nat} (hr : HR w B ρ h) : Into weak w B (BB weak w B) ρ σ n h :=
  ⟨(BB_le hr.base).1, (BB_le hr.base).2, fun e g hg => by subst e; exact hg, fun e c q b0 r g _ _ hq hρ ho => by subst e; exact (hr.own_lt hq hρ ho).1⟩
theorem getS_HR {ps : List Pat} {hs : List HPat} {tmps : List AV} {x : PT ps × HT hs} (hro : weak = true → hs.all HPat.ro = true) (hb : (hs.all (HPat.below hs.length)) = true) (hp : (ps.all (Pat.below hs.length)) = true)
    {n0 : Nat} (hg : getS weak n0 ps hs tmps h = some x) (hr : HR w B ρ h) :
    HR w (BB weak w B) (renOf ρ (sigS n0 ps hs tmps h) hs.length) (putH hs x.2) ∧ (∀ us, All2 (VR ρ) tmps us → All2 (VR (renOf ρ (sigS n0 ps hs tmps h) hs.length)) (putP ps x.1) us) :=
  getS_HRC hro hb hp (Into.bb hr) hg hr

/-- What blocks a reading has met. -/
theorem getH_met {σ : Sig} : ∀ {hs : List HPat} {c : Nat} {x : HT hs}, getH false σ h c hs = some x → ∀ (i : Nat) (p : HPat), hs[i]? = some p →
    (∀ ps, p = .cells ps → ∃ q cs, sigAt σ (c + i) = some (.key q) ∧ h[q]? = some (.cells cs)) ∧ (∀ e sh, p = .ext e sh → ∀ q, sigAt σ (c + i) = some (.key q) → ∃ e' sh' xs, h[q]? = some (.ext e' sh' xs)) ∧ (∀ ps, p = .rcells ps → ∀ q, sigAt σ (c + i) = some (.key q) → ∃ cs, h[q]? = some (.rcells cs)) ∧ (∀ e e2 sh sh2, p = .mixe e e2 sh sh2 → ∀ q, sigAt σ (c + i) = some (.key q) → ∃ e' e2' sh' sh2' xs, h[q]? = some (.mixe e' e2' sh' sh2' xs))
  | [], c, x, _, i, p, hi => by simp at hi
  | p0 :: ps, c, x, hg, i, p, hi => by
    simp only [getH] at hg
    have hrest : ∃ y, getH false σ h (c + 1) ps = some y := by
      cases p0 <;> simp only [getH1] at hg
      · exact ⟨_, hg⟩
      · split at hg <;> first | cases hg; done | skip
        split at hg <;> first | cases hg; done | skip
        simp only [Option.bind_eq_some_iff, Option.map_eq_some_iff] at hg
        obtain ⟨_, _, z, hz, _⟩ := hg
        exact ⟨z, hz⟩
      · split at hg <;> first | cases hg; done | skip
        split at hg <;> first | cases hg; done | skip
        simp only [Option.bind_eq_some_iff, Option.map_eq_some_iff] at hg
        obtain ⟨_, _, z, hz, _⟩ := hg
        exact ⟨z, hz⟩
      · split at hg
        · split at hg <;> first | cases hg; done | skip
          split at hg <;> first | cases hg; done | skip
          simp only [Option.map_eq_some_iff] at hg
          obtain ⟨z, hz, _⟩ := hg
          exact ⟨z, hz⟩
        · split at hg <;> first | cases hg; done | skip
          simp only [Option.map_eq_some_iff] at hg
          obtain ⟨z, hz, _⟩ := hg
          exact ⟨z, hz⟩
        · cases hg
      · split at hg
        · split at hg
          · split at hg <;> first | cases hg; done | skip
            simp only [Option.map_eq_some_iff] at hg
            obtain ⟨z, hz, _⟩ := hg
            exact ⟨z, hz⟩
          · split at hg <;> first | cases hg; done | skip
            simp only [Option.map_eq_some_iff] at hg
            obtain ⟨z, hz, _⟩ := hg
            exact ⟨z, hz⟩
          · cases hg
        · split at hg <;> first | cases hg; done | skip
          simp only [Option.map_eq_some_iff] at hg
          obtain ⟨z, hz, _⟩ := hg
          exact ⟨z, hz⟩
        · cases hg
      · split at hg
        · split at hg <;> first | cases hg; done | skip
          split at hg <;> first | cases hg; done | skip
          simp only [Option.map_eq_some_iff] at hg
          obtain ⟨z, hz, _⟩ := hg
          exact ⟨z, hz⟩
        · split at hg <;> first | cases hg; done | skip
          simp only [Option.map_eq_some_iff] at hg
          obtain ⟨z, hz, _⟩ := hg
          exact ⟨z, hz⟩
        · cases hg
      · split at hg
        · split at hg <;> first | cases hg; done | skip
          split at hg <;> first | cases hg; done | skip
          simp only [Option.map_eq_some_iff] at hg
          obtain ⟨z, hz, _⟩ := hg
          exact ⟨z, hz⟩
        · split at hg <;> first | cases hg; done | skip
          simp only [Option.map_eq_some_iff] at hg
          obtain ⟨z, hz, _⟩ := hg
          exact ⟨z, hz⟩
        · cases hg
      · split at hg
        · split at hg
          · split at hg <;> first | cases hg; done | skip
            simp only [Option.map_eq_some_iff] at hg
            obtain ⟨z, hz, _⟩ := hg
            exact ⟨z, hz⟩
          · split at hg <;> first | cases hg; done | skip
            simp only [Option.map_eq_some_iff] at hg
            obtain ⟨z, hz, _⟩ := hg
            exact ⟨z, hz⟩
          · cases hg
        · split at hg <;> first | cases hg; done | skip
          simp only [Option.map_eq_some_iff] at hg
          obtain ⟨z, hz, _⟩ := hg
          exact ⟨z, hz⟩
        · cases hg
    cases i with
    | succ i =>
      obtain ⟨y, hy⟩ := hrest
      have := getH_met hy i p (by simpa using hi)
      rwa [show c + 1 + i = c + (i + 1) by omega] at this
    | zero =>
      simp only [List.getElem?_cons_zero, Option.some.injEq] at hi
      subst hi
      refine ⟨fun ps' e => ?_, fun e' sh' e q hq => ?_, fun ps' e q hq => ?_, fun e' e2' sh' sh2' e q hq => ?_⟩
      rotate_left 3
      · subst e
        simp only [getH1] at hg
        rw [Nat.add_zero] at hq
        rw [hq] at hg
        dsimp only at hg
        split at hg
        · rename_i e3 e4 sh3 sh4 xs2 hh
          exact ⟨_, _, _, _, _, hh⟩
        · simp at hg
        · cases hg
      rotate_left 2
      · subst e
        simp only [getH1] at hg
        rw [Nat.add_zero] at hq
        rw [hq] at hg
        dsimp only at hg
        split at hg
        · rename_i cs hh; exact ⟨_, hh⟩
        · simp at hg
        · cases hg
      · subst e
        simp only [getH1] at hg
        split at hg <;> first | cases hg; done | skip
        rename_i q hs
        split at hg <;> first | cases hg; done | skip
        rename_i cs hq
        exact ⟨q, cs, hs, hq⟩
      · subst e
        simp only [getH1] at hg
        rw [Nat.add_zero] at hq
        rw [hq] at hg
        dsimp only at hg
        split at hg
        · rename_i e2 sh2 xs2 hh
          exact ⟨_, _, _, hh⟩
        · simp at hg
        · cases hg

theorem HX.fzHS {B : KS} {w : World} {ρ : Ren} {σ : Sig} : ∀ (hs : List HPat) (c : Nat) {h : List AB}, HX w B ρ h → HX w B ρ (fzHS σ c hs h)
  | [], _, h, q => q
  | .gone :: t, c, h, q => HX.fzHS t (c + 1) q
  | .cells _ :: t, c, h, q => HX.fzHS t (c + 1) q
  | .rcells _ :: t, c, h, q => HX.fzHS t (c + 1) q
  | .rows .. :: t, c, h, q => HX.fzHS t (c + 1) q
  | .nest .. :: t, c, h, q => HX.fzHS t (c + 1) q
  | .mix .. :: t, c, h, q => HX.fzHS t (c + 1) q
  | .mixe .. :: t, c, h, q => by
    simp only [Go.Ev.fzHS]
    refine HX.fzHS t (c + 1) ?_
    split
    · rename_i k hk
      split
      · rename_i e e2 sh sh2 xs hb
        obtain ⟨K, hs, hq⟩ := q
        rcases hq.blk k _ hb with e0 | ⟨r, hr, hB⟩
        · cases e0
        cases r with
        | blk b => exact hB.elim
        | sv v =>
          obtain ⟨K', hs', hq'⟩ := hq.freezeM hb hr
          exact ⟨K', hs.trans hs', hq'⟩
      · exact q
    · exact q
  | .ext .. :: t, c, h, q => by
    simp only [Go.Ev.fzHS]
    refine HX.fzHS t (c + 1) ?_
    split
    · rename_i k hk
      split
      · rename_i e sh xs hb
        obtain ⟨K, hs, hq⟩ := q
        rcases hq.blk k _ hb with e0 | ⟨r, hr, hB⟩
        · cases e0
        cases r with
        | blk b => exact hB.elim
        | sv v =>
          obtain ⟨K', hs', hq'⟩ := hq.freeze hb hr
          exact ⟨K', hs.trans hs', hq'⟩
      · exact q
    · exact q
/-- A state that was read. -/
theorem getS_Rel {W : World} {ps : List Pat} {hs : List HPat} {st : St} {a : Act} {x : PT ps × HT hs} (hb : (hs.all (HPat.below hs.length)) = true) (hp : (ps.all (Pat.below hs.length)) = true)
    {n0 : Nat} (hg : getS false n0 ps hs st.tmps st.h = some x) (hr : Rel B W ρ st a w) : Rel B W (renOf ρ (sigS n0 ps hs st.tmps st.h) hs.length) ⟨putP ps x.1, putH hs x.2⟩ a w := by
  obtain ⟨K, hs0, hq0⟩ := hr.heap
  obtain ⟨h1, h2⟩ := getS_HR (weak := false) (fun e => by cases e) hb hp hg hq0
  have ha : All2 (VR ρ) st.tmps a.tmps.toList := by
    have key : ∀ (l : List AV) (m : List Value), m.length = l.length → (∀ i x, l[i]? = some x → VR ρ x (m.getD i undef)) → All2 (VR ρ) l m := by
      intro l
      induction l with
      | nil => intro m hm _; cases m with
        | nil => exact .nil
        | cons _ _ => simp at hm
      | cons x l ih => intro m hm hh; cases m with
        | nil => simp at hm
        | cons y m =>
          refine .cons (by simpa using hh 0 x rfl) (ih m (by simpa using hm) fun i z hz => ?_)
          simpa using hh (i + 1) z (by simpa using hz)
    refine key _ _ (by simpa using hr.len) fun i x hx => ?_
    have := hr.tmps i x hx
    simpa using this
  have h3 := h2 _ ha
  refine ⟨by have := h3.length; simp at this; exact this.symm, fun i v hv => ?_, ⟨K, hs0, h1⟩, hr.below, hr.defers⟩
  obtain ⟨u, hu, hvu⟩ := h3.get hv
  have : a.tmps.getD i undef = u := by
    rw [Array.getD_eq_getD_getElem?]
    have : a.tmps[i]? = some u := by simpa using hu
    rw [this]; rfl
  rw [this]; exact hvu
theorem getF_Rel {W : World} {ps : List Pat} {hs : List HPat} {st : St} {a : Act} {x : PT ps × HT hs} (hb : (hs.all (HPat.below hs.length)) = true) (hp : (ps.all (Pat.below hs.length)) = true)
    {n0 : Nat} (hg : getF n0 ps hs st.tmps st.h = some x) (hr : Rel B W ρ st a w) : ∃ σ : Sig, (∀ c, c < n0 → sigAt σ c = some (.key c)) ∧ Rel B W (renOf ρ σ hs.length) ⟨putP ps x.1, putH hs x.2⟩ a w :=
  ⟨_, fun _ hc => sigS_pre hc, getS_Rel (st := ⟨st.tmps, fzHS (sigS n0 ps hs st.tmps st.h) 0 hs st.h⟩) hb hp hg ⟨hr.len, hr.tmps, HX.fzHS hs 0 hr.heap, hr.below, hr.defers⟩⟩
end
end Go.Ev
