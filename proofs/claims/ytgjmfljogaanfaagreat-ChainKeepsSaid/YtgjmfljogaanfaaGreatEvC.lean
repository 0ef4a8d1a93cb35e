/- What keeps the relation of heaps: new blocks, stores into own blocks, calls that leave all below alone. -/
import Derived.Test.YtgjmfljogaanfaaGreatEvB
namespace Go.Ev
open Go.RowKit

/-- All blocks of w but 'row' are in w' as they were. -/
def Same (w w' : World) (row : Option Nat) : Prop := ∀ k, k < w.heap.size → some k ≠ row → w'.heap[k]? = w.heap[k]?

theorem lt_of_heap {w : World} {k : Nat} {o : Obj} (h : w.heap[k]? = some o) : k < w.heap.size := (Array.getElem?_eq_some_iff.1 h).1
theorem add_block (a : Addr) (n : Nat) : (a.add n).block = a.block := by unfold Addr.add; split <;> rfl

theorem HB.mono {w : World} {B : KS} {ρ ρ' : Ren} (h : ρ.le ρ') {b : AB} {r : RV} (q : HB w B ρ b r) : HB w B ρ' b r := by
  cases b <;> cases r <;> first | exact q | skip
  all_goals
    obtain ⟨h1, c, T, h2, h3⟩ := q
    exact ⟨h1, c, T, h2, h3.mono fun _ _ => LR.mono h⟩

theorem Owns.same {w w' : World} {B : KS} {row : Option Nat} (hs : Same w w' row) {e : TypeId} {s n : Nat} {v : Value} {xs : List Value} (hown : ∀ g, row = some g → rowBlk v ≠ some g) (q : Owns w B e s v n xs) : Owns w' B e s v n xs := by
  obtain ⟨h3, h4⟩ := q
  rcases h3 with ⟨h1, h2⟩ | ⟨h1, h2, a, rfl⟩
  · rcases h2 with h2 | ⟨g, o, cap, cur, hv, hg, hnc, rest⟩
    · exact ⟨.inl ⟨h1, .inl h2⟩, h4⟩
    · by_cases hc : cap = 0
      · subst hc
        obtain rfl : n = 0 := by omega
        exact ⟨.inr ⟨rfl, List.eq_nil_of_length_eq_zero (by rw [h1]; simp), _, hv⟩, h4⟩
      refine ⟨.inl ⟨h1, .inr ⟨g, o, cap, cur, hv, ?_, hnc, rest⟩⟩, h4⟩
      rw [hs g (lt_of_heap hg) (fun e => hown g e.symm (by simp [hv, rowBlk, hc]))]
      exact hg
  · exact ⟨.inr ⟨h1, h2, a, rfl⟩, h4⟩
theorem ExtR.same {w w' : World} {B : KS} {row : Option Nat} (hs : Same w w' row) (hrow : ∀ g, row = some g → ¬ B.all g) (hB : Le B (Old w)) {sh : List SK} {xs : List (Row sh)} {v : Value} (q : ExtR w B sh xs v) : ExtR w' B sh xs v := by
  obtain ⟨a, c, hv, hc, hcell⟩ := q
  refine ⟨a, c, hv, hc, fun j u hu => ?_⟩
  obtain ⟨ad, ha, hcc, hlt⟩ := hcell j u hu
  refine ⟨ad, ha, ?_, hlt⟩
  rw [World.cell?_of_block (w := w) (w' := w')]
  · exact hcc
  · rw [add_block]
    exact hs _ (Old.all_iff.1 (hB _ (.inl hlt))) (fun e => hrow _ e.symm (.inl hlt))
theorem ExtR.mono {w : World} {B B' : KS} (hB : ∀ b, B.k b → B'.k b) {sh : List SK} {xs : List (Row sh)} {v : Value} (q : ExtR w B sh xs v) : ExtR w B' sh xs v := by
  obtain ⟨a, c, h1, h2, h3⟩ := q
  exact ⟨a, c, h1, h2, fun j u hu => by obtain ⟨ad, e1, e2, e3⟩ := h3 j u hu; exact ⟨ad, e1, e2, hB _ e3⟩⟩

theorem MixR.same {w w' : World} {B : KS} {row : Option Nat} (hs : Same w w' row) (hrow : ∀ g, row = some g → ¬ B.all g) (hB : Le B (Old w)) {sh sh2 : List SK} {x : Row sh × List (Row sh2)} {cs : List Value} (q : MixR w B sh sh2 x cs) : MixR w' B sh sh2 x cs := by
  obtain ⟨u, h1, h2⟩ := q
  exact ⟨u, h1, h2.same hs hrow hB⟩
theorem MixR.mono {w : World} {B B' : KS} (hB : ∀ b, B.k b → B'.k b) {sh sh2 : List SK} {x : Row sh × List (Row sh2)} {cs : List Value} (q : MixR w B sh sh2 x cs) : MixR w B' sh sh2 x cs := by
  obtain ⟨u, h1, h2⟩ := q
  exact ⟨u, h1, h2.mono hB⟩
theorem KeptR.same {w w' : World} {B : KS} {row : Option Nat} (hs : Same w w' row) (hrow : ∀ g, row = some g → ¬ B.all g) (hB : Le B (Old w)) {v : Value} {n : Nat} {cs : List Value} (q : KeptR w B v n cs) : KeptR w' B v n cs := by
  obtain ⟨a, c, hv, hc, hcell⟩ := q
  refine ⟨a, c, hv, hc, fun j u hu => ?_⟩
  obtain ⟨ad, ha, hcc, hlt⟩ := hcell j u hu
  refine ⟨ad, ha, ?_, hlt⟩
  rw [World.cell?_of_block (w := w) (w' := w')]
  · exact hcc
  · rw [add_block]
    exact hs _ (Old.all_iff.1 (hB _ (.inl hlt))) (fun e => hrow _ e.symm (.inl hlt))
theorem KeptR.mono {w : World} {B B' : KS} (hB : ∀ b, B.k b → B'.k b) {v : Value} {n : Nat} {cs : List Value} (q : KeptR w B v n cs) : KeptR w B' v n cs := by
  obtain ⟨a, c, h1, h2, h3⟩ := q
  exact ⟨a, c, h1, h2, fun j u hu => by obtain ⟨ad, e1, e2, e3⟩ := h3 j u hu; exact ⟨ad, e1, e2, hB _ e3⟩⟩
/-- The cells of an own row, once it is written no more. -/
theorem Owns.kept {w : World} {B B' : KS} {e : TypeId} {s n : Nat} {v : Value} {xs : List Value} (hB : ∀ g, rowBlk v = some g → B'.k g) (q : Owns w B e s v n xs) : KeptR w B' v n xs := by
  obtain ⟨h3, _⟩ := q
  rcases h3 with ⟨h1, h2⟩ | ⟨rfl, rfl, a, rfl⟩
  case inr => exact ⟨some a, 0, rfl, Nat.le_refl _, fun j u hu => by simp at hu⟩
  rcases h2 with ⟨rfl, rfl⟩ | ⟨g, o, cap, cur, rfl, hg, hnc, hcm, hcs, htake⟩
  · refine ⟨Option.none, 0, rfl, Nat.le_refl _, fun j u hu => ?_⟩
    have : xs = [] := List.eq_nil_of_length_eq_zero (by rw [h1]; simp)
    rw [this] at hu; simp at hu
  · refine ⟨_, cap, rfl, hnc, fun j u hu => ⟨_, rfl, ?_, ?_⟩⟩
    rotate_left
    · have hc : cap ≠ 0 := by
        intro hc
        subst hc
        obtain rfl : n = 0 := by omega
        have : xs = [] := List.eq_nil_of_length_eq_zero (by rw [h1]; simp)
        rw [this] at hu; simp at hu
      exact hB g (by simp [rowBlk, hc])
    · rw [Addr.add_lit, cell_of_row w g _ cur e (0, 0) hg]
      rw [← htake, List.getElem?_take, List.getElem?_drop] at hu
      split at hu
      · simpa using hu
      · cases hu
theorem HB.mix_mixe {w : World} {B B' : KS} {ρ ρ' : Ren} {e e2 : TypeId} {sh sh2 : List SK} {xs : List (Row sh × List (Row sh2))} {v : Value} (hk : ∀ b, B.k b → B'.k b) (hB : ∀ g, rowBlk v = some g → B'.k g) (q : HB w B ρ (.mix e e2 sh sh2 xs) (.sv v)) : HB w B' ρ' (.mixe e e2 sh sh2 xs) (.sv v) := by
  obtain ⟨h0, us, h1, h2⟩ := q
  exact ⟨h0, us, h1.mono fun _ _ hx => hx.mono hk, h2.kept hB⟩
theorem HB.mixe_mixe {w : World} {B B' : KS} {ρ ρ' : Ren} {e e2 : TypeId} {sh sh2 : List SK} {xs : List (Row sh × List (Row sh2))} {r : RV} (hk : ∀ b, B.k b → B'.k b) (q : HB w B ρ (.mixe e e2 sh sh2 xs) r) : HB w B' ρ' (.mixe e e2 sh sh2 xs) r := by
  cases r with
  | blk b => exact q.elim
  | sv v =>
    obtain ⟨h0, us, h1, h2⟩ := q
    exact ⟨h0, us, h1.mono fun _ _ hx => hx.mono hk, h2.mono hk⟩

theorem HB.same {w w' : World} {B : KS} {ρ : Ren} {row : Option Nat} (hs : Same w w' row) (hrow : ∀ g, row = some g → ¬ B.all g) (hB : Le B (Old w))
    {b : AB} {r : RV} (hown : ∀ g, row = some g → ownB b r ≠ some g) (q : HB w B ρ b r) : HB w' B ρ b r := by
  cases b <;> cases r <;> first | exact q | skip
  case cells.blk cs bb =>
    obtain ⟨h1, c, T, h2, h3⟩ := q
    refine ⟨h1, c, T, ?_, h3⟩
    rw [hs bb (lt_of_heap h2) (fun e => hown bb e.symm rfl)]
    exact h2
  case rcells.blk cs bb =>
    obtain ⟨h1, c, T, h2, h3⟩ := q
    refine ⟨h1, c, T, ?_, h3⟩
    rw [hs bb (lt_of_heap h2) (fun e => hrow bb e.symm (.inl h1))]
    exact h2
  case rows.sv e sh xs v =>
    obtain ⟨h0, h3, h4⟩ := q
    rcases h3 with ⟨h1, h2⟩ | ⟨h1, h2, a, rfl⟩
    · rcases h2 with h2 | ⟨g, o, cap, cur, hv, hg, hnc, rest⟩
      · exact ⟨h0, .inl ⟨h1, .inl h2⟩, h4⟩
      · by_cases hc : cap = 0
        · subst hc
          obtain rfl : xs = [] := List.eq_nil_of_length_eq_zero (by omega)
          exact ⟨h0, .inr ⟨rfl, rfl, _, hv⟩, h4⟩
        refine ⟨h0, .inl ⟨h1, .inr ⟨g, o, cap, cur, hv, ?_, hnc, rest⟩⟩, h4⟩
        rw [hs g (lt_of_heap hg) (fun e => hown g e.symm (by simp [ownB, hv, rowBlk, hc]))]
        exact hg
    · exact ⟨h0, .inr ⟨h1, h2, a, rfl⟩, h4⟩
  case ext.sv e sh xs v =>
    obtain ⟨h0, a, c, hv, hc, hcell⟩ := q
    refine ⟨h0, a, c, hv, hc, fun j u hu => ?_⟩
    obtain ⟨ad, ha, hcc, hlt⟩ := hcell j u hu
    refine ⟨ad, ha, ?_, hlt⟩
    rw [World.cell?_of_block (w := w) (w' := w')]
    · exact hcc
    · rw [add_block]
      exact hs _ (Old.all_iff.1 (hB _ (.inl hlt))) (fun e => hrow _ e.symm (.inl hlt))
  case nest.sv e e2 sh xss v =>
    obtain ⟨h0, us, h1, h2⟩ := q
    exact ⟨h0, us, h1.mono fun _ _ hx => hx.same hs hrow hB, h2.same hs hown⟩
  case mix.sv e e2 sh sh2 xs v =>
    obtain ⟨h0, us, h1, h2⟩ := q
    exact ⟨h0, us, h1.mono fun _ _ hx => hx.same hs hrow hB, h2.same hs hown⟩
  case mixe.sv e e2 sh sh2 xs v =>
    obtain ⟨h0, us, h1, h2⟩ := q
    exact ⟨h0, us, h1.mono fun _ _ hx => hx.same hs hrow hB, h2.same hs hrow hB⟩

theorem HB.own_lt {w : World} {B : KS} {ρ : Ren} {b : AB} {r : RV} (q : HB w B ρ b r) {g : Nat} (h : ownB b r = some g) : ¬ B.all g ∧ g < w.heap.size := by
  cases b <;> cases r <;> simp only [ownB, reduceCtorEq, Option.some.injEq] at h
  case cells.blk cs bb => subst h; obtain ⟨h1, c, T, h2, _⟩ := q; exact ⟨h1, lt_of_heap h2⟩
  case rows.sv e sh xs v => exact q.2.lt g h
  case nest.sv e e2 sh xss v => obtain ⟨_, us, _, h2⟩ := q; exact h2.lt g h
  case mix.sv e e2 sh sh2 xs v => obtain ⟨_, us, _, h2⟩ := q; exact h2.lt g h

theorem HR.own_lt {w : World} {B : KS} {ρ : Ren} {h : List AB} (q : HR w B ρ h) {k : Nat} {b : AB} {r : RV} (hk : h[k]? = some b) (hr : ρ k = some r) {g : Nat} (ho : ownB b r = some g) : ¬ B.all g ∧ g < w.heap.size := by
  rcases q.blk k b hk with rfl | ⟨r', hr', hb⟩
  · simp [ownB] at ho
  · rw [hr] at hr'; obtain rfl := Option.some.inj hr'; exact hb.own_lt ho

/-- The heap's relation in another world, in which all that was there is as it was. -/
theorem HR.world {w w' : World} {B : KS} {ρ : Ren} {h : List AB} (q : HR w B ρ h) (hs : Same w w' none) (hz : w.heap.size ≤ w'.heap.size) : HR w' B ρ h :=
  ⟨fun k b hk => (q.blk k b hk).imp id fun ⟨r, hr, hb⟩ => ⟨r, hr, hb.same hs (fun _ e => by cases e) q.base (fun _ e => by cases e)⟩, q.sep, q.fresh, fun k hk => Old.all_iff.2 (Nat.lt_of_lt_of_le (Old.all_iff.1 (q.base k hk)) hz)⟩

theorem Same.of_below {w w' : World} (h : Below w.heap.size w w') : Same w w' none := fun k hk _ => h.block k hk

/-- What of a heap is hidden. -/
structure Mask (hm h : List AB) : Prop where
  len : hm.length = h.length
  get : ∀ (k : Nat) (b : AB), hm[k]? = some b → b = AB.gone ∨ h[k]? = some b
theorem Mask.refl (h : List AB) : Mask h h := ⟨rfl, fun _ _ e => .inr e⟩
theorem HR.mask {w : World} {B : KS} {ρ : Ren} {hm h : List AB} (q : HR w B ρ h) (m : Mask hm h) : HR w B ρ hm := by
  refine ⟨fun k b hk => ?_, fun k b k' b' r r' g hne h1 h2 hr hr' ho ho' => ?_, fun k hk => q.fresh k (by rw [← m.len]; exact hk), q.base⟩
  · rcases m.get k b hk with e | e
    · exact .inl e
    · exact q.blk k b e
  · rcases m.get k b h1 with e | e
    · subst e; simp [ownB] at ho
    rcases m.get k' b' h2 with e' | e'
    · subst e'; simp [ownB] at ho'
    exact q.sep k b k' b' r r' g hne e e' hr hr' ho ho'

/-- Block b at a place where nothing was. -/
structure Placed (h h' : List AB) (key : Nat) (b : AB) : Prop where
  here : h'[key]? = some b
  other : ∀ (k : Nat), k ≠ key → h'[k]? = h[k]?
  len : h.length ≤ h'.length
theorem Placed.push (h : List AB) (b : AB) : Placed h (h ++ [b]) h.length b :=
  ⟨by simp, fun k hk => by rw [List.getElem?_append]; split; rfl; rename_i hl; rw [List.getElem?_eq_none (by omega : h.length ≤ k)]; exact List.getElem?_eq_none (by simp; omega), by simp⟩
theorem Placed.set (h : List AB) (key : Nat) (b : AB) (hk : key < h.length) : Placed h (h.set key b) key b :=
  ⟨by simp [hk], fun k hne => by rw [List.getElem?_set_ne (Ne.symm hne)], by simp⟩

theorem HR.new {w : World} {B : KS} {ρ : Ren} {h h' : List AB} {key : Nat} {b : AB} {r : RV} (q : HR w B ρ h) (hk : ρ key = none) (hp : Placed h h' key b)
    (hb : HB w B (ρ.set key r) b r)
    (hown : ∀ g, ownB b r = some g → ∀ k b' r', k ≠ key → h[k]? = some b' → ρ k = some r' → ownB b' r' ≠ some g) : HR w B (ρ.set key r) h' := by
  have hle := Ren.le_set ρ key r hk
  refine ⟨fun k b' hk' => ?_, fun k b1 k' b2 r1 r2 g hne h1 h2 hr1 hr2 ho1 ho2 => ?_, fun k hk' => ?_, q.base⟩
  · by_cases e : k = key
    · subst e; rw [hp.here] at hk'; obtain rfl := Option.some.inj hk'; exact .inr ⟨r, Ren.set_same _ _ _, hb⟩
    · rw [hp.other k e] at hk'
      exact (q.blk k b' hk').imp id fun ⟨r', hr', hb'⟩ => ⟨r', hle _ _ hr', hb'.mono hle⟩
  · by_cases e1 : k = key
    · subst e1
      rw [hp.here] at h1; obtain rfl := Option.some.inj h1
      rw [Ren.set_same] at hr1; obtain rfl := Option.some.inj hr1
      have e2 : k' ≠ k := Ne.symm hne
      rw [hp.other k' e2] at h2
      rw [Ren.set_other _ _ _ _ e2] at hr2
      exact hown g ho1 k' b2 r2 e2 h2 hr2 ho2
    · rw [hp.other k e1] at h1
      rw [Ren.set_other _ _ _ _ e1] at hr1
      by_cases e2 : k' = key
      · subst e2
        rw [hp.here] at h2; obtain rfl := Option.some.inj h2
        rw [Ren.set_same] at hr2; obtain rfl := Option.some.inj hr2
        exact hown g ho2 k b1 r1 e1 h1 hr1 ho1
      · rw [hp.other k' e2] at h2
        rw [Ren.set_other _ _ _ _ e2] at hr2
        exact q.sep k b1 k' b2 r1 r2 g hne h1 h2 hr1 hr2 ho1 ho2
  · have hne : k ≠ key := by
      intro e; subst e
      have := hp.here
      rw [List.getElem?_eq_none hk'] at this; cases this
    rw [Ren.set_other _ _ _ _ hne]
    exact q.fresh k (Nat.le_trans hp.len hk')

/-- An own block is written. -/
theorem HR.upd {w w' : World} {B : KS} {ρ : Ren} {h : List AB} {k g : Nat} {b b' : AB} {r : RV} (q : HR w B ρ h) (hk : h[k]? = some b) (hr : ρ k = some r)
    (ho : ownB b r = some g) (ho' : ownB b' r = some g) (hs : Same w w' (some g)) (hz : w.heap.size ≤ w'.heap.size) (hb : HB w' B ρ b' r) : HR w' B ρ (h.set k b') := by
  have hg := q.own_lt hk hr ho
  refine ⟨fun k' b2 hk' => ?_, fun k1 b1 k2 b2 r1 r2 g' hne h1 h2 hr1 hr2 ho1 ho2 => ?_, fun k' hk' => q.fresh k' (by simpa using hk'), fun k hk => Old.all_iff.2 (Nat.lt_of_lt_of_le (Old.all_iff.1 (q.base k hk)) hz)⟩
  · by_cases e : k' = k
    · subst e
      have hlt : k' < h.length := (List.getElem?_eq_some_iff.1 hk).1
      rw [List.getElem?_set_self hlt] at hk'
      obtain rfl := Option.some.inj hk'
      exact .inr ⟨r, hr, hb⟩
    · rw [List.getElem?_set_ne (Ne.symm e)] at hk'
      refine (q.blk k' b2 hk').imp id fun ⟨r', hr', hb'⟩ => ⟨r', hr', hb'.same hs (fun g' e' => by obtain rfl := Option.some.inj e'; exact hg.1) q.base (fun g' e' ho2 => ?_)⟩
      obtain rfl := Option.some.inj e'
      exact q.sep k b k' b2 r r' g (Ne.symm e) hk hk' hr hr' ho ho2
  · have hlt : k < h.length := (List.getElem?_eq_some_iff.1 hk).1
    by_cases e1 : k1 = k
    · subst e1
      rw [List.getElem?_set_self hlt] at h1; obtain rfl := Option.some.inj h1
      rw [hr] at hr1; obtain rfl := Option.some.inj hr1
      rw [ho'] at ho1; obtain rfl := Option.some.inj ho1
      rw [List.getElem?_set_ne hne] at h2
      exact q.sep k1 b k2 b2 r r2 g hne hk h2 hr hr2 ho ho2
    · rw [List.getElem?_set_ne (Ne.symm e1)] at h1
      by_cases e2 : k2 = k
      · subst e2
        rw [List.getElem?_set_self hlt] at h2; obtain rfl := Option.some.inj h2
        rw [hr] at hr2; obtain rfl := Option.some.inj hr2
        rw [ho'] at ho2; obtain rfl := Option.some.inj ho2
        exact q.sep k1 b1 k2 b r1 r g hne h1 hk hr1 hr ho1 ho
      · rw [List.getElem?_set_ne (Ne.symm e2)] at h2
        exact q.sep k1 b1 k2 b2 r1 r2 g' hne h1 h2 hr1 hr2 ho1 ho2

/-- An own row is written no more: its block is kept from now on. -/
theorem HB.rows_ext {w : World} {B B' : KS} {ρ ρ' : Ren} {e : TypeId} {sh : List SK} {xs : List (Row sh)} {v : Value} (hB : ∀ g, rowBlk v = some g → B'.k g) (q : HB w B ρ (.rows e sh xs) (.sv v)) : HB w B' ρ' (.ext e sh xs) (.sv v) := by
  obtain ⟨h0, h3, _⟩ := q
  rcases h3 with ⟨h1, h2⟩ | ⟨h1, h2, a, rfl⟩
  case inr =>
    obtain rfl : xs = [] := List.eq_nil_of_length_eq_zero h1
    exact ⟨h0, some a, 0, rfl, Nat.le_refl _, fun j u hu => by simp [flat] at hu⟩
  rcases h2 with ⟨rfl, hn⟩ | ⟨g, o, cap, cur, rfl, hg, hnc, hcm, hcs, htake⟩
  · refine ⟨h0, none, 0, by rw [hn], by omega, fun j u hu => ?_⟩
    have : (flat sh xs) = [] := List.eq_nil_of_length_eq_zero (by rw [flat_length, hn]; simp)
    rw [this] at hu; simp at hu
  · refine ⟨h0, _, cap, rfl, hnc, fun j u hu => ⟨_, rfl, ?_, ?_⟩⟩
    rotate_left
    · have hc : cap ≠ 0 := by
        intro hc
        subst hc
        obtain rfl : xs = [] := List.eq_nil_of_length_eq_zero (by omega)
        simp [flat] at hu
      exact hB g (by simp [rowBlk, hc])
    · rw [Addr.add_lit, cell_of_row w g _ cur e (0, 0) hg]
      rw [← htake, List.getElem?_take, List.getElem?_drop] at hu
      split at hu
      · simpa using hu
      · cases hu
theorem HB.ext_ext {w : World} {B B' : KS} {ρ ρ' : Ren} {e : TypeId} {sh : List SK} {xs : List (Row sh)} {r : RV} (hB : ∀ b, B.k b → B'.k b) (q : HB w B ρ (.ext e sh xs) r) : HB w B' ρ' (.ext e sh xs) r := by
  cases r with
  | blk b => exact q.elim
  | sv v =>
    obtain ⟨h0, a, c, h1, h2, h3⟩ := q
    exact ⟨h0, a, c, h1, h2, fun j u hu => by obtain ⟨ad, e1, e2, e3⟩ := h3 j u hu; exact ⟨ad, e1, e2, hB _ e3⟩⟩
/-- An own block of a slice value becomes one that is kept. -/
theorem HR.freezeB {w : World} {B : KS} {ρ : Ren} {h : List AB} {k : Nat} {ba bz : AB} {v : Value} (q : HR w B ρ h) (hk : h[k]? = some ba) (hr : ρ k = some (.sv v)) (hg0 : ba ≠ .gone) (hoa : ownB ba (.sv v) = rowBlk v) (hoz : ∀ r, ownB bz r = none)
    (hconv : ∀ B' : KS, (∀ b, B.k b → B'.k b) → (∀ g, rowBlk v = some g → B'.k g) → HB w B ρ ba (.sv v) → HB w B' ρ bz (.sv v)) :
    ∃ K, Sub B K ∧ HR w K ρ (h.set k bz) := by
  have hown : ∀ g, rowBlk v = some g → ¬ B.all g := fun g hg => (q.own_lt hk hr (by rw [hoa]; exact hg)).1
  refine ⟨⟨fun b => B.k b ∨ rowBlk v = some b, B.f, B.ds⟩, ⟨fun b hb => .inl hb, rfl, fun b hb => hb.imp id fun hg hf => hown b hg (.inr hf)⟩, fun k' b hk' => ?_, fun k1 b1 k2 b2 r1 r2 g hne h1 h2 hr1 hr2 ho => ?_, fun k' hk' => q.fresh k' (by simpa using hk'), fun b hb => ?_⟩
  · have hlt : k < h.length := (List.getElem?_eq_some_iff.1 hk).1
    by_cases e1 : k' = k
    · subst e1
      rw [List.getElem?_set_self hlt] at hk'
      obtain rfl := Option.some.inj hk'
      rcases q.blk k' _ hk with e | ⟨r, hr', hB⟩
      · exact absurd e hg0
      · rw [hr] at hr'; obtain rfl := Option.some.inj hr'
        exact .inr ⟨_, hr, hconv _ (fun b hb => .inl hb) (fun g hg => .inr hg) hB⟩
    · rw [List.getElem?_set_ne (Ne.symm e1)] at hk'
      refine (q.blk k' b hk').imp id fun ⟨r, hr', hB⟩ => ⟨r, hr', ?_⟩
      have hsep : ∀ g, ownB b r = some g → rowBlk v ≠ some g := fun g hg hv => q.sep k' b k _ r _ g e1 hk' hk hr' hr hg (by rw [hoa]; exact hv)
      cases b with
      | gone => trivial
      | cells cs =>
        cases r with
        | sv _ => exact hB.elim
        | blk bb =>
          obtain ⟨h1, h2⟩ := hB
          exact ⟨fun hb => hb.elim (fun h => h.elim (fun h => h1 (.inl h)) (hsep bb rfl)) fun h => h1 (.inr h), h2⟩
      | rcells cs =>
        cases r with
        | sv _ => exact hB.elim
        | blk bb => exact ⟨.inl hB.1, hB.2⟩
      | rows e2 sh2 xs2 =>
        cases r with
        | blk _ => exact hB.elim
        | sv v2 =>
          obtain ⟨h0, h1, h2⟩ := hB
          exact ⟨h0, h1, fun g hg hb => hb.elim (fun h => h.elim (fun h => h2 g hg (.inl h)) (hsep g hg)) fun h => h2 g hg (.inr h)⟩
      | ext e2 sh2 xs2 => exact hB.ext_ext fun b hb => .inl hb
      | nest e2 e3 sh2 xs2 =>
        cases r with
        | blk _ => exact hB.elim
        | sv v2 =>
          obtain ⟨h0, us, h3, h1, h2⟩ := hB
          exact ⟨h0, us, h3.mono fun _ _ hx => hx.mono (B' := ⟨fun b => B.k b ∨ rowBlk v = some b, B.f, B.ds⟩) fun b hb => .inl hb, h1, fun g hg hb => hb.elim (fun h => h.elim (fun h => h2 g hg (.inl h)) (hsep g hg)) fun h => h2 g hg (.inr h)⟩
      | mix e2 e3 sh2 sh3 xs2 =>
        cases r with
        | blk _ => exact hB.elim
        | sv v2 =>
          obtain ⟨h0, us, h3, h1, h2⟩ := hB
          exact ⟨h0, us, h3.mono fun _ _ hx => hx.mono (B' := ⟨fun b => B.k b ∨ rowBlk v = some b, B.f, B.ds⟩) fun b hb => .inl hb, h1, fun g hg hb => hb.elim (fun h => h.elim (fun h => h2 g hg (.inl h)) (hsep g hg)) fun h => h2 g hg (.inr h)⟩
      | mixe e2 e3 sh2 sh3 xs2 => exact hB.mixe_mixe fun b hb => .inl hb
  · have hlt : k < h.length := (List.getElem?_eq_some_iff.1 hk).1
    by_cases e1 : k1 = k
    · subst e1
      rw [List.getElem?_set_self hlt] at h1; obtain rfl := Option.some.inj h1
      rw [hoz] at ho; cases ho
    · rw [List.getElem?_set_ne (Ne.symm e1)] at h1
      by_cases e2 : k2 = k
      · subst e2
        rw [List.getElem?_set_self hlt] at h2; obtain rfl := Option.some.inj h2
        intro ho2; rw [hoz] at ho2; cases ho2
      · rw [List.getElem?_set_ne (Ne.symm e2)] at h2
        exact q.sep k1 b1 k2 b2 r1 r2 g hne h1 h2 hr1 hr2 ho
  · rcases hb with (hb | hb) | hb
    · exact q.base b (.inl hb)
    · exact Old.all_iff.2 (q.own_lt hk hr (by rw [hoa]; exact hb)).2
    · exact q.base b (.inr hb)
theorem HR.freeze {w : World} {B : KS} {ρ : Ren} {h : List AB} {k : Nat} {e : TypeId} {sh : List SK} {xs : List (Row sh)} {v : Value} (q : HR w B ρ h) (hk : h[k]? = some (.rows e sh xs)) (hr : ρ k = some (.sv v)) :
    ∃ K, Sub B K ∧ HR w K ρ (h.set k (.ext e sh xs)) :=
  q.freezeB hk hr (by simp) rfl (fun r => by cases r <;> rfl) fun _ _ hg hB => hB.rows_ext hg
theorem HR.freezeM {w : World} {B : KS} {ρ : Ren} {h : List AB} {k : Nat} {e e2 : TypeId} {sh sh2 : List SK} {xs : List (Row sh × List (Row sh2))} {v : Value} (q : HR w B ρ h) (hk : h[k]? = some (.mix e e2 sh sh2 xs)) (hr : ρ k = some (.sv v)) :
    ∃ K, Sub B K ∧ HR w K ρ (h.set k (.mixe e e2 sh sh2 xs)) :=
  q.freezeB hk hr (by simp) rfl (fun r => by cases r <;> rfl) fun _ hk hg hB => hB.mix_mixe hk hg

/-- A block is forgotten. -/
theorem HR.forget {w : World} {B : KS} {ρ : Ren} {h : List AB} (q : HR w B ρ h) (k : Nat) : HR w B ρ (h.set k .gone) :=
  q.mask ⟨by simp, fun k' b' hk' => by
    by_cases e : k = k'
    · subst e
      rw [List.getElem?_set] at hk'
      simp only [if_true] at hk'
      split at hk'
      · exact .inl (Option.some.inj hk').symm
      · cases hk'
    · rw [List.getElem?_set_ne e] at hk'; exact .inr hk'⟩

theorem drew_same (w : World) : Same w w.drew none := fun _ _ _ => rfl
theorem below_drew (B : KS) (w : World) : Kp B w w.drew := ⟨rfl, rfl, rfl, Nat.le_refl _, fun _ _ => rfl⟩
theorem HR.drew {w : World} {B : KS} {ρ : Ren} {h : List AB} (q : HR w B ρ h) : HR w.drew B ρ h := q.world (drew_same w) (Nat.le_refl _)
theorem alloc_same (w : World) (o : Obj) : Same w (w.alloc o) none := fun k hk _ => heap_alloc_old w o k hk
theorem below_alloc (w : World) (o : Obj) : Kp (Old w) w (w.alloc o) := Kp.of_below ((Below.refl _ w).alloc (Nat.le_refl _) o)

/-- The heap behind an operation: what is updated, and what is new. -/
def Res (h h' : List AB) (key : Nat) (nb : Option AB) (u : Option (Nat × AB)) : Prop :=
  match nb with
  | none => h' = updH h u
  | some b => Placed (updH h u) h' key b
def NextV : Next → Value → Prop := fun n v => n = .value v ∨ (n = .skip ∧ v = undef)

/-- What an operation of the machine does, as the abstract one says. -/
def OpOK (E : Env) (o : Oper) (a : Act) (w : World) (B : KS) (ρ : Ren) (h : List AB) (key : Nat) (v : AV) (nb : Option AB) (u : Option (Nat × AB)) : Prop :=
  ∃ n v' w' ρ', (execOp a.eval o).run E.P w = .ok n w' ∧ NextV n v' ∧ ρ.le ρ' ∧ (∀ k, k ≠ key → ρ' k = ρ k) ∧ VR ρ' v v' ∧ Kp B w w' ∧ ∀ h', Res h h' key nb u → HX w' B ρ' h'

theorem OpOK.pure {E : Env} {o : Oper} {a : Act} {w : World} {B : KS} {ρ : Ren} {h : List AB} {key : Nat} {v : AV} {v' : Value} (hr : HR w B ρ h)
    (hrun : (execOp a.eval o).run E.P w = .ok (.value v') w) (hv : VR ρ v v') : OpOK E o a w B ρ h key v none none :=
  ⟨_, v', w, ρ, hrun, .inl rfl, Ren.le_refl ρ, fun _ _ => rfl, hv, Kp.refl _ _, fun h' e => by cases e; exact hr.x⟩

/-- A new variable. -/
theorem OpOK.var {E : Env} {o : Oper} {a : Act} {w : World} {B : KS} {ρ : Ren} {h : List AB} {key : Nat} {cs : List AV} {c : Array Value} {T : TypeId} (hr : HR w B ρ h) (hk : ρ key = none)
    (hrun : (execOp a.eval o).run E.P w = .ok (.value (.pointer (some ⟨w.heap.size, 0, none⟩))) (w.alloc (.cells c T))) (hc : All2 (LR ρ) cs c.toList) :
    OpOK E o a w B ρ h key (.ptr key 0) (some (.cells cs)) none := by
  have hle := Ren.le_set ρ key (.blk w.heap.size) hk
  refine ⟨_, _, _, ρ.set key (.blk w.heap.size), hrun, .inl rfl, hle, fun k hne => Ren.set_other _ _ _ _ hne, ⟨w.heap.size, Ren.set_same _ _ _, rfl⟩, (below_alloc w _).mono hr.base, fun h' hres => ?_⟩
  refine ((hr.world (alloc_same w _) (by simp)).new hk hres ?_ ?_).x
  · exact ⟨fun hb => Nat.lt_irrefl _ (Old.all_iff.1 (hr.base _ hb)), c, T, heap_alloc_new w _, hc.mono fun _ _ => LR.mono hle⟩
  · intro g hg k b' r' _ h1 h2 ho
    simp only [ownB, Option.some.injEq] at hg
    subst hg
    have := (hr.own_lt h1 h2 ho).2
    omega
/-- A new row. -/
theorem OpOK.row {E : Env} {o : Oper} {a : Act} {w : World} {B : KS} {ρ : Ren} {h : List AB} {key : Nat} {e : TypeId} {sh : List SK} {xs : List (Row sh)} {c : Array Value} (hr : HR w B ρ h) (hk : ρ key = none)
    (hsh : 0 < sh.length) (hc : c.toList = flat sh xs) (hm : xs.length ≤ maxLen)
    (hrun : (execOp a.eval o).run E.P w = .ok (.value (.slice (some ⟨w.heap.size, 0, none⟩) xs.length xs.length)) (w.alloc (.cells c e))) :
    OpOK E o a w B ρ h key (.sl key) (some (.rows e sh xs)) none := by
  have hle := Ren.le_set ρ key (.sv (.slice (some ⟨w.heap.size, 0, none⟩) xs.length xs.length)) hk
  refine ⟨_, _, _, ρ.set key (.sv (.slice (some ⟨w.heap.size, 0, none⟩) xs.length xs.length)), hrun, .inl rfl, hle, fun k hne => Ren.set_other _ _ _ _ hne, ⟨Ren.set_same _ _ _, _, _, _, rfl⟩, (below_alloc w _).mono hr.base, fun h' hres => ?_⟩
  have hlen : c.size = xs.length * sh.length := by rw [← Array.length_toList, hc, flat_length]
  refine ((hr.world (alloc_same w _) (by simp)).new hk hres ?_ ?_).x
  · refine ⟨hsh, .inl ⟨flat_length sh xs, .inr ⟨w.heap.size, 0, xs.length, c, rfl, heap_alloc_new w _, Nat.le_refl _, hm, by rw [hlen, Nat.zero_add], ?_⟩⟩, fun g hg hb => by
      replace hg := rowBlk_own hg
      simp only [Value.ownBlock, Option.some.injEq] at hg; subst hg; exact Nat.lt_irrefl _ (Old.all_iff.1 (hr.base _ hb))⟩
    rw [hc, List.drop_zero, ← flat_length]; exact List.take_length
  · intro g hg k b' r' _ h1 h2 ho
    replace hg : rowBlk (.slice (some ⟨w.heap.size, 0, none⟩) xs.length xs.length) = some g := hg
    replace hg := rowBlk_own hg
    simp only [Value.ownBlock, Option.some.injEq] at hg
    subst hg
    have := (hr.own_lt h1 h2 ho).2
    omega
/-- A slice value that is read from where it lies. -/
theorem OpOK.ext {E : Env} {o : Oper} {a : Act} {w : World} {B : KS} {ρ : Ren} {h : List AB} {key : Nat} {b : AB} {v' : Value} (hr : HR w B ρ h) (hk : ρ key = none)
    (hrun : (execOp a.eval o).run E.P w = .ok (.value v') w) (hsl : ∃ aa n c, v' = .slice aa n c) (hb : ∀ ρ', HB w B ρ' b (.sv v')) (hob : ownB b (.sv v') = none) :
    OpOK E o a w B ρ h key (.sl key) (some b) none := by
  have hle := Ren.le_set ρ key (.sv v') hk
  refine ⟨_, v', w, ρ.set key (.sv v'), hrun, .inl rfl, hle, fun k hne => Ren.set_other _ _ _ _ hne, ⟨Ren.set_same _ _ _, hsl⟩, Kp.refl _ _, fun h' hres => ?_⟩
  refine (hr.new hk hres (hb _) ?_).x
  intro g hg
  rw [hob] at hg; cases hg
/-- A new row of rows. -/
theorem OpOK.nest {E : Env} {o : Oper} {a : Act} {w : World} {B : KS} {ρ : Ren} {h : List AB} {key : Nat} {e e2 : TypeId} {sh : List SK} {xss : List (List (Row sh))} {c : Array Value} (hr : HR w B ρ h) (hk : ρ key = none)
    (hsh : 0 < sh.length) (hc : All2 (ExtR w B sh) xss c.toList) (hm : xss.length ≤ maxLen)
    (hrun : (execOp a.eval o).run E.P w = .ok (.value (.slice (some ⟨w.heap.size, 0, none⟩) xss.length xss.length)) (w.alloc (.cells c e))) :
    OpOK E o a w B ρ h key (.sl key) (some (.nest e e2 sh xss)) none := by
  have hle := Ren.le_set ρ key (.sv (.slice (some ⟨w.heap.size, 0, none⟩) xss.length xss.length)) hk
  refine ⟨_, _, _, ρ.set key (.sv (.slice (some ⟨w.heap.size, 0, none⟩) xss.length xss.length)), hrun, .inl rfl, hle, fun k hne => Ren.set_other _ _ _ _ hne, ⟨Ren.set_same _ _ _, _, _, _, rfl⟩, (below_alloc w _).mono hr.base, fun h' hres => ?_⟩
  have hlen : c.toList.length = xss.length := hc.length.symm
  refine ((hr.world (alloc_same w _) (by simp)).new hk hres ?_ ?_).x
  · refine ⟨hsh, c.toList, hc.mono fun _ _ hx => hx.same (alloc_same w _) (fun g e => by cases e) hr.base, .inl ⟨by simp, .inr ⟨w.heap.size, 0, xss.length, c, by rw [hlen], heap_alloc_new w _, by omega, hm, by rw [← hlen]; simp, ?_⟩⟩, fun g hg hb => by
      replace hg := rowBlk_own hg
      simp only [Value.ownBlock, Option.some.injEq] at hg; subst hg; exact Nat.lt_irrefl _ (Old.all_iff.1 (hr.base _ hb))⟩
    rw [List.drop_zero, Nat.mul_one]; exact List.take_length
  · intro g hg k b' r' _ h1 h2 ho
    replace hg : rowBlk (.slice (some ⟨w.heap.size, 0, none⟩) xss.length xss.length) = some g := hg
    replace hg := rowBlk_own hg
    simp only [Value.ownBlock, Option.some.injEq] at hg
    subst hg
    have := (hr.own_lt h1 h2 ho).2
    omega
end Go.Ev
