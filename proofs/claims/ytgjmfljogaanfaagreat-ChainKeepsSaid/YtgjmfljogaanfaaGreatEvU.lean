/- What a range over a function turns: blocks that hold no cells; variables that a closure has captured are written no more; what is owed of an iterator. -/
import Derived.Test.YtgjmfljogaanfaaGreatEvI
import Derived.RangeFuncKeeps
import Derived.RangeFuncLeaves
import Derived.Deep.LoopGhost
namespace Go.Ev
open Go.RowKit

theorem cells_ne {w : World} {l b : Nat} {o : Obj} {c : Array Value} {T : TypeId} {z : Nat × Nat} (hl : w.heap[l]? = some o) (ho : o.isCells = false) (h : w.heap[b]? = some (.cells c T z)) : b ≠ l := by
  intro e
  subst e
  rw [hl] at h
  obtain rfl := Option.some.inj h
  cases ho

theorem cell_noncell {w w' : World} {l : Nat} {o : Obj} (hl : w.heap[l]? = some o) (ho : o.isCells = false) (hs : Same w w' (some l)) {ad : Addr} {u : Value} (hcc : w.cell? ad = some u) : w'.cell? ad = some u := by
  obtain ⟨o', h1, h2⟩ := cells_of_cell hcc
  rw [World.cell?_of_block (w := w) (w' := w')]
  · exact hcc
  · refine hs _ (lt_of_heap h1) fun e => ?_
    have e' := Option.some.inj e
    rw [e', hl] at h1
    obtain rfl := Option.some.inj h1
    rw [ho] at h2; cases h2
theorem KeptR.noncell {w w' : World} {B : KS} {l : Nat} {o : Obj} (hl : w.heap[l]? = some o) (ho : o.isCells = false) (hs : Same w w' (some l)) {v : Value} {n : Nat} {cs : List Value} (q : KeptR w B v n cs) : KeptR w' B v n cs := by
  obtain ⟨a, c, hv, hc, hcell⟩ := q
  refine ⟨a, c, hv, hc, fun j u hu => ?_⟩
  obtain ⟨ad, ha, hcc, hlt⟩ := hcell j u hu
  exact ⟨ad, ha, cell_noncell hl ho hs hcc, hlt⟩
theorem MixR.noncell {w w' : World} {B : KS} {l : Nat} {o : Obj} (hl : w.heap[l]? = some o) (ho : o.isCells = false) (hs : Same w w' (some l)) {sh sh2 : List SK} {x : Row sh × List (Row sh2)} {cs : List Value} (q : MixR w B sh sh2 x cs) : MixR w' B sh sh2 x cs := by
  obtain ⟨u, h1, a, c, hv, hc, hcell⟩ := q
  refine ⟨u, h1, a, c, hv, hc, fun j u hu => ?_⟩
  obtain ⟨ad, ha, hcc, hlt⟩ := hcell j u hu
  exact ⟨ad, ha, cell_noncell hl ho hs hcc, hlt⟩

theorem HB.noncell {w w' : World} {B : KS} {ρ : Ren} {l : Nat} {o : Obj} (hl : w.heap[l]? = some o) (ho : o.isCells = false) (hs : Same w w' (some l)) {b : AB} {r : RV} (q : HB w B ρ b r) : HB w' B ρ b r := by
  have one : ∀ {x : Nat} {c : Array Value} {T : TypeId} {z : Nat × Nat}, w.heap[x]? = some (.cells c T z) → w'.heap[x]? = some (.cells c T z) := by
    intro x c T z h
    rw [hs x (lt_of_heap h) (fun e => cells_ne hl ho h (Option.some.inj e))]
    exact h
  cases b <;> cases r <;> first | exact q | skip
  case cells.blk cs bb =>
    obtain ⟨h1, c, T, h2, h3⟩ := q
    exact ⟨h1, c, T, one h2, h3⟩
  case rcells.blk cs bb =>
    obtain ⟨h1, c, T, h2, h3⟩ := q
    exact ⟨h1, c, T, one h2, h3⟩
  case rows.sv e sh xs v =>
    obtain ⟨h0, h3, h4⟩ := q
    rcases h3 with ⟨h1, h2⟩ | h3
    · rcases h2 with h2 | ⟨g, o', cap, cur, hv, hg, rest⟩
      · exact ⟨h0, .inl ⟨h1, .inl h2⟩, h4⟩
      · exact ⟨h0, .inl ⟨h1, .inr ⟨g, o', cap, cur, hv, one hg, rest⟩⟩, h4⟩
    · exact ⟨h0, .inr h3, h4⟩
  case nest.sv e e2 sh xss v =>
    obtain ⟨h0, us, hus, h3, h4⟩ := q
    refine ⟨h0, us, hus.mono fun xs v hx => ?_, ?_⟩
    · obtain ⟨a, c, hv, hc, hcell⟩ := hx
      refine ⟨a, c, hv, hc, fun j u hu => ?_⟩
      obtain ⟨ad, ha, hcc, hlt⟩ := hcell j u hu
      refine ⟨ad, ha, ?_, hlt⟩
      obtain ⟨o', h1, h2⟩ := cells_of_cell hcc
      rw [World.cell?_of_block (w := w) (w' := w')]
      · exact hcc
      · refine hs _ (lt_of_heap h1) fun e => ?_
        have e' := Option.some.inj e
        rw [e', hl] at h1
        obtain rfl := Option.some.inj h1
        rw [ho] at h2; cases h2
    · rcases h3 with ⟨h1, h2⟩ | h3
      · rcases h2 with h2 | ⟨g, o', cap, cur, hv, hg, rest⟩
        · exact ⟨.inl ⟨h1, .inl h2⟩, h4⟩
        · exact ⟨.inl ⟨h1, .inr ⟨g, o', cap, cur, hv, one hg, rest⟩⟩, h4⟩
      · exact ⟨.inr h3, h4⟩
  case mix.sv e e2 sh sh2 xs v =>
    obtain ⟨h0, us, hus, h3, h4⟩ := q
    refine ⟨h0, us, hus.mono fun x cs hx => hx.noncell hl ho hs, ?_⟩
    rcases h3 with ⟨h1, h2⟩ | h3
    · rcases h2 with h2 | ⟨g, o', cap, cur, hv, hg, rest⟩
      · exact ⟨.inl ⟨h1, .inl h2⟩, h4⟩
      · exact ⟨.inl ⟨h1, .inr ⟨g, o', cap, cur, hv, one hg, rest⟩⟩, h4⟩
    · exact ⟨.inr h3, h4⟩
  case mixe.sv e e2 sh sh2 xs v =>
    obtain ⟨h0, us, hus, h3⟩ := q
    exact ⟨h0, us, hus.mono fun x cs hx => hx.noncell hl ho hs, h3.noncell hl ho hs⟩
  case ext.sv e sh xs v =>
    obtain ⟨h0, a, c, hv, hc, hcell⟩ := q
    refine ⟨h0, a, c, hv, hc, fun j u hu => ?_⟩
    obtain ⟨ad, ha, hcc, hlt⟩ := hcell j u hu
    refine ⟨ad, ha, ?_, hlt⟩
    obtain ⟨o', h1, h2⟩ := cells_of_cell hcc
    rw [World.cell?_of_block (w := w) (w' := w')]
    · exact hcc
    · refine hs _ (lt_of_heap h1) fun e => ?_
      have e' := Option.some.inj e
      rw [e', hl] at h1
      obtain rfl := Option.some.inj h1
      rw [ho] at h2; cases h2

theorem HR.noncell {w w' : World} {B : KS} {ρ : Ren} {h : List AB} {l : Nat} {o : Obj} (q : HR w B ρ h) (hl : w.heap[l]? = some o) (ho : o.isCells = false) (hs : Same w w' (some l)) (hz : w.heap.size ≤ w'.heap.size) : HR w' B ρ h :=
  ⟨fun k b hk => (q.blk k b hk).imp id fun ⟨r, hr, hb⟩ => ⟨r, hr, hb.noncell hl ho hs⟩, q.sep, q.fresh, fun k hk => Old.all_iff.2 (Nat.lt_of_lt_of_le (Old.all_iff.1 (q.base k hk)) hz)⟩
theorem HX.noncell {w w' : World} {B : KS} {ρ : Ren} {h : List AB} {l : Nat} {o : Obj} (q : HX w B ρ h) (hl : w.heap[l]? = some o) (ho : o.isCells = false) (hs : Same w w' (some l)) (hz : w.heap.size ≤ w'.heap.size) : HX w' B ρ h := by
  obtain ⟨K, h1, h2⟩ := q
  exact ⟨K, h1, h2.noncell hl ho hs hz⟩
theorem putObj_same (w : World) (l : Nat) (o : Obj) : Same w (w.putObj l o) (some l) := fun _ _ hne => World.putObj_heap_other fun e => hne (by rw [e])
theorem putObj_size (w : World) (l : Nat) (o : Obj) : w.heap.size ≤ (w.putObj l o).heap.size := (grownBy_putObj' w l o).size
theorem Kp.putObj {B : KS} {w : World} {l : Nat} (o : Obj) (h : ¬ B.all l) : Kp B w (w.putObj l o) :=
  have g := grownBy_putObj' w l o
  ⟨g.os, g.tape, g.output, g.size, fun _ hk => World.putObj_heap_other fun e => h (e ▸ hk)⟩

/-- A block that holds no cells is kept, too. -/
theorem HR.addk {w : World} {B : KS} {ρ : Ren} {h : List AB} {l : Nat} {o : Obj} (q : HR w B ρ h) (ds : List Deferred) (hl : w.heap[l]? = some o) (ho : o.isCells = false) : HR w ⟨fun b => B.k b ∨ b = l, B.f, ds⟩ ρ h := by
  have hne : ∀ {x : Nat} {c : Array Value} {T : TypeId} {z : Nat × Nat}, ¬ B.all x → w.heap[x]? = some (.cells c T z) → ¬ (KS.all ⟨fun b => B.k b ∨ b = l, B.f, ds⟩ x) := by
    intro x c T z h1 h2 h3
    rcases h3 with (h3 | h3) | h3
    · exact h1 (.inl h3)
    · exact cells_ne hl ho h2 h3
    · exact h1 (.inr h3)
  refine ⟨fun k b hk => ?_, q.sep, q.fresh, fun b hb => ?_⟩
  · refine (q.blk k b hk).imp id fun ⟨r, hr, hb⟩ => ⟨r, hr, ?_⟩
    cases b <;> cases r <;> first | exact hb | skip
    case cells.blk cs bb =>
      obtain ⟨h1, c, T, h2, h3⟩ := hb
      exact ⟨hne h1 h2, c, T, h2, h3⟩
    case rcells.blk cs bb => exact ⟨.inl hb.1, hb.2⟩
    case rows.sv e sh xs v =>
      obtain ⟨h0, h3, h4⟩ := hb
      refine ⟨h0, h3, fun g hg => ?_⟩
      have hn := h4 g hg
      rcases h3 with ⟨_, h2⟩ | ⟨_, _, a, rfl⟩
      · rcases h2 with ⟨rfl, _⟩ | ⟨g', o', cap, cur, rfl, hg', _⟩
        · cases hg
        · have e := rowBlk_own hg
          simp only [Value.ownBlock, Option.some.injEq] at e
          subst e
          exact hne hn hg'
      · simp [rowBlk] at hg
    case ext.sv e sh xs v => exact hb.ext_ext fun _ h => .inl h
    case nest.sv e e2 sh xss v =>
      obtain ⟨h0, us, hus, h3, h4⟩ := hb
      refine ⟨h0, us, hus.mono fun _ _ hx => hx.mono (B' := ⟨fun b => B.k b ∨ b = l, B.f, ds⟩) fun _ h => .inl h, h3, fun g hg => ?_⟩
      have hn := h4 g hg
      rcases h3 with ⟨_, h2⟩ | ⟨_, _, a, rfl⟩
      · rcases h2 with ⟨rfl, _⟩ | ⟨g', o', cap, cur, rfl, hg', _⟩
        · cases hg
        · have e := rowBlk_own hg
          simp only [Value.ownBlock, Option.some.injEq] at e
          subst e
          exact hne hn hg'
      · simp [rowBlk] at hg
    case mix.sv e e2 sh sh2 xss v =>
      obtain ⟨h0, us, hus, h3, h4⟩ := hb
      refine ⟨h0, us, hus.mono fun _ _ hx => hx.mono (B' := ⟨fun b => B.k b ∨ b = l, B.f, ds⟩) fun _ h => .inl h, h3, fun g hg => ?_⟩
      have hn := h4 g hg
      rcases h3 with ⟨_, h2⟩ | ⟨_, _, a, rfl⟩
      · rcases h2 with ⟨rfl, _⟩ | ⟨g', o', cap, cur, rfl, hg', _⟩
        · cases hg
        · have e := rowBlk_own hg
          simp only [Value.ownBlock, Option.some.injEq] at e
          subst e
          exact hne hn hg'
      · simp [rowBlk] at hg
    case mixe.sv e e2 sh sh2 xs v => exact hb.mixe_mixe fun _ h => .inl h
  · rcases hb with (hb | rfl) | hb
    · exact q.base b (.inl hb)
    · exact Old.all_iff.2 (lt_of_heap hl)
    · exact q.base b (.inr hb)

/-- A variable is written no more: its block is kept from now on. -/
theorem HR.freezeC {w : World} {B : KS} {ρ : Ren} {h : List AB} {k b : Nat} {cs : List AV} (q : HR w B ρ h) (hk : h[k]? = some (.cells cs)) (hr : ρ k = some (.blk b)) : ∃ K, Sub B K ∧ HR w K ρ (h.set k (.rcells cs)) := by
  have hown : ¬ B.all b := (q.own_lt hk hr (g := b) rfl).1
  refine ⟨⟨fun x => B.k x ∨ x = b, B.f, B.ds⟩, ⟨fun x hx => .inl hx, rfl, fun x hx => hx.imp id fun (hg : x = b) hf => hown (hg ▸ .inr hf)⟩, fun k' b' hk' => ?_, fun k1 b1 k2 b2 r1 r2 g hne h1 h2 hr1 hr2 ho => ?_, fun k' hk' => q.fresh k' (by simpa using hk'), fun x hx => ?_⟩
  · have hlt : k < h.length := (List.getElem?_eq_some_iff.1 hk).1
    by_cases e1 : k' = k
    · subst e1
      rw [List.getElem?_set_self hlt] at hk'
      obtain rfl := Option.some.inj hk'
      rcases q.blk k' _ hk with e | ⟨r, hr', hB⟩
      · cases e
      · rw [hr] at hr'; obtain rfl := Option.some.inj hr'
        exact .inr ⟨_, hr, .inr rfl, hB.2⟩
    · rw [List.getElem?_set_ne (Ne.symm e1)] at hk'
      refine (q.blk k' b' hk').imp id fun ⟨r, hr', hB⟩ => ⟨r, hr', ?_⟩
      have hsep : ∀ g, ownB b' r = some g → g ≠ b := fun g hg hv => q.sep k' b' k _ r _ g e1 hk' hk hr' hr hg (by rw [hv]; rfl)
      cases b' with
      | gone => trivial
      | cells cs' =>
        cases r with
        | sv _ => exact hB.elim
        | blk bb =>
          obtain ⟨h1, h2⟩ := hB
          exact ⟨fun hb => hb.elim (fun h => h.elim (fun h => h1 (.inl h)) (hsep bb rfl)) fun h => h1 (.inr h), h2⟩
      | rcells cs' =>
        cases r with
        | sv _ => exact hB.elim
        | blk bb => exact ⟨.inl hB.1, hB.2⟩
      | rows e2 sh2 xs2 =>
        cases r with
        | blk _ => exact hB.elim
        | sv v2 =>
          obtain ⟨h0, h1, h2⟩ := hB
          exact ⟨h0, h1, fun g hg hb => hb.elim (fun h => h.elim (fun h => h2 g hg (.inl h)) (hsep g hg)) fun h => h2 g hg (.inr h)⟩
      | ext e2 sh2 xs2 => exact hB.ext_ext fun b hb => .inl hb
      | nest e2 e3 sh2 xs2 =>
        cases r with
        | blk _ => exact hB.elim
        | sv v2 =>
          obtain ⟨h0, us, hus, h1, h2⟩ := hB
          exact ⟨h0, us, hus.mono fun _ _ hx => hx.mono (B' := ⟨fun x => B.k x ∨ x = b, B.f, B.ds⟩) fun _ h => .inl h, h1, fun g hg hb => hb.elim (fun h => h.elim (fun h => h2 g hg (.inl h)) (hsep g hg)) fun h => h2 g hg (.inr h)⟩
      | mix e2 e3 sh2 sh3 xs2 =>
        cases r with
        | blk _ => exact hB.elim
        | sv v2 =>
          obtain ⟨h0, us, hus, h1, h2⟩ := hB
          exact ⟨h0, us, hus.mono fun _ _ hx => hx.mono (B' := ⟨fun x => B.k x ∨ x = b, B.f, B.ds⟩) fun _ h => .inl h, h1, fun g hg hb => hb.elim (fun h => h.elim (fun h => h2 g hg (.inl h)) (hsep g hg)) fun h => h2 g hg (.inr h)⟩
      | mixe e2 e3 sh2 sh3 xs2 => exact hB.mixe_mixe fun b hb => .inl hb
  · have hlt : k < h.length := (List.getElem?_eq_some_iff.1 hk).1
    by_cases e1 : k1 = k
    · subst e1
      rw [List.getElem?_set_self hlt] at h1; obtain rfl := Option.some.inj h1
      cases r1 <;> cases ho
    · rw [List.getElem?_set_ne (Ne.symm e1)] at h1
      by_cases e2 : k2 = k
      · subst e2
        rw [List.getElem?_set_self hlt] at h2; obtain rfl := Option.some.inj h2
        intro ho2; cases r2 <;> cases ho2
      · rw [List.getElem?_set_ne (Ne.symm e2)] at h2
        exact q.sep k1 b1 k2 b2 r1 r2 g hne h1 h2 hr1 hr2 ho
  · rcases hx with (hx | rfl) | hx
    · exact q.base x (.inl hx)
    · exact Old.all_iff.2 (q.own_lt hk hr (g := x) rfl).2
    · exact q.base x (.inr hx)

theorem HX.fzC {w : World} {B : KS} {ρ : Ren} {cv : List Value} : ∀ {cap : List (Nat × Nat)} {h : List AB}, All2 (fun x u => PtrR ρ x.1 x.2 u) cap cv → HX w B ρ h → HX w B ρ (fzC cap h) := by
  intro cap h ha
  induction ha generalizing h with
  | nil => exact fun q => q
  | @cons x v cap cv hx _ ih =>
    intro q
    simp only [Go.Ev.fzC]
    apply ih
    split
    · rename_i cs hcs
      obtain ⟨K, h1, h2⟩ := q
      obtain ⟨b, hb, _⟩ := hx
      obtain ⟨K', h3, h4⟩ := h2.freezeC hcs hb
      exact ⟨K', h1.trans h3, h4⟩
    · exact q

/-- The kept blocks are as they were. -/
def KeepK (K : KS) (W W' : World) : Prop := ∀ b, K.k b → W'.heap[b]? = W.heap[b]?
/-- What is owed of an iterator: it hands its items to the loop's body, one by one, and leaves all that lies below it alone. -/
def SeqOK (P : Program) (rc : RC) : Prop :=
  ∀ (cap : List (Nat × Nat)) (h : List AB) (ρ : Ren) (w : World) (K : KS) (cv : Array Value) (items : List (Row rc.sh)), HR w K ρ h → All2 (fun x u => PtrR ρ x.1 x.2 u) cap cv.toList → rc.dec cap h = some items →
    ∀ (l : Nat) (J : Nat → World → Prop) (W : World), KeepK K w W → (∀ k A B, J k A → Kp (Old A) A B → J k B) →
      (∀ (k : Nat) (x : Row rc.sh) (A : World), items[k]? = some x → J k A → YieldAt Fence.wide 3 P l #[.agg (Row.vals rc.sh x).toArray] A fun e A' => e = .returned (.bool true) ∧ J (k + 1) A' ∧ KeepK K A A') →
      J 0 W → CallsIn Fence.wide 4 P rc.gf (#[.func (.yield l) #[] #[]] ++ cv) W fun e W' => (∃ v, e = .returned v) ∧ J items.length W'
end Go.Ev
