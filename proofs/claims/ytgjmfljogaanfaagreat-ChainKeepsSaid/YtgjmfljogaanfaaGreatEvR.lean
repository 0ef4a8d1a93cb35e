/- Contracts of functions that change what their caller handed in: by patterns of the heap ahead of the call and behind it. -/
import Derived.Test.YtgjmfljogaanfaaGreatEvQ
namespace Go.Ev
open Go.RowKit

/-- Blocks by other numbers. -/
def AV.renL (τ : Nat → Nat) : AV → AV
  | .ptr k o => .ptr (τ k) o
  | .elt k i sz c => .elt (τ k) i sz c
  | .sl k => .sl (τ k)
  | .fn f cap => .fn f (cap.map fun x => (τ x.1, x.2))
  | v => v
def AV.ren1 (τ : Nat → Nat) : AV → AV
  | .agg cs => .agg (cs.map (AV.renL τ))
  | v => AV.renL τ v
def AB.ren (τ : Nat → Nat) : AB → AB
  | .cells cs => .cells (cs.map (AV.renL τ))
  | .rcells cs => .rcells (cs.map (AV.renL τ))
  | b => b
/-- Where a block of the pattern behind the call lies for the caller. -/
def tauH (n0 : Nat) (ks : List Nat) (key : Nat) (j : Nat) : Nat := if j < n0 then ks.getD j 0 else key + (j - n0)
def keyAt (σ : Sig) (c : Nat) : Nat := match sigAt σ c with | some (.key k) => k | _ => 0
def rowKeys (σ : Sig) : Nat → List HPat → List Nat
  | _, [] => []
  | c, .rows .. :: t => (match sigAt σ c with | some (.key k) => [k] | _ => []) ++ rowKeys σ (c + 1) t
  | c, _ :: t => rowKeys σ (c + 1) t
/-- The first blocks of the pattern are there. -/
def headsB (n0 : Nat) (σ : Sig) (h : List AB) : Bool := (List.range n0).all fun c => match sigAt σ c with | some (.key q) => thereA h q | _ => false
def resH (vs : List AV) : AV := match vs with | [v] => v | vs => .tup vs
def resLP (rps : List Pat) (v : AV) : List AV :=
  match rps with
  | [_] => [v]
  | _ => match v with | .tup vs => vs | _ => [.junk]
def decH (n0 : Nat) (rps : List Pat) (rhs : List HPat) (v : AV) (h : List AB) : Option (PT rps × HT rhs) := getF n0 rps rhs (resLP rps v) h
def upH (n0 : Nat) (ks : List Nat) (bs : List AB) : List (Nat × AB) := (ks.take n0).zip bs ++ (ks.drop n0).map fun k => (k, .gone)
def mkFCH (n0 : Nat) (ps : List Pat) (hs : List HPat) (rps : List Pat) (rhs : List HPat) (run : Nat → PT ps × HT hs → Option (PT rps × HT rhs)) : FC where
  T := PT ps × HT hs
  R := PT rps × HT rhs
  eff := decide (0 < n0) || hs.any (fun p => match p with | .rows .. => true | _ => false)
  dec := fun as h => if headsB n0 (sigS 0 ps hs as h) h = true then (getS false 0 ps hs as h).map fun t => (t, (List.range n0).map (keyAt (sigS 0 ps hs as h)) ++ rowKeys (sigS 0 ps hs as h) n0 (hs.drop n0)) else none
  run := run
  enc := fun ks key r => resH ((putP rps r.1).map (AV.ren1 (tauH n0 ks key)))
  nb := fun ks key r => ((putH rhs r.2).drop n0).map (AB.ren (tauH n0 ks key))
  up := fun ks key r => upH n0 ks (((putH rhs r.2).take n0).map (AB.ren (tauH n0 ks key)))

section
variable {ρ ρ' : Ren} {τ : Nat → Nat}
theorem LR.ren (h : ∀ j r, ρ j = some r → ρ' (τ j) = some r) {x : AV} {v : Value} (q : LR ρ x v) : LR ρ' (x.renL τ) v := by
  cases x <;> first | exact q | skip
  case ptr k o => obtain ⟨b, hb, e⟩ := q; exact ⟨b, h _ _ hb, e⟩
  case elt k i sz c => obtain ⟨ad, n, cp, h1, h2⟩ := q; exact ⟨ad, n, cp, h _ _ h1, h2⟩
  case sl k => exact ⟨h _ _ q.1, q.2⟩
  case fn f caps =>
    obtain ⟨cv, e, ha⟩ := q
    refine ⟨cv, e, ?_⟩
    clear e
    generalize cv.toList = l at ha
    induction ha with
    | nil => exact .nil
    | cons r _ ih => obtain ⟨b, hb, e⟩ := r; exact .cons ⟨b, h _ _ hb, e⟩ ih
theorem All2.map_left {α β γ : Type} {R : α → β → Prop} {R' : γ → β → Prop} {f : α → γ} (h : ∀ a b, R a b → R' (f a) b) {l : List α} {m : List β} (q : All2 R l m) : All2 R' (l.map f) m := by
  induction q with
  | nil => exact .nil
  | cons r _ ih => exact .cons (h _ _ r) ih
theorem VR1.ren (h : ∀ j r, ρ j = some r → ρ' (τ j) = some r) {x : AV} {v : Value} (q : VR1 ρ x v) : VR1 ρ' (x.ren1 τ) v := by
  by_cases hl : x.leaf = true
  · rw [VR1_leaf hl] at q
    have e : x.ren1 τ = x.renL τ := by cases x <;> first | rfl | (simp [AV.leaf] at hl)
    rw [e]; exact VR1.of_LR (LR.ren h q)
  · cases x <;> first | exact absurd rfl hl | skip
    · trivial
    · obtain ⟨c, e, ha⟩ := q; exact ⟨c, e, All2.map_left (f := AV.renL τ) (fun _ _ q => LR.ren h q) ha⟩
    · exact q.elim
theorem HB.ren {w : World} {B : KS} (h : ∀ j r, ρ j = some r → ρ' (τ j) = some r) {b : AB} {r : RV} (q : HB w B ρ b r) : HB w B ρ' (b.ren τ) r := by
  cases b <;> cases r <;> first | exact q | skip
  all_goals
    obtain ⟨h1, c, T, h2, h3⟩ := q
    exact ⟨h1, c, T, h2, All2.map_left (f := AV.renL τ) (fun _ _ q => LR.ren h q) h3⟩
end

theorem applyU_cases {k : Nat} {b : AB} : ∀ (us : List (Nat × AB)) (h : List AB), (applyU h us)[k]? = some b → (∃ u, u ∈ us ∧ u.1 = k ∧ u.2 = b) ∨ (h[k]? = some b ∧ ∀ u, u ∈ us → u.1 ≠ k)
  | [], h, e => .inr ⟨e, fun u hu => by cases hu⟩
  | u :: us, h, e => by
    have e' : (applyU (h.set u.1 u.2) us)[k]? = some b := e
    rcases applyU_cases us _ e' with ⟨v, hv, h1, h2⟩ | ⟨h1, h2⟩
    · exact .inl ⟨v, by simp [hv], h1, h2⟩
    · by_cases hk : u.1 = k
      · subst hk
        have hlt : u.1 < h.length := by have := (List.getElem?_eq_some_iff.1 h1).1; simpa using this
        rw [List.getElem?_set_self hlt] at h1
        exact .inl ⟨u, by simp, rfl, Option.some.inj h1⟩
      · rw [List.getElem?_set_ne hk] at h1
        refine .inr ⟨h1, fun v hv => ?_⟩
        simp only [List.mem_cons] at hv
        rcases hv with rfl | hv
        · exact hk
        · exact h2 v hv

/-- A block that a call left alone. -/
theorem KeptR.keep {w w' : World} {B K : KS} (hk : ∀ g, B.k g → w'.heap[g]? = w.heap[g]?) (hK : ∀ g, B.k g → K.k g) {v : Value} {n : Nat} {cs : List Value} (q : KeptR w B v n cs) : KeptR w' K v n cs := by
  obtain ⟨a, c, hv, hc, hcell⟩ := q
  refine ⟨a, c, hv, hc, fun j u hu => ?_⟩
  obtain ⟨ad, ha, hcc, hlt⟩ := hcell j u hu
  refine ⟨ad, ha, ?_, hK _ hlt⟩
  rw [World.cell?_of_block (w := w) (w' := w')]
  · exact hcc
  · rw [add_block]; exact hk _ hlt
theorem MixR.keep {w w' : World} {B K : KS} (hk : ∀ g, B.k g → w'.heap[g]? = w.heap[g]?) (hK : ∀ g, B.k g → K.k g) {sh sh2 : List SK} {x : Row sh × List (Row sh2)} {cs : List Value} (q : MixR w B sh sh2 x cs) : MixR w' K sh sh2 x cs := by
  obtain ⟨u, h1, h2⟩ := q
  exact ⟨u, h1, KeptR.keep (cs := flat sh2 x.2) hk hK h2⟩
theorem HB.keep {w w' : World} {B K : KS} {ρ : Ren} {b : AB} {r : RV} (q : HB w B ρ b r) (ho : ∀ g, ownB b r = some g → g < w.heap.size → w'.heap[g]? = w.heap[g]? ∧ ¬ K.all g) (hk : ∀ g, B.k g → w'.heap[g]? = w.heap[g]?) (hK : ∀ g, B.k g → K.k g) : HB w' K ρ b r := by
  cases b <;> cases r <;> first | exact q | skip
  case cells.blk cs bb =>
    obtain ⟨h1, c, T, h2, h3⟩ := q
    obtain ⟨e1, e2⟩ := ho bb rfl (lt_of_heap h2)
    exact ⟨e2, c, T, by rw [e1]; exact h2, h3⟩
  case rcells.blk cs bb =>
    obtain ⟨h1, c, T, h2, h3⟩ := q
    exact ⟨hK bb h1, c, T, by rw [hk bb h1]; exact h2, h3⟩
  case rows.sv e sh xs v =>
    obtain ⟨h0, h12, h3⟩ := q
    rcases h12 with ⟨h1, h2⟩ | ⟨h1, h2, a4, rfl⟩
    case inr => exact ⟨h0, .inr ⟨h1, h2, a4, rfl⟩, fun g hg => by simp [rowBlk] at hg⟩
    rcases h2 with ⟨rfl, hn⟩ | ⟨g, o0, cap, cur, hv, hg, hnc, rest⟩
    · exact ⟨h0, .inl ⟨h1, .inl ⟨rfl, hn⟩⟩, fun g hg => by cases hg⟩
    · subst hv
      by_cases hc : cap = 0
      · subst hc
        obtain rfl : xs = [] := List.eq_nil_of_length_eq_zero (by omega)
        exact ⟨h0, .inr ⟨rfl, rfl, _, rfl⟩, fun g' hg' => by simp [rowBlk] at hg'⟩
      have hrb : rowBlk (.slice (some ⟨g, o0, none⟩) xs.length cap) = some g := by simp [rowBlk, hc]
      obtain ⟨e1, e2⟩ := ho g hrb (lt_of_heap hg)
      exact ⟨h0, .inl ⟨h1, .inr ⟨g, o0, cap, cur, rfl, by rw [e1]; exact hg, hnc, rest⟩⟩, fun g' hg' => by rw [hrb] at hg'; cases hg'; exact e2⟩
  case nest.sv e e2 sh xss v =>
    obtain ⟨h0, us, hus, h12, h3⟩ := q
    refine ⟨h0, us, hus.mono fun xs u hx => ?_, ?_⟩
    · obtain ⟨a, c, hv, hc, hcell⟩ := hx
      refine ⟨a, c, hv, hc, fun j u hu => ?_⟩
      obtain ⟨ad, ha, hcc, hlt⟩ := hcell j u hu
      refine ⟨ad, ha, ?_, hK _ hlt⟩
      rw [World.cell?_of_block (w := w) (w' := w')]
      · exact hcc
      · rw [add_block]; exact hk _ hlt
    · rcases h12 with ⟨h1, h2⟩ | ⟨h1, h2, a4, rfl⟩
      case inr => exact ⟨.inr ⟨h1, h2, a4, rfl⟩, fun g hg => by simp [rowBlk] at hg⟩
      rcases h2 with ⟨rfl, hn⟩ | ⟨g, o0, cap, cur, hv, hg, hnc, rest⟩
      · exact ⟨.inl ⟨h1, .inl ⟨rfl, hn⟩⟩, fun g hg => by cases hg⟩
      · subst hv
        by_cases hc : cap = 0
        · subst hc
          obtain rfl : us = [] := List.eq_nil_of_length_eq_zero (by omega)
          exact ⟨.inr ⟨rfl, rfl, _, rfl⟩, fun g' hg' => by simp [rowBlk] at hg'⟩
        have hrb : rowBlk (.slice (some ⟨g, o0, none⟩) us.length cap) = some g := by simp [rowBlk, hc]
        obtain ⟨e1, e2⟩ := ho g hrb (lt_of_heap hg)
        exact ⟨.inl ⟨h1, .inr ⟨g, o0, cap, cur, rfl, by rw [e1]; exact hg, hnc, rest⟩⟩, fun g' hg' => by rw [hrb] at hg'; cases hg'; exact e2⟩
  case mix.sv e e2 sh sh2 xss v =>
    obtain ⟨h0, us, hus, h12, h3⟩ := q
    refine ⟨h0, us, hus.mono fun xs u hx => hx.keep hk hK, ?_⟩
    · rcases h12 with ⟨h1, h2⟩ | ⟨h1, h2, a4, rfl⟩
      case inr => exact ⟨.inr ⟨h1, h2, a4, rfl⟩, fun g hg => by simp [rowBlk] at hg⟩
      rcases h2 with ⟨rfl, hn⟩ | ⟨g, o0, cap, cur, hv, hg, hnc, rest⟩
      · exact ⟨.inl ⟨h1, .inl ⟨rfl, hn⟩⟩, fun g hg => by cases hg⟩
      · subst hv
        by_cases hc : cap = 0
        · subst hc
          obtain rfl : us = [] := List.eq_nil_of_length_eq_zero (by omega)
          exact ⟨.inr ⟨rfl, rfl, _, rfl⟩, fun g' hg' => by simp [rowBlk] at hg'⟩
        have hrb : rowBlk (.slice (some ⟨g, o0, none⟩) us.length cap) = some g := by simp [rowBlk, hc]
        obtain ⟨e1, e2⟩ := ho g hrb (lt_of_heap hg)
        exact ⟨.inl ⟨h1, .inr ⟨g, o0, cap, cur, rfl, by rw [e1]; exact hg, hnc, rest⟩⟩, fun g' hg' => by rw [hrb] at hg'; cases hg'; exact e2⟩
  case mixe.sv e e2 sh sh2 xs v =>
    obtain ⟨h0, us, hus, h3⟩ := q
    exact ⟨h0, us, hus.mono fun xs u hx => hx.keep hk hK, h3.keep hk hK⟩
  case ext.sv e sh xs v =>
    obtain ⟨h0, a, c, hv, hc, hcell⟩ := q
    refine ⟨h0, a, c, hv, hc, fun j u hu => ?_⟩
    obtain ⟨ad, ha, hcc, hlt⟩ := hcell j u hu
    refine ⟨ad, ha, ?_, hK _ hlt⟩
    rw [World.cell?_of_block (w := w) (w' := w')]
    · exact hcc
    · rw [add_block]; exact hk _ hlt
theorem HB.reset {w : World} {K K' : KS} {ρ : Ren} {b : AB} {r : RV} (q : HB w K ρ b r) (ho : ∀ g, ¬ K.all g → ¬ K'.all g) (hK : ∀ g, K.k g → K'.k g) : HB w K' ρ b r :=
  q.keep (fun g hg _ => ⟨rfl, ho g (q.own_lt hg).1⟩) (fun _ _ => rfl) hK
theorem ownB_ren {b : AB} {r : RV} {τ : Nat → Nat} : ownB (b.ren τ) r = ownB b r := by cases b <;> cases r <;> rfl

/-- THE CALLER'S HEAP BEHIND A CALL that changed some of its blocks. -/
theorem back_ok {w w' : World} {B K2 : KS} {ρ ρ2 ρ' : Ren} {h h' bs : List AB} {own : Nat → Prop} {ks gone : List Nat} {key n0 : Nat} (hr : HR w B ρ h) (hown : ∀ b, own b → ¬ B.all b)
    (htouch : ∀ k b r g, h[k]? = some b → ρ k = some r → ownB b r = some g → own g → k ∈ ks ∨ k ∈ gone)
    (hsub : Sub ⟨B.k, fun b => b < w.heap.size ∧ ¬ own b, []⟩ K2) (hkp : Kp ⟨B.k, fun b => b < w.heap.size ∧ ¬ own b, []⟩ w w') (hr2 : HR w' K2 ρ2 bs)
    (hks : ks.length = n0) (hn0 : n0 ≤ bs.length) (h0 : ∀ j, j < n0 → ρ2 j = ρ (ks.getD j 0)) (h1 : ∀ j, n0 ≤ j → j < bs.length → ρ' (key + (j - n0)) = ρ2 j)
    (hle : ρ.le ρ') (hoth : ∀ k, (∀ j, j < bs.length - n0 → k ≠ key + j) → ρ' k = ρ k)
    (hp : PlacedL (applyU h (ks.zip ((bs.take n0).map (AB.ren (tauH n0 ks key))) ++ gone.map fun k => (k, .gone))) h' key ((bs.drop n0).map (AB.ren (tauH n0 ks key)))) : HX w' B ρ' h' := by
  have hτ : ∀ j r, ρ2 j = some r → ρ' (tauH n0 ks key j) = some r := by
    intro j r hj
    unfold tauH
    split
    · rename_i hlt; rw [h0 j hlt] at hj; exact hle _ _ hj
    · rename_i hge
      have hlt : j < bs.length := by
        apply Nat.lt_of_not_le; intro hle'
        rw [hr2.fresh j hle'] at hj; cases hj
      rw [h1 j (by omega) hlt]; exact hj
  have hfar : ∀ g, ¬ K2.all g → g < w.heap.size → own g := by
    intro g hg hlt
    apply Classical.byContradiction
    intro hno
    exact hg (.inr (by rw [hsub.f]; exact ⟨hlt, hno⟩))
  have hreset : ∀ g, ¬ K2.all g → ¬ KS.all ⟨K2.k, B.f, []⟩ g := by
    rintro g hg (hk | hf)
    · exact hg (.inl hk)
    · exact hown g (hfar g hg (Old.all_iff.1 (hr.base g (.inr hf)))) (.inr hf)
  have hcase : ∀ k b, h'[k]? = some b → (∃ j b0, bs[j]? = some b0 ∧ b = b0.ren (tauH n0 ks key) ∧ k = tauH n0 ks key j) ∨ b = .gone ∨ (h[k]? = some b ∧ k ∉ ks ∧ k ∉ gone ∧ ρ' k = ρ k) := by
    intro k b hk
    by_cases hnew : ∃ j, j < bs.length - n0 ∧ k = key + j
    · obtain ⟨j, hj, rfl⟩ := hnew
      have hb0 : bs[n0 + j]? = some bs[n0 + j] := List.getElem?_eq_getElem (by omega)
      have := hp.here j (bs[n0 + j].ren (tauH n0 ks key)) (by rw [List.getElem?_map, List.getElem?_drop, hb0]; rfl)
      rw [this] at hk
      refine .inl ⟨n0 + j, _, hb0, (Option.some.inj hk).symm, ?_⟩
      unfold tauH; rw [if_neg (by omega)]; omega
    · have hno : ∀ j, j < bs.length - n0 → k ≠ key + j := fun j hj e => hnew ⟨j, hj, e⟩
      rw [hp.other k (fun j hj => hno j (by simpa using hj))] at hk
      rcases applyU_cases _ _ hk with ⟨u, hu, e1, e2⟩ | ⟨e1, e2⟩
      · simp only [List.mem_append, List.mem_map] at hu
        rcases hu with hu | ⟨z, _, rfl⟩
        · obtain ⟨i, hi, hget⟩ := List.mem_iff_getElem.1 hu
          simp only [List.length_zip, List.length_map, List.length_take] at hi
          rw [List.getElem_zip] at hget
          subst e1; subst e2
          rw [← hget]
          have hi2 : i < n0 := by omega
          refine .inl ⟨i, bs[i], List.getElem?_eq_getElem (by omega), by simp, ?_⟩
          unfold tauH; rw [if_pos hi2]
          simp [List.getD, List.getElem?_eq_getElem (show i < ks.length by omega)]
        · exact .inr (.inl e2.symm)
      · refine .inr (.inr ⟨e1, fun hm => ?_, fun hm => e2 (k, .gone) (by simp [hm]) rfl, hoth k hno⟩)
        obtain ⟨i, hi, rfl⟩ := List.mem_iff_getElem.1 hm
        have hlen : i < (ks.zip ((bs.take n0).map (AB.ren (tauH n0 ks key)))).length := by simp; omega
        refine e2 ((ks.zip ((bs.take n0).map (AB.ren (tauH n0 ks key))))[i]) (List.mem_append_left _ (List.getElem_mem hlen)) ?_
        rw [List.getElem_zip]
  have hDown : ∀ k b r g, h[k]? = some b → k ∉ ks → k ∉ gone → ρ k = some r → ownB b r = some g → g < w.heap.size ∧ ¬ own g ∧ ¬ B.all g := by
    intro k b r g hk hn1 hn2 hrk ho
    have hl := hr.own_lt hk hrk ho
    exact ⟨hl.2, fun hw => (htouch k b r g hk hrk ho hw).elim hn1 hn2, hl.1⟩
  refine ⟨⟨K2.k, B.f, []⟩, ⟨fun b hb => hsub.k b hb, rfl, fun b hb => ?_⟩, fun k b hk => ?_, fun k b k' b' r r' g hne hk1 hk2 hr1 hr2' ho => ?_, fun k hk => ?_, fun b hb => ?_⟩
  · rcases hsub.new b hb with h2 | h2
    · exact .inl h2
    · refine .inr fun hf => ?_
      have hlt := Old.all_iff.1 (hr.base b (.inr hf))
      exact h2 ⟨hlt, fun hw => hown b hw (.inr hf)⟩
  · rcases hcase k b hk with ⟨j, b0, hj, rfl, rfl⟩ | rfl | ⟨e1, n1, n2, e2⟩
    · rcases hr2.blk j b0 hj with rfl | ⟨r, hrj, hB⟩
      · exact .inl rfl
      · exact .inr ⟨r, hτ j r hrj, (hB.ren hτ).reset hreset fun _ h => h⟩
    · exact .inl rfl
    · rcases hr.blk k b e1 with rfl | ⟨r, hrk, hB⟩
      · exact .inl rfl
      · refine .inr ⟨r, hle _ _ hrk, (hB.mono hle).keep (fun g hg _ => ?_) (fun g hg => hkp.block g (.inl hg)) fun g hg => hsub.k g hg⟩
        obtain ⟨a1, a2, a3⟩ := hDown k b r g e1 n1 n2 hrk hg
        refine ⟨hkp.block g (.inr ⟨a1, a2⟩), ?_⟩
        rintro (hk2 | hf)
        · rcases hsub.new g hk2 with h3 | h3
          · exact a3 (.inl h3)
          · exact h3 ⟨a1, a2⟩
        · exact a3 (.inr hf)
  · rcases hcase k b hk1 with ⟨j, b0, hj, rfl, rfl⟩ | rfl | ⟨e1, n1, n2, e2⟩
    · rcases hr2.blk j b0 hj with rfl | ⟨rj, hrj, hB⟩
      · cases r <;> cases ho
      rw [hτ j rj hrj] at hr1; obtain rfl := Option.some.inj hr1
      rw [ownB_ren] at ho
      rcases hcase k' b' hk2 with ⟨j', b0', hj', rfl, rfl⟩ | rfl | ⟨e1', n1', n2', e2'⟩
      · rcases hr2.blk j' b0' hj' with rfl | ⟨rj', hrj', hB'⟩
        · intro e; cases r' <;> cases e
        rw [hτ j' rj' hrj'] at hr2'; obtain rfl := Option.some.inj hr2'
        rw [ownB_ren]
        exact hr2.sep j b0 j' b0' _ _ g (fun e => hne (by rw [e])) hj hj' hrj hrj' ho
      · intro e; cases r' <;> cases e
      · intro e
        rw [e2'] at hr2'
        obtain ⟨a1, a2, a3⟩ := hDown k' b' r' g e1' n1' n2' hr2' e
        exact a2 (hfar g (hB.own_lt ho).1 a1)
    · cases r <;> cases ho
    · rw [e2] at hr1
      obtain ⟨a1, a2, a3⟩ := hDown k b r g e1 n1 n2 hr1 ho
      rcases hcase k' b' hk2 with ⟨j', b0', hj', rfl, rfl⟩ | rfl | ⟨e1', n1', n2', e2'⟩
      · rcases hr2.blk j' b0' hj' with rfl | ⟨rj', hrj', hB'⟩
        · intro e; cases r' <;> cases e
        rw [hτ j' rj' hrj'] at hr2'; obtain rfl := Option.some.inj hr2'
        rw [ownB_ren]
        intro e
        exact a2 (hfar g (hB'.own_lt e).1 a1)
      · intro e; cases r' <;> cases e
      · rw [e2'] at hr2'
        exact hr.sep k b k' b' r r' g hne e1 e1' hr1 hr2' ho
  · have hno : ∀ j, j < bs.length - n0 → k ≠ key + j := by
      intro j hj e
      have hb0 : bs[n0 + j]? = some bs[n0 + j] := List.getElem?_eq_getElem (by omega)
      have := hp.here j (bs[n0 + j].ren (tauH n0 ks key)) (by rw [List.getElem?_map, List.getElem?_drop, hb0]; rfl)
      rw [← e, List.getElem?_eq_none hk] at this; cases this
    rw [hoth k hno]
    exact hr.fresh k (by have := hp.len; rw [applyU_length] at this; omega)
  · rcases hb with hb | hb
    · exact hr2.base b (.inl hb)
    · exact Old.all_iff.2 (Nat.lt_of_lt_of_le (Old.all_iff.1 (hr.base b (.inr hb))) hkp.size)

theorem putH_length : ∀ (hs : List HPat) (x : HT hs), (putH hs x).length = hs.length
  | [], _ => rfl
  | p :: ps, x => by simp [putH, putH_length ps]
theorem rowKeys_mem {σ : Sig} {q : Nat} {e : TypeId} {sh : List SK} : ∀ {hs : List HPat} {c i : Nat}, hs[i]? = some (.rows e sh) → sigAt σ (c + i) = some (.key q) → q ∈ rowKeys σ c hs
  | [], c, i, h, _ => by simp at h
  | p :: ps, c, 0, h, hq => by
    simp only [List.getElem?_cons_zero, Option.some.injEq] at h
    subst h
    rw [Nat.add_zero] at hq
    simp [rowKeys, hq]
  | p :: ps, c, i + 1, h, hq => by
    have ih := rowKeys_mem (hs := ps) (c := c + 1) (i := i) (by simpa using h) (by rwa [show c + 1 + i = c + (i + 1) by omega])
    cases p <;> simp [rowKeys, ih]
def HPat.isCells : HPat → Bool
  | .cells _ => true
  | .rows .. => true
  | _ => false
def HPat.plain : HPat → Bool
  | .rows .. => true
  | .ext .. => true
  | .rcells _ => true
  | .mixe .. => true
  | _ => false
def okH (n0 : Nat) (ps : List Pat) (hs : List HPat) (rps : List Pat) (rhs : List HPat) : Bool :=
  okP ps hs && okP rps rhs && decide (n0 ≤ hs.length) && decide (n0 ≤ rhs.length) && (hs.take n0).all HPat.isCells && (hs.drop n0).all HPat.plain
theorem tau_take {n0 : Nat} {ks : List Nat} {key : Nat} : tauH n0 (ks.take n0) key = tauH n0 ks key := by
  funext j
  unfold tauH
  split
  · rename_i h; simp [List.getD, h]
  · rfl

theorem putP_length : ∀ (ps : List Pat) (x : PT ps), (putP ps x).length = ps.length
  | [], _ => rfl
  | p :: ps, x => by simp [putP, putP_length ps]
theorem getL1_none {σ : Sig} {p : LPat} {v : AV} {R : Type} : getL1 σ p v R none = none := by
  cases p <;> simp only [getL1]
  · cases SK.ofAV _ v <;> rfl
  · cases v <;> first | rfl | skip
    rename_i sh cs
    dsimp only
    cases Row.ofAVs sh cs <;> rfl
  · cases v <;> simp
  · cases v <;> simp
  · cases v <;> simp
  · cases v <;> simp
  · cases v <;> simp
  · cases v <;> simp
  · cases v <;> first | rfl | skip
    rename_i sh cs
    dsimp only
    cases Row.ofAVs sh cs <;> rfl
theorem getP1_none {σ : Sig} {p : Pat} {v : AV} {R : Type} : getP1 σ p v R none = none := by
  cases p with
  | l p => exact getL1_none
  | aggp ps =>
    cases v <;> first | rfl | skip
    rename_i cs
    simp only [getP1]
    cases getL σ ps cs <;> rfl
theorem putP1_nt {p : Pat} {R : Type} {x : p.T1 R} : ∀ l, (putP1 p R x).1 ≠ .tup l := by
  intro l e
  cases p with
  | aggp ps => cases e
  | l p =>
    cases p <;> simp [putP1, putL1] at e
    rename_i s; cases s <;> simp [SK.toAV] at e
theorem putP_nt : ∀ {ps : List Pat} {x : PT ps} {v : AV}, v ∈ putP ps x → ∀ l, v ≠ .tup l
  | [], _, v, h => by simp [putP] at h
  | p :: ps, x, v, h => by
    simp only [putP, List.mem_cons] at h
    rcases h with rfl | h
    · exact putP1_nt
    · exact putP_nt h
theorem VR_of_all {ρ : Ren} {l : List AV} {m : List Value} (ha : All2 (VR1 ρ) l m) : All2 (VR ρ) l m := ha.mono fun x v q => by
  cases x
  case tup l => exact q.elim
  all_goals exact VR.of_VR1 (fun _ e => by cases e) q
/-- The answer, for the caller. -/
theorem resH_ok {n0 : Nat} {rps : List Pat} {rhs : List HPat} {v : AV} {h : List AB} {r : PT rps × HT rhs} {ρ2 ρ3 ρ' : Ren} {v' : Value} {τ : Nat → Nat} (hd : getS false n0 rps rhs (resLP rps v) h = some r) (hv : VR ρ2 v v')
    (ha : ∀ us, All2 (VR ρ2) (resLP rps v) us → All2 (VR ρ3) (putP rps r.1) us) (hτ : ∀ j rv, ρ3 j = some rv → ρ' (τ j) = some rv) : VR ρ' (resH ((putP rps r.1).map (AV.ren1 τ))) v' := by
  have hvr : ∀ {x : AV} {u : Value}, (∀ l, x ≠ .tup l) → VR ρ3 x u → VR ρ' (x.ren1 τ) u := by
    intro x u hx q
    rw [VR_VR1 hx] at q
    refine VR.of_VR1 ?_ (VR1.ren hτ q)
    intro l e
    cases x <;> simp [AV.ren1, AV.renL] at e
    exact hx _ rfl
  have main : (∀ p, rps ≠ [p]) → VR ρ' (resH ((putP rps r.1).map (AV.ren1 τ))) v' := by
    intro hne
    have hl : (putP rps r.1).length = rps.length := putP_length rps r.1
    cases v
    case tup vs =>
      obtain ⟨c, e, h2⟩ := hv
      have h3 := ha c.toList (by
        have : resLP rps (.tup vs) = vs := by
          unfold resLP; split
          · rename_i p; exact absurd rfl (hne p)
          · rfl
        rw [this]; exact VR_of_all h2)
      have h4 : resH ((putP rps r.1).map (AV.ren1 τ)) = .tup ((putP rps r.1).map (AV.ren1 τ)) := by
        unfold resH
        split
        · rename_i z hz
          have := congrArg List.length hz
          simp [hl] at this
          obtain ⟨p, rfl⟩ := List.length_eq_one_iff.1 this
          exact absurd rfl (hne p)
        · rfl
      rw [h4]
      refine ⟨c, e, ?_⟩
      have key : ∀ (l : List AV) (m : List Value), All2 (VR ρ3) l m → (∀ x, x ∈ l → ∀ t, x ≠ .tup t) → All2 (VR1 ρ') (l.map (AV.ren1 τ)) m := by
        intro l m q
        induction q with
        | nil => intro _; exact .nil
        | cons q _ ih =>
          intro hh
          refine .cons (VR1.ren hτ ?_) (ih fun x hx => hh x (by simp [hx]))
          rw [VR_VR1 (hh _ (by simp))] at q; exact q
      exact key _ _ h3 fun x hx => putP_nt hx
    all_goals
      exfalso
      have : ∀ x : AV, (∀ l, x ≠ .tup l) → resLP rps x = [.junk] := by
        intro x hx
        unfold resLP; split
        · rename_i p; exact absurd rfl (hne p)
        · split
          · exact absurd rfl (hx _)
          · rfl
      rw [this _ (fun _ e => by cases e)] at hd
      unfold getS at hd
      simp only at hd
      split at hd <;> first | cases hd; done | skip
      rw [Option.bind_eq_some_iff] at hd
      obtain ⟨x, hx, _⟩ := hd
      cases rps with
      | nil => simp [getP] at hx
      | cons p t => cases t with
        | nil => exact hne p rfl
        | cons p2 t =>
          simp only [getP] at hx
          rw [getP1_none] at hx; cases hx
  cases rps with
  | nil => exact main (fun p e => by cases e)
  | cons p t =>
    cases t with
    | cons p2 t => exact main (fun p e => by cases e)
    | nil =>
      have h3 := ha [v'] (.cons hv .nil)
      have e : putP [p] r.1 = [(putP1 p (PT []) r.1).1] := rfl
      rw [e] at h3 ⊢
      cases h3 with
      | cons q _ => exact hvr putP1_nt q

/-- A contract with effects holds. -/
theorem mkFCH_ok {E : Env} {d n0 : Nat} {g : FuncId} {fn : Func} {c : Code} {ps : List Pat} {hs : List HPat} {rps : List Pat} {rhs : List HPat} {run : Nat → PT ps × HT hs → Option (PT rps × HT rhs)}
    (hE : EnvOK E) (hmix : E.P.follows .mixedOrders = true) (hN : NamesOK E.P) (hfn : E.P.funcs[g]? = some fn) (hbd : fn.body = some c) (hL : LoopsOK E d c) (hn : E.n0 = n0)
    (hok : okH n0 ps hs rps rhs = true)
    (hrun : ∀ t, run E.N t = evFn E (d + 1) g (putP ps t.1) (putH hs t.2) (decH n0 rps rhs)) : FCOK E.P E.N g (mkFCH n0 ps hs rps rhs run) :=
  .body fn hfn (hN g fn hfn) (by rw [hbd]; rfl) fun as hm h ρ w B vs t ks r ha hr hmask hd hrn => by
    have hdg : (if headsB n0 (sigS 0 ps hs as hm) hm = true then (getS false 0 ps hs as hm).map fun t => (t, (List.range n0).map (keyAt (sigS 0 ps hs as hm)) ++ rowKeys (sigS 0 ps hs as hm) n0 (hs.drop n0)) else none) = some (t, ks) := hd
    split at hdg
    case isFalse => cases hdg
    rename_i hheads
    obtain ⟨t1, hd', e⟩ := Option.map_eq_some_iff.1 hdg
    obtain rfl : t1 = t := (Prod.mk.inj e).1
    have hks := (Prod.mk.inj e).2
    clear e
    simp only [okH, okP, Bool.and_eq_true, decide_eq_true_eq] at hok
    obtain ⟨⟨⟨⟨⟨⟨hp1, hp2⟩, ⟨hp3, hp4⟩⟩, hl1⟩, hl2⟩, hcl⟩, hpl0⟩ := hok
    have hrm := hr.mask hmask
    generalize hσ : sigS 0 ps hs as hm = σ at hks hheads
    -- what the callee may write
    have hmet : ∀ (i : Nat) (p : HPat), hs[i]? = some p → (∀ qs, p = .cells qs → ∃ q cs, sigAt σ i = some (.key q) ∧ hm[q]? = some (.cells cs)) ∧ (∀ e sh, p = .ext e sh → ∀ q, sigAt σ i = some (.key q) → ∃ e' sh' xs, hm[q]? = some (.ext e' sh' xs)) ∧ (∀ ps, p = .rcells ps → ∀ q, sigAt σ i = some (.key q) → ∃ cs, hm[q]? = some (.rcells cs)) ∧ (∀ e e2 sh sh2, p = .mixe e e2 sh sh2 → ∀ q, sigAt σ i = some (.key q) → ∃ e' e2' sh' sh2' xs, hm[q]? = some (.mixe e' e2' sh' sh2' xs)) := by
      intro i p hi
      have hd2 := hd'
      unfold getS at hd2
      simp only [hσ] at hd2
      split at hd2 <;> first | cases hd2; done | skip
      simp only [Option.bind_eq_some_iff, Option.map_eq_some_iff] at hd2
      obtain ⟨_, _, z, hz, _⟩ := hd2
      have := getH_met hz i p hi
      simpa using this
    obtain ⟨own, hownd⟩ : ∃ own : Nat → Prop, own = fun b => ∃ c q b0 rr, c < hs.length ∧ sigAt σ c = some (.key q) ∧ hm[q]? = some b0 ∧ ρ q = some rr ∧ ownB b0 rr = some b := ⟨_, rfl⟩
    have hown : ∀ b, own b → ¬ B.all b := by
      rw [hownd]
      rintro b ⟨c, q, b0, rr, _, _, h2, h3, h4⟩
      exact (hrm.own_lt h2 h3 h4).1
    have hI : Into false w B ⟨B.k, fun b => b < w.heap.size ∧ ¬ own b, []⟩ ρ (sigS 0 ps hs as hm) hs.length hm := by
      rw [hσ]
      refine ⟨fun _ hb => hb, fun b hb => ?_, nofun, fun _ c q b0 rr g hc h1 h2 h3 h4 hall => ?_⟩
      · rcases hb with hb | hb
        · exact hrm.base b (.inl hb)
        · exact Old.all_iff.2 hb.1
      · rcases hall with hk | hf
        · exact (hrm.own_lt h2 h3 h4).1 (.inl hk)
        · exact hf.2 (by rw [hownd]; exact ⟨c, q, b0, rr, hc, h1, h2, h3, h4⟩)
    obtain ⟨hr1, ha1⟩ := getS_HRC (weak := false) (fun e => by cases e) hp2 hp1 hI hd' hrm
    rw [hσ] at hr1 ha1
    have hr' : evFn E (d + 1) g (putP ps t1.1) (putH hs t1.2) (decH n0 rps rhs) = some r := (hrun t1).symm.trans hrn
    refine evFn_top hE hmix (fun r B W => evFn_ok hE hmix hN d B W r) hr' (fun fn' c' h1 h2 => ?_) (ha1 _ ha) hr1.x (Kp.refl _ _) fun v h'' hdec ρ2 v' w' hkeep hv hh' hb' => ?_
    · rw [hfn] at h1; obtain rfl := Option.some.inj h1
      rw [hbd] at h2; obtain rfl := Option.some.inj h2
      exact hL
    refine ⟨v', rfl, hb'.mono fun b hb => ?_, fun key h' hfr hpl => ?_⟩
    · rcases hb with hb | hb
      · exact .inl hb
      · exact .inr ⟨Old.all_iff.1 (hr.base b (.inr hb)), fun hw => hown b hw (.inr hb)⟩
    have hdec' : getS false n0 rps rhs (resLP rps v) (fzHS (sigS n0 rps rhs (resLP rps v) h'') 0 rhs h'') = some r := hdec
    replace hh' := HX.fzHS (σ := sigS n0 rps rhs (resLP rps v) h'') rhs 0 hh'
    generalize fzHS (sigS n0 rps rhs (resLP rps v) h'') 0 rhs h'' = h'' at hdec' hh'
    obtain ⟨K2, hs2, hq2⟩ := hh'
    obtain ⟨hr3, ha3⟩ := getS_HR (weak := false) (fun e => by cases e) hp4 hp3 hdec' hq2
    generalize hσ2 : sigS n0 rps rhs (resLP rps v) h'' = σ2 at hr3 ha3
    have hbl := putH_length rhs r.2
    obtain ⟨ρ3, hρ3⟩ : ∃ ρ3, ρ3 = renOf ρ2 σ2 rhs.length := ⟨_, rfl⟩
    rw [← hρ3] at hr3 ha3
    obtain ⟨ρ', hρ'⟩ : ∃ ρ' : Ren, ρ' = fun k => if key ≤ k ∧ k < key + (rhs.length - n0) then ρ3 (n0 + (k - key)) else ρ k := ⟨_, rfl⟩
    have hnbl : ((mkFCH n0 ps hs rps rhs run).nb ks key r).length = rhs.length - n0 := by simp [mkFCH, hbl]
    rw [hnbl] at hfr
    have hle : ρ.le ρ' := by
      intro k rv hk
      rw [hρ']; dsimp only
      split
      · rename_i hin
        have := hfr (k - key) (by omega)
        rw [show key + (k - key) = k by omega] at this
        rw [this] at hk; cases hk
      · exact hk
    have hoth : ∀ k, (∀ j, j < rhs.length - n0 → k ≠ key + j) → ρ' k = ρ k := by
      intro k hk
      rw [hρ']; dsimp only
      rw [if_neg]
      rintro ⟨h1, h2⟩
      exact hk (k - key) (by omega) (by omega)
    have hkl : (ks.take n0).length = n0 := by rw [← hks]; simp
    have hcells : ∀ j, j < n0 → ∃ q rv, sigAt σ j = some (.key q) ∧ ρ q = some rv ∧ (ks.take n0).getD j 0 = q := by
      intro j hj
      have hg := List.all_eq_true.1 hheads j (List.mem_range.2 hj)
      cases hs1 : sigAt σ j with
      | none => rw [hs1] at hg; cases hg
      | some kr =>
        rw [hs1] at hg
        cases kr with
        | nil => cases hg
        | key q =>
          dsimp only at hg
          unfold thereA at hg
          cases hq : hm[q]? with
          | none => rw [hq] at hg; cases hg
          | some b =>
            rw [hq] at hg
            rcases hrm.blk q b hq with e | ⟨rv, h3, _⟩
            · subst e; cases hg
            · refine ⟨q, rv, rfl, h3, ?_⟩
              rw [← hks]
              simp [List.getD, hj, keyAt, hs1]
    have h0 : ∀ j, j < n0 → ρ3 j = ρ ((ks.take n0).getD j 0) := by
      intro j hj
      obtain ⟨q, rv, h1, h2, h3⟩ := hcells j hj
      have h4 : ρ2 j = some rv := hkeep.pre j rv (by rw [hn]; exact hj) (by rw [renOf_key h1 (by omega)]; exact h2)
      rw [h3, h2, hρ3, renOf_key (k := j) (by rw [← hσ2]; exact sigS_pre hj) (by omega)]
      exact h4
    have h1 : ∀ j, n0 ≤ j → j < (putH rhs r.2).length → ρ' (key + (j - n0)) = ρ3 j := by
      intro j h1 h2
      rw [hρ']; dsimp only
      rw [if_pos (by omega)]
      congr 1; omega
    have hτ : ∀ j rv, ρ3 j = some rv → ρ' (tauH n0 ks key j) = some rv := by
      intro j rv hj
      rw [← tau_take]
      unfold tauH
      split
      · rename_i hlt; rw [h0 j hlt] at hj; exact hle _ _ hj
      · rename_i hge
        have hlt : j < (putH rhs r.2).length := by
          apply Nat.lt_of_not_le; intro hle'
          rw [hr3.fresh j hle'] at hj; cases hj
        rw [h1 j (by omega) hlt]; exact hj
    refine ⟨ρ', hle, fun k hk => hoth k (fun j hj => hk j (by rw [hnbl]; exact hj)), ?_, back_ok (ks := ks.take n0) (gone := ks.drop n0) (own := own) hr hown ?_ hs2 hb' hr3 hkl (by omega) h0 h1 hle (fun k hk => hoth k (fun j hj => hk j (by rw [hbl]; exact hj))) ?_⟩
    · exact resH_ok hdec' hv ha3 hτ
    · intro k b rv g hk hrk ho hw
      rw [hownd] at hw
      obtain ⟨c, q, b0, rr, hc, e1, e2, e3, e4⟩ := hw
      have hkq : k = q := by
        apply Classical.byContradiction
        intro hne
        rcases hmask.get q b0 e2 with e | e
        · subst e; cases rr <;> cases e4
        · exact hr.sep k b q b0 rv rr g hne hk e hrk e3 ho e4
      subst hkq
      have hpc : hs[c]? = some hs[c] := List.getElem?_eq_getElem hc
      by_cases hcn : c < n0
      · obtain ⟨q', _, f1, _, f3⟩ := hcells c hcn
        rw [e1] at f1
        have : q' = k := by injection f1 with f1; injection f1 with f1; exact f1.symm
        refine .inl ?_
        rw [← this, ← f3, List.getD, List.getElem?_eq_getElem (by omega)]
        exact List.getElem_mem _
      · have hpl2 := List.all_eq_true.1 hpl0 hs[c] (by rw [List.mem_drop_iff_getElem]; exact ⟨c - n0, by omega, by congr 1; omega⟩)
        cases hpp : hs[c] with
        | rows e sh =>
          refine .inr ?_
          rw [← hks, List.drop_left' (by simp)]
          exact rowKeys_mem (c := n0) (i := c - n0) (by rw [List.getElem?_drop, show n0 + (c - n0) = c by omega, hpc, hpp]) (by rw [show n0 + (c - n0) = c by omega]; exact e1)
        | ext e sh =>
          obtain ⟨_, _, _, f⟩ := (hmet c _ hpc).2.1 e sh hpp k e1
          rw [e2] at f
          obtain rfl := Option.some.inj f
          cases rr <;> cases e4
        | rcells ps' =>
          obtain ⟨_, f⟩ := (hmet c _ hpc).2.2.1 ps' hpp k e1
          rw [e2] at f
          obtain rfl := Option.some.inj f
          cases rr <;> cases e4
        | mixe e e3 sh sh2 =>
          obtain ⟨_, _, _, _, _, f⟩ := (hmet c _ hpc).2.2.2 e e3 sh sh2 hpp k e1
          rw [e2] at f
          obtain rfl := Option.some.inj f
          cases rr <;> cases e4
        | _ => rw [hpp] at hpl2; simp [HPat.plain] at hpl2
    · rw [tau_take]
      have : applyU h ((mkFCH n0 ps hs rps rhs run).up ks key r) = applyU h ((ks.take n0).zip (((putH rhs r.2).take n0).map (AB.ren (tauH n0 ks key))) ++ (ks.drop n0).map fun k => (k, .gone)) := rfl
      rw [← this]; exact hpl

/-- A FUNCTION that changes what it is handed. -/
theorem eff_ok {P : Program} {l : List (Nat × FC)} {ls : List (Nat × LC)} {N g n n0 : Nat} {ps : List Pat} {hs : List HPat} {rps : List Pat} {rhs : List HPat} {f : Nat → PT ps × HT hs → Option (PT rps × HT rhs)} (hF : Facts P) (hO : OrcOK P l N) (hb : hasBody P g = true) (ha : okH n0 ps hs rps rhs = true)
    {pins : List (Nat × Nat)} {rs0 : List (Nat × RC)} (hL : LoopsFor (mkEnvX n0 pins P l ls N rs0) P g n)
    (hrun : ∀ t : PT ps × HT hs, f N t = evFn (mkEnvX n0 pins P l ls N rs0) 13 g (putP ps t.1) (putH hs t.2) (decH n0 rps rhs)) : FCOK P N g (mkFCH n0 ps hs rps rhs f) := by
  obtain ⟨fn, h1, h2⟩ := body_of hb
  exact mkFCH_ok (E := mkEnvX n0 pins P l ls N rs0) (d := 12) hO hF.mix hF.names h1 h2 hL.ok rfl ha hrun
/-- A contract that tells nothing. -/
theorem eff_none {P : Program} {N g n0 : Nat} {ps : List Pat} {hs : List HPat} {rps : List Pat} {rhs : List HPat} {f : Nat → PT ps × HT hs → Option (PT rps × HT rhs)} (hF : Facts P) (hb : hasBody P g = true) (hrun : ∀ t, f N t = none) : FCOK P N g (mkFCH n0 ps hs rps rhs f) := by
  obtain ⟨fn, h1, h2⟩ := body_of hb
  refine .body fn h1 (hF.names g fn h1) (by rw [h2]; rfl) fun as hm h ρ w B vs t ks r ha hr hmask hd hrn => ?_
  exact absurd ((hrun t).symm.trans hrn) (by simp)
end Go.Ev
