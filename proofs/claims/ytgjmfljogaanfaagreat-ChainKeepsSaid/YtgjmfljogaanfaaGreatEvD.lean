/- Loads and stores: the machine's do what the abstract ones say. -/
import Derived.Test.YtgjmfljogaanfaaGreatEvC
import Derived.Laws.CopyOwn
namespace Go.Ev
open Go.RowKit

theorem info_of_underlying {P : Program} {t : TypeId} {d : TypeDesc} (h : P.underlying t = some d) : ∃ i, P.info? t = some i := by
  cases hi : P.info? t with
  | none => simp [Program.underlying, hi] at h
  | some i => exact ⟨i, rfl⟩
theorem run_sizeOf {P : Program} {t : TypeId} {i : TypeInfo} (h : P.info? t = some i) (w : World) : (sizeOf t).run P w = .ok (P.cellsOf t) w := by
  simp [sizeOf, typeInfo, h, Program.cellsOf]
theorem run_isAgg {P : Program} {t : TypeId} {d : TypeDesc} (h : P.underlying t = some d) (w : World) : (isAgg t).run P w = .ok (aggD d) w := by
  unfold isAgg
  rw [Sem.run_bind, run_underlying h w]
  cases d <;> simp [aggD]
theorem run_zeroValue {P : Program} {t : TypeId} {i : TypeInfo} {z : Value} (h : P.info? t = some i) (hz : i.zero = some z) (w : World) : (zeroValue t).run P w = .ok z w := by
  simp [zeroValue, typeInfo, h, hz]
theorem add_add (a : Addr) (x j : Nat) : (a.add x).add j = a.add (x + j) := by
  unfold Addr.add
  by_cases hx : x = 0
  · subst hx; simp
  · by_cases hj : j = 0
    · subst hj; simp
    · rw [if_neg hx, if_neg hj, if_neg (by omega)]; simp [Nat.add_assoc]

/-- Cells that lie one behind the other. -/
def Lie (w : World) (ad : Addr) (vs : List Value) : Prop := ∀ j u, vs[j]? = some u → w.cell? (ad.add j) = some u

theorem load_ok {P : Program} {t : TypeId} {cs : List AV} {v : AV} {ρ : Ren} {w : World} {ad : Addr} {vs : List Value} (hc : ofCells P t cs = some v)
    (hlen : cs.length = P.cellsOf t) (hr : All2 (LR ρ) cs vs) (hl : Lie w ad vs) : ∃ v', (loadVar t ad).run P w = .ok v' w ∧ VR ρ v v' := by
  unfold ofCells aggB at hc
  cases hu : P.underlying t with
  | none => simp [hu] at hc
  | some d =>
    obtain ⟨i, hi⟩ := info_of_underlying hu
    simp only [hu, Option.map_some] at hc
    cases hd : aggD d with
    | true =>
      simp only [hd, Option.some.injEq] at hc
      subst hc
      refine ⟨.agg vs.toArray, ?_, vs.toArray, rfl, by simpa using hr⟩
      have h1 := run_loadCells_list (P := P) w ad vs hl
      rw [← hr.length, hlen] at h1
      simp [loadVar, run_isAgg hu, hd, run_sizeOf hi, h1]
    | false =>
      simp only [hd] at hc
      cases hr with
      | nil => simp at hc
      | cons r q =>
        cases q with
        | cons _ _ => simp at hc
        | nil =>
          simp only [Option.some.injEq] at hc
          subst hc
          refine ⟨_, ?_, VR.of_LR r⟩
          have h0 := hl 0 _ rfl
          simp only [Addr.add, if_true] at h0
          simp [loadVar, run_isAgg hu, hd, h0]

theorem toNat_get {α : Type} (l : List α) (i : Nat) (d : α) : l.getD i d = (l[i]?).getD d := by simp [List.getD]

/-- A read of abstract cells is a read of the machine's. -/
theorem loadA_ok {hm : List AB} {addr : AV} {size : Nat} {cs : List AV} {ρ : Ren} {v' : Value} {w : World} {B : KS} (hl : loadA hm addr size = some cs) (hv : VR ρ addr v') (hr : HR w B ρ hm) :
    ∃ ad vs, v' = .pointer (some ad) ∧ Lie w ad vs ∧ All2 (LR ρ) cs vs ∧ cs.length = size := by
  cases addr <;> simp only [loadA, reduceCtorEq] at hl
  case ptr key off =>
    obtain ⟨b, hb, rfl⟩ := hv
    cases hk : hm[key]? with
    | none => simp [hk] at hl
    | some blk =>
      cases blk <;> simp only [hk, reduceCtorEq] at hl
      all_goals
       rename_i cs0
       split at hl <;> simp only [Option.some.injEq, reduceCtorEq] at hl
       rename_i hle
       subst hl
       rcases hr.blk key _ hk with e | ⟨r, hr', hB⟩
       · cases e
       rw [hb] at hr'; obtain rfl := Option.some.inj hr'
       obtain ⟨h1, c, T, h2, h3⟩ := hB
       refine ⟨_, (c.toList.drop off).take size, rfl, fun j u hu => ?_, (h3.drop off).take size, by simp; omega⟩
       rw [Addr.add_lit, cell_of_row w b (off + j) c T (0, 0) h2]
       rw [List.getElem?_take] at hu
       split at hu
       · rw [List.getElem?_drop] at hu; simpa using hu
       · cases hu
  case elt key i sz c =>
    obtain ⟨ad, n, cp, hb, hin, rfl⟩ := hv
    cases hk : hm[key]? with
    | none => simp [hk] at hl
    | some blk =>
      rcases hr.blk key _ hk with e | ⟨r, hr', hB⟩
      · subst e; simp [hk] at hl
      rw [hb] at hr'; obtain rfl := Option.some.inj hr'
      cases blk <;> simp only [hk, reduceCtorEq] at hl
      case rows e sh xs =>
        split at hl <;> simp only [Option.some.injEq, reduceCtorEq] at hl
        rename_i hle
        obtain ⟨hle, hsz⟩ := hle
        subst hl; subst hsz
        obtain ⟨h0, h12, hbo⟩ := hB
        rcases h12 with ⟨h1, h2⟩ | ⟨_, _, _, e1⟩
        case inr => cases e1; omega
        rcases h2 with ⟨e1, _⟩ | ⟨g, o0, cap, cur, e1, hg, hnc, hcm, hcs, htake⟩
        · cases e1
        cases e1
        refine ⟨_, ((Row.vals sh (xs.getD i (Row.dflt sh))).drop c).take size, rfl, fun j u hu => ?_, ((Row.rel ρ sh _).drop c).take size, by simp [Row.length_toAVs]; omega⟩
        rw [List.getElem?_take] at hu
        split at hu
        · rename_i hj
          rw [List.getElem?_drop, ← flat_get sh xs i (c + j) hin (by omega)] at hu
          rw [Addr.add_lit, Addr.add_lit, cell_of_row w g _ cur e (0, 0) hg, Nat.add_assoc]
          rw [← htake, List.getElem?_take, List.getElem?_drop] at hu
          split at hu
          · simpa [Nat.add_assoc] using hu
          · cases hu
        · cases hu
      case ext e sh xs =>
        split at hl <;> simp only [Option.some.injEq, reduceCtorEq] at hl
        rename_i hle
        obtain ⟨hle, hsz⟩ := hle
        subst hl; subst hsz
        obtain ⟨h0, a0, c0, e1, _, hcell⟩ := hB
        cases e1
        refine ⟨_, ((Row.vals sh (xs.getD i (Row.dflt sh))).drop c).take size, rfl, fun j u hu => ?_, ((Row.rel ρ sh _).drop c).take size, by simp [Row.length_toAVs]; omega⟩
        rw [List.getElem?_take] at hu
        split at hu
        · rename_i hj
          rw [List.getElem?_drop, ← flat_get sh xs i (c + j) hin (by omega)] at hu
          obtain ⟨ad', ha, hc, _⟩ := hcell _ u hu
          obtain rfl := Option.some.inj ha
          rw [add_add, Nat.add_assoc]; exact hc
        · cases hu

/-- A read of a row that lies in a row of rows. -/
theorem All2.getD' {α β : Type} {R : α → β → Prop} {l : List α} {m : List β} (a : All2 R l m) {i : Nat} (d : α) (h : i < m.length) : ∃ u, m[i]? = some u ∧ R (l.getD i d) u := by
  obtain ⟨u, hu, hr⟩ := a.get (i := i) (x := l[i]'(by rw [a.length]; exact h)) (List.getElem?_eq_getElem _)
  exact ⟨u, hu, by simpa [List.getD, List.getElem?_eq_getElem (show i < l.length by rw [a.length]; exact h)] using hr⟩
theorem nestA_ok {hm : List AB} {addr : AV} {b : AB} {ρ : Ren} {v' : Value} {w : World} {B : KS} (hl : nestA hm addr = some b) (hv : VR ρ addr v') (hr : HR w B ρ hm) :
    ∃ ad u e2 sh xs, v' = .pointer (some ad) ∧ w.cell? ad = some u ∧ b = .ext e2 sh xs ∧ 0 < sh.length ∧ ExtR w B sh xs u := by
  cases addr <;> simp only [nestA, reduceCtorEq] at hl
  case elt key i sz c =>
    obtain ⟨ad, n, cp, hb, hin, rfl⟩ := hv
    cases hk : hm[key]? with
    | none => simp [hk] at hl
    | some blk =>
      rcases hr.blk key _ hk with e | ⟨r, hr', hB⟩
      · subst e; simp [hk] at hl
      rw [hb] at hr'; obtain rfl := Option.some.inj hr'
      cases blk <;> simp only [hk, reduceCtorEq] at hl
      case nest e e2 sh xss =>
        split at hl <;> simp only [Option.some.injEq, reduceCtorEq] at hl
        rename_i hsz
        obtain ⟨rfl, rfl⟩ := hsz
        obtain ⟨h0, us, hus, h12, hbo⟩ := hB
        rcases h12 with ⟨h1, h2⟩ | ⟨_, _, _, e1⟩
        case inr => cases e1; omega
        rcases h2 with ⟨e1, _⟩ | ⟨g, o0, cap, cur, e1, hg, hnc, hcm, hcs, htake⟩
        · cases e1
        cases e1
        obtain ⟨u, hu, hx⟩ := hus.getD' [] hin
        refine ⟨_, u, e2, sh, _, rfl, ?_, hl.symm, h0, hx⟩
        rw [Addr.add_lit, cell_of_row w g _ cur e (0, 0) hg]
        rw [← htake, List.getElem?_take, List.getElem?_drop] at hu
        split at hu
        · simpa using hu
        · cases hu

theorem flatten_get {α : Type} {s : Nat} : ∀ {us : List (List α)} {i j : Nat} {row : List α}, (∀ r, r ∈ us → r.length = s) → us[i]? = some row → j < s → us.flatten[i * s + j]? = row[j]?
  | [], i, j, row, _, h, _ => by simp at h
  | r :: us, 0, j, row, hl, h, hj => by
    simp only [List.getElem?_cons_zero, Option.some.injEq] at h
    subst h
    have := hl r (by simp)
    rw [List.flatten_cons, List.getElem?_append_left (by omega)]
    simp
  | r :: us, i + 1, j, row, hl, h, hj => by
    have h1 := hl r (by simp)
    rw [List.flatten_cons, List.getElem?_append_right (by rw [h1, Nat.add_mul]; omega), h1]
    have e : (i + 1) * s + j - s = i * s + j := by rw [Nat.add_mul]; omega
    rw [e]
    exact flatten_get (fun x hx => hl x (by simp [hx])) (by simpa using h) hj
theorem MixR.len {w : World} {B : KS} {sh sh2 : List SK} {xs : List (Row sh × List (Row sh2))} {us : List (List Value)} (a : All2 (MixR w B sh sh2) xs us) : ∀ r, r ∈ us → r.length = sh.length + 1 := by
  intro r hr
  obtain ⟨i, hi, rfl⟩ := List.mem_iff_getElem.1 hr
  obtain ⟨x, _, u, h1, _⟩ := a.get' (List.getElem?_eq_getElem hi)
  rw [h1]; simp [Row.length_vals]
theorem mixGet_ok {sh sh2 : List SK} {e2 : TypeId} {sz c i n : Nat} {xs : List (Row sh × List (Row sh2))} {cs : List AV} {b : AB} {us : List (List Value)} {w : World} {B B' : KS} {ad : Addr} {cp : Nat}
    (hg : mixGet sh e2 sh2 sz c i xs = some (cs, b)) (hus : All2 (MixR w B sh sh2) xs us) (hk : KeptR w B' (.slice (some ad) n cp) us.length us.flatten) (hin : i < n) :
    ∃ x u, cs = Row.toAVs sh (x : Row sh × List (Row sh2)).1 ∧ b = .ext e2 sh2 x.2 ∧ ExtR w B sh2 x.2 u ∧ Lie w (ad.add (i * sz + c)) (Row.vals sh x.1 ++ [u]) := by
  unfold mixGet at hg
  split at hg <;> simp only [Option.some.injEq, Prod.mk.injEq, reduceCtorEq] at hg
  rename_i hsz
  obtain ⟨rfl, rfl⟩ := hsz
  obtain ⟨rfl, rfl⟩ := hg
  obtain ⟨a, c', e1, hc, hcell⟩ := hk
  cases e1
  obtain ⟨row, hrow, u, hru, hx⟩ := hus.getD' (Row.dflt sh, []) hin
  refine ⟨_, u, rfl, rfl, hx, fun j v hv => ?_⟩
  rw [← hru] at hv
  have hjl : j < sh.length + 1 := by
    have h1 := (List.getElem?_eq_some_iff.1 hv).1
    rw [MixR.len hus row (List.mem_of_getElem? hrow)] at h1
    exact h1
  rw [← flatten_get (MixR.len hus) hrow hjl] at hv
  obtain ⟨ad', ha, hcc, _⟩ := hcell _ v hv
  cases ha
  rw [add_add, Nat.add_zero]; exact hcc
theorem kept_addr {sh sh2 : List SK} {xs : List (Row sh × List (Row sh2))} {us : List (List Value)} {w : World} {B B' : KS} {v : Value} (hus : All2 (MixR w B sh sh2) xs us) (hk : KeptR w B' v us.length us.flatten) :
    ∃ ad c, v = .slice ad us.length c ∧ (0 < us.length → ∃ x, ad = some x) := by
  obtain ⟨a, c, e1, _, hcell⟩ := hk
  refine ⟨a, c, e1, fun hp => ?_⟩
  cases us with
  | nil => simp at hp
  | cons r us =>
    have h1 := MixR.len hus r (by simp)
    have hpos : 0 < (r :: us).flatten.length := by rw [List.flatten_cons, List.length_append, h1]; omega
    obtain ⟨ad, ha, _⟩ := hcell 0 _ (List.getElem?_eq_getElem hpos)
    exact ⟨ad, ha⟩
theorem mixA_ok {hm : List AB} {addr : AV} {cs : List AV} {b : AB} {ρ : Ren} {v' : Value} {w : World} {B : KS} (hl : mixA hm addr = some (cs, b)) (hv : VR ρ addr v') (hr : HR w B ρ hm) :
    ∃ ad e2 sh sh2 x u, v' = .pointer (some ad) ∧ cs = Row.toAVs sh (x : Row sh × List (Row sh2)).1 ∧ b = .ext e2 sh2 x.2 ∧ 0 < sh2.length ∧ ExtR w B sh2 x.2 u ∧ Lie w ad (Row.vals sh x.1 ++ [u]) := by
  cases addr <;> simp only [mixA, reduceCtorEq] at hl
  case elt key i sz c =>
    obtain ⟨ad, n, cp, hb, hin, rfl⟩ := hv
    cases hk : hm[key]? with
    | none => simp [hk] at hl
    | some blk =>
      rcases hr.blk key _ hk with e | ⟨r, hr', hB⟩
      · subst e; simp [hk] at hl
      rw [hb] at hr'; obtain rfl := Option.some.inj hr'
      cases blk <;> simp only [hk, reduceCtorEq] at hl
      case mix e e2 sh sh2 xs =>
        obtain ⟨h0, us, hus, hO⟩ := hB
        obtain ⟨x, u, h1, h2, h3, h4⟩ := mixGet_ok hl hus (hO.kept (B' := ⟨fun _ => True, fun _ => True, []⟩) fun _ _ => trivial) hin
        exact ⟨_, e2, sh, sh2, x, u, rfl, h1, h2, h0, h3, h4⟩
      case mixe e e2 sh sh2 xs =>
        obtain ⟨h0, us, hus, hO⟩ := hB
        obtain ⟨x, u, h1, h2, h3, h4⟩ := mixGet_ok hl hus hO hin
        exact ⟨_, e2, sh, sh2, x, u, rfl, h1, h2, h0, h3, h4⟩

theorem same_setRow (w : World) (g : Nat) (cs : Array Value) : Same w (w.setRow g cs) (some g) := fun k _ hne => setRow_other w g k cs (fun e => hne (by rw [e]))
theorem take_splice {α : Type} (l vs : List α) (off n : Nat) (h1 : off + vs.length ≤ n) (h2 : n ≤ l.length) :
    (l.take off ++ vs ++ l.drop (off + vs.length)).take n = (l.take n).take off ++ vs ++ (l.take n).drop (off + vs.length) := by
  apply List.ext_getElem?
  intro j
  simp only [List.getElem?_append, List.length_append, List.length_take, List.getElem?_take, List.getElem?_drop]
  repeat' split
  all_goals first | rfl | omega | (congr 1; omega) | (exact List.getElem?_eq_none (by omega)) | (exact (List.getElem?_eq_none (by omega)).symm) | skip

theorem drop_splice {α : Type} (l vs : List α) (o p : Nat) (h : o + p ≤ l.length) :
    (l.take (o + p) ++ vs ++ l.drop (o + p + vs.length)).drop o = (l.drop o).take p ++ vs ++ (l.drop o).drop (p + vs.length) := by
  apply List.ext_getElem?
  intro j
  simp only [List.getElem?_append, List.length_append, List.length_take, List.length_drop, List.getElem?_take, List.getElem?_drop]
  repeat' split
  all_goals first | rfl | omega | (congr 1; omega) | (exact List.getElem?_eq_none (by omega)) | (exact (List.getElem?_eq_none (by omega)).symm) | skip

theorem kp_setRow {K : KS} {w : World} {b : Nat} (h : ¬ K.all b) (c : Array Value) : Kp K w (w.setRow b c) := by
  have hk := below_setRow (Below.refl b w) (Nat.le_refl b) c
  exact ⟨hk.os, hk.tape, hk.output, hk.size, fun k hk' => setRow_other w b k c (fun e => h (e ▸ hk'))⟩

/-- A store into abstract cells is a store into the machine's. -/
theorem storeA_ok {P : Program} {hm h : List AB} {addr : AV} {vs : List AV} {key : Nat} {blk : AB} {ρ : Ren} {v' : Value} {us : List Value} {w : World} {B : KS}
    (hl : storeA hm addr vs = some (key, blk)) (hv : VR ρ addr v') (hr : HR w B ρ h) (hmask : Mask hm h) (hus : All2 (LR ρ) vs us) :
    ∃ ad w', v' = .pointer (some ad) ∧ (storeCells ad us).run P w = .ok () w' ∧ Kp B w w' ∧ HR w' B ρ (h.set key blk) := by
  cases addr <;> simp only [storeA, reduceCtorEq] at hl
  case ptr k off =>
    obtain ⟨b, hb, rfl⟩ := hv
    cases hk : hm[k]? with
    | none => simp [hk] at hl
    | some blk0 =>
      cases blk0 <;> simp only [hk, reduceCtorEq] at hl
      rename_i cs0
      split at hl <;> simp only [Option.some.injEq, reduceCtorEq, Prod.mk.injEq] at hl
      rename_i hle
      obtain ⟨rfl, rfl⟩ := hl
      have hk' : h[k]? = some (.cells cs0) := (hmask.get k _ hk).resolve_left (by simp)
      rcases hr.blk k _ hk' with e | ⟨r, hr', hB⟩
      · cases e
      rw [hb] at hr'; obtain rfl := Option.some.inj hr'
      obtain ⟨h1, c, T, h2, h3⟩ := hB
      have hlen := h3.length
      have hst := run_storeCells_at P b off T us 0 c w h2 (by rw [← hus.length, ← Array.length_toList, ← hlen]; omega) (fun v hv' => by
        obtain ⟨i, hi⟩ := List.getElem?_of_mem hv'
        obtain ⟨x, _, hx⟩ := hus.get' hi
        exact hx.one)
      simp only [Nat.add_zero] at hst
      refine ⟨_, _, rfl, hst, kp_setRow h1 _, hr.upd hk' hb rfl rfl (same_setRow w b _) (by simp) ?_⟩
      refine ⟨h1, _, T, setRow_heap w b c _ T _ h2, ?_⟩
      exact h3.splice hus off
  case elt k i sz c =>
    obtain ⟨ad, n, cp, hb, hin, rfl⟩ := hv
    cases hk : hm[k]? with
    | none => simp [hk] at hl
    | some blk0 =>
      rw [hk] at hl
      cases blk0 <;> first | cases hl | skip
      rename_i e sh xs
      replace hl : (if c + vs.length ≤ sh.length ∧ sz = sh.length then
        match Row.ofAVs sh (splice (Row.toAVs sh (xs.getD i (Row.dflt sh))) c vs) with
        | some r => some (k, AB.rows e sh (xs.set i r))
        | none => none
        else none) = some (key, blk) := hl
      split at hl <;> first | cases hl; done | skip
      rename_i hle
      obtain ⟨hle, hsz⟩ := hle
      cases hof : Row.ofAVs sh (splice (Row.toAVs sh (xs.getD i (Row.dflt sh))) c vs) with
      | none => rw [hof] at hl; cases hl
      | some r =>
        rw [hof] at hl
        simp only [Option.some.injEq, Prod.mk.injEq] at hl
        obtain ⟨rfl, rfl⟩ := hl
        have hk' : h[k]? = some (.rows e sh xs) := (hmask.get k _ hk).resolve_left (by simp)
        rcases hr.blk k _ hk' with e' | ⟨r', hr', hB⟩
        · cases e'
        rw [hb] at hr'; obtain rfl := Option.some.inj hr'
        have hB0 := hB
        obtain ⟨h0, h12, hbo⟩ := hB
        rcases h12 with ⟨h1, h2⟩ | ⟨_, _, _, e1⟩
        case inr => cases e1; omega
        rcases h2 with ⟨e1, _⟩ | ⟨g, o0, cap, cur, e1, hg, hnc, hcm, hcs, htake⟩
        · cases e1
        cases e1
        subst hsz
        have hcap : cp ≠ 0 := by omega
        have hrb : rowBlk (.slice (some ⟨g, o0, none⟩) xs.length cp) = some g := by simp [rowBlk, hcap]
        have hfit : o0 + (i * sh.length + c) + us.length ≤ cur.size := by
          rw [hcs, ← hus.length]
          have : (i + 1) * sh.length ≤ cp * sh.length := Nat.mul_le_mul_right _ (by omega)
          rw [Nat.add_mul] at this
          omega
        have hst := run_storeCells_at P g (o0 + (i * sh.length + c)) e us 0 cur w hg (by omega) (fun v hv' => by
          obtain ⟨j, hj⟩ := List.getElem?_of_mem hv'
          obtain ⟨x, _, hx⟩ := hus.get' hj
          exact hx.one)
        simp only [Nat.add_zero] at hst
        refine ⟨⟨g, o0 + (i * sh.length + c), none⟩, _, by rw [Addr.add_lit], hst, kp_setRow (hbo g hrb) _, hr.upd hk' hb hrb hrb (same_setRow w g _) (by simp) ?_⟩
        refine ⟨h0, .inl ⟨flat_length _ _, .inr ⟨g, o0, cp, _, by simp, setRow_heap w g cur _ e _ hg, by simpa using hnc, hcm, ?_, ?_⟩⟩, hbo⟩
        · simp only [List.size_toArray, List.length_append, List.length_take, List.length_drop, Array.length_toList]
          omega
        · have hrow : Row.vals sh r = (Row.vals sh (xs.getD i (Row.dflt sh))).take c ++ us ++ (Row.vals sh (xs.getD i (Row.dflt sh))).drop (c + us.length) := by
            have e2 := Row.ofAVs_some hof
            have e3 : All2 (LR ρ) (Row.toAVs sh r) ((Row.vals sh (xs.getD i (Row.dflt sh))).take c ++ us ++ (Row.vals sh (xs.getD i (Row.dflt sh))).drop (c + us.length)) := by
              rw [← e2]; exact (Row.rel ρ sh _).splice hus c
            exact (Row.vals_of_rel e3).symm
          have hn : i * sh.length + c + us.length ≤ xs.length * sh.length := by
            rw [← hus.length]
            have : (i + 1) * sh.length ≤ xs.length * sh.length := Nat.mul_le_mul_right _ (by omega)
            rw [Nat.add_mul] at this
            omega
          simp only [List.length_set]
          rw [drop_splice _ _ _ _ (by rw [Array.length_toList]; exact Nat.le_trans (Nat.le_add_right _ _) hfit), take_splice _ _ _ _ hn (by have := Nat.mul_le_mul_right sh.length hnc; have e9 : cur.toList.length = cur.size := Array.length_toList; rw [List.length_drop, e9, hcs]; omega), htake, flat_set sh xs i r hin, hrow]
          have hfl := flat_length sh xs
          have hb1 : (i + 1) * sh.length ≤ xs.length * sh.length := Nat.mul_le_mul_right _ (by omega)
          rw [Nat.add_mul, Nat.one_mul] at hb1
          -- the row's own cells, in the whole
          have hseg : Row.vals sh (xs.getD i (Row.dflt sh)) = ((flat sh xs).drop (i * sh.length)).take sh.length := by
            apply List.ext_getElem?
            intro j
            rw [List.getElem?_take]
            split
            · rename_i hj; rw [List.getElem?_drop, flat_get sh xs i j hin hj]
            · rename_i hj; exact List.getElem?_eq_none (by rw [Row.length_vals]; omega)
          rw [hseg]
          apply List.ext_getElem?
          intro j
          have hul := hus.length
          simp only [List.getElem?_append, List.length_append, List.length_take, List.length_drop, List.getElem?_take, List.getElem?_drop, hfl]
          repeat' split
          all_goals first | rfl | omega | (congr 1; omega) | skip
end Go.Ev
