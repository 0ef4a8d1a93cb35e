/- The builtins len, append, min, max; '==' of structs; any operation at once. -/
import Derived.Test.YtgjmfljogaanfaaGreatEvF
import Derived.ChangeKeysEq
import Derived.Deep.AppendSrc
import Derived.Laws.StructEq
namespace Go.Ev
open Go.RowKit

theorem HR.worldRow {w w' : World} {B : KS} {ρ : Ren} {h : List AB} {row : Option Nat} (q : HR w B ρ h) (hs : Same w w' row) (hz : w.heap.size ≤ w'.heap.size) (hrow : ∀ g, row = some g → ¬ B.all g)
    (hno : ∀ g, row = some g → ∀ k b r, h[k]? = some b → ρ k = some r → ownB b r ≠ some g) : HR w' B ρ h :=
  ⟨fun k b hk => (q.blk k b hk).imp id fun ⟨r, hr, hb⟩ => ⟨r, hr, hb.same hs hrow q.base (fun g e => hno g e k b r hk hr)⟩, q.sep, q.fresh, fun k hk => Old.all_iff.2 (Nat.lt_of_lt_of_le (Old.all_iff.1 (q.base k hk)) hz)⟩

theorem append_room {P : Program} {w : World} {t ty e : TypeId} {i : TypeInfo} (ht : P.underlying t = some (.slice e)) (hi : P.info? e = some i) {g o0 sLen sCap : Nat} {cur : Array Value} (hg : w.heap[g]? = some (.cells cur e (0, 0)))
    {x : Value} {n : Nat} {news : List Value} (hs : Src P i.size t x n news w) (hroom : sLen + n ≤ sCap) (hfit : o0 + sLen * i.size + news.length ≤ cur.size) :
    (Builtin.append_ #[t, t] ty #[.slice (some ⟨g, o0, none⟩) sLen sCap, x]).run P w =
      .ok (.slice (some ⟨g, o0, none⟩) (sLen + n) sCap) (w.setRow g (cur.toList.take (o0 + sLen * i.size) ++ news ++ cur.toList.drop (o0 + sLen * i.size + news.length)).toArray) := by
  have hst := run_storeCells_at P g (o0 + sLen * i.size) e news 0 cur w hg (by simpa using hfit) hs.one
  simp only [Nat.add_zero] at hst
  simp [Builtin.append_, run_underlying ht, sizeOf, typeInfo, hi, hs.len, hroom, hs.cells, Addr.add_lit, hst]

theorem append_okV {P : Program} {w : World} {B : KS} {t ty e : TypeId} {i : TypeInfo} {zv : Value} {s : Nat} (ht : P.underlying t = some (.slice e)) (hi : P.info? e = some i) (hzv : i.zero = some zv) (hsz2 : i.size = s) (hsz : zv.cells.size = s)
    {v x : Value} {n m : Nat} {xs ys : List Value} (hown : Owns w B e s v n xs) (hyl : ys.length = m * s) (hs : Src P s t x m ys w)
    (hbytes : (n + m) * P.bytesOf e ≤ 140737488355328) (hn : n + m ≤ 140737488355328) (hB : Le B (Old w)) :
    ∃ v' w', (Builtin.append_ #[t, t] ty #[v, x]).run P w = .ok v' w' ∧ Owns w' B e s v' (n + m) (xs ++ ys) ∧ Same w w' (rowBlk v) ∧ Kp B w w' ∧
      (∀ g, rowBlk v' = some g → rowBlk v = some g ∨ w.heap.size ≤ g) := by
  have hby : P.bytesOf e = i.bytes := by simp [Program.bytesOf, hi]
  rw [hby] at hbytes
  rw [← hsz2] at hs
  have hxl : xs.length = n * s := by
    rcases hown.row with h | ⟨h1, h2, _⟩
    · exact h.1
    · rw [h1, h2]; simp
  have hl : (xs ++ ys).length = (n + m) * s := by rw [List.length_append, hxl, hyl, Nat.add_mul]
  have grow : ∀ (base : Option Addr) (cap : Nat), cap < n + m → v = .slice base n cap → (Builtin.firstCells i.size n (.slice base n cap)).run P w.drew = .ok xs.toArray w.drew →
      ∃ v' w', (Builtin.append_ #[t, t] ty #[v, x]).run P w = .ok v' w' ∧ Owns w' B e s v' (n + m) (xs ++ ys) ∧ Same w w' (rowBlk v) ∧ Kp B w w' ∧
      (∀ g, rowBlk v' = some g → rowBlk v = some g ∨ w.heap.size ≤ g) := by
    intro base cap hc hv hold
    have hr := run_append_grow_src (P := P) w t t ty e i zv ht hi hzv base n cap xs hold x m ys hs hc (by omega) (growslice_fits (by omega) hbytes)
    have hge := grownCap_ge w (n + m) cap e
    have hcm : grownCap w (n + m) cap e ≤ maxLen := grownCap_le_maxLen w _ cap e (by simp [maxLen]; omega)
    subst hv
    refine ⟨_, _, hr, ⟨.inl (ownsRowO_of (b := 0) ⟨hl, .inr ⟨w.heap.size, _, _, rfl, Nat.zero_le _, heap_alloc_new w.drew _, hge, hcm, ?_, ?_⟩⟩), fun g hg hb => by
      replace hg := rowBlk_own hg
      simp only [Value.ownBlock, Option.some.injEq] at hg; subst hg; exact Nat.lt_irrefl _ (Old.all_iff.1 (hB _ hb))⟩, fun k hk _ => heap_alloc_old w.drew _ k hk, (below_drew B w).trans ((below_alloc w.drew _).mono hB), fun g hg => ?_⟩
    · simp only [Array.size_append, List.size_toArray, hl, size_zeroCells, hsz, ← Nat.add_mul]
      congr 1; omega
    · simp only [Array.toList_append]
      rw [← hl]
      exact List.take_left
    · replace hg := rowBlk_own hg
      simp only [Value.ownBlock, Option.some.injEq] at hg
      exact .inr (by omega)
  obtain ⟨hown, hbo⟩ := hown
  have cap0 : ∀ a0 : Addr, n = 0 → v = .slice (some a0) 0 0 → ∃ v' w', (Builtin.append_ #[t, t] ty #[v, x]).run P w = .ok v' w' ∧ Owns w' B e s v' (n + m) (xs ++ ys) ∧ Same w w' (rowBlk v) ∧ Kp B w w' ∧
      (∀ g, rowBlk v' = some g → rowBlk v = some g ∨ w.heap.size ≤ g) := by
    intro a0 hx0 hv
    subst hx0
    have hxs : xs = [] := List.eq_nil_of_length_eq_zero (by rw [hxl]; simp)
    subst hxs; subst hv
    by_cases hy : m = 0
    · subst hy
      have hys : ys = [] := List.eq_nil_of_length_eq_zero (by rw [hyl]; simp)
      subst hys
      refine ⟨.slice (some a0) 0 0, w, ?_, Owns.none w B e s (some a0), fun _ _ _ => rfl, Kp.refl _ _, fun g hg => by simp [rowBlk] at hg⟩
      have h1 := hs.len w
      have h2 := hs.cells
      simp [Builtin.append_, run_underlying ht, sizeOf, typeInfo, hi, h1, h2, storeCells]
    · refine grow (some a0) 0 (by omega) rfl ?_
      have h := run_loadCells_list (P := P) w.drew a0 [] (fun j u hu => by simp at hu)
      simpa [Builtin.firstCells] using h
  rcases hown with hown | ⟨h1, _, a0, h3⟩
  case inr => exact cap0 a0 h1 h3
  rcases hown.2 with ⟨rfl, hx0⟩ | ⟨g, o0, cap, cur, rfl, hg, hnc, hcm, hcsz, htake⟩
  · subst hx0
    have hxs : xs = [] := List.eq_nil_of_length_eq_zero (by rw [hxl]; simp)
    subst hxs
    by_cases hy : m = 0
    · subst hy
      have hys : ys = [] := List.eq_nil_of_length_eq_zero (by rw [hyl]; simp)
      subst hys
      refine ⟨.slice none 0 0, w, ?_, Owns.nil w B e s, fun _ _ _ => rfl, Kp.refl _ _, fun g hg => by simp [rowBlk] at hg⟩
      have h1 := hs.len w
      have h2 := hs.cells
      simp [Builtin.append_, run_underlying ht, sizeOf, typeInfo, hi, h1, h2]
    · exact grow none 0 (by omega) rfl (by simp [Builtin.firstCells])
  · by_cases hc0 : cap = 0
    · subst hc0
      obtain rfl : n = 0 := by omega
      exact cap0 _ rfl rfl
    have hrb : ∀ n, rowBlk (.slice (some ⟨g, o0, none⟩) n cap) = some g := fun n => by simp [rowBlk, hc0]
    by_cases hroom : n + m ≤ cap
    · have hfit : o0 + n * i.size + ys.length ≤ cur.size := by rw [hyl, hcsz, hsz2, Nat.add_assoc, ← Nat.add_mul]; exact Nat.add_le_add_left (Nat.mul_le_mul_right _ hroom) _
      have hr := append_room (P := P) (ty := ty) ht hi hg hs hroom hfit
      refine ⟨_, _, hr, ⟨.inl ⟨hl, .inr ⟨g, o0, cap, _, rfl, setRow_heap w g cur _ e _ hg, hroom, hcm, ?_, ?_⟩⟩, fun g' hg' => hbo g' (by rw [hrb] at hg' ⊢; exact hg')⟩, by rw [hrb]; exact same_setRow w g _, kp_setRow (hbo g (hrb _)) _, fun g' hg' => .inl (by rw [hrb] at hg' ⊢; exact hg')⟩
      · simp only [List.size_toArray, List.length_append, List.length_take, List.length_drop, Array.length_toList]
        omega
      · simp only
        rw [drop_splice _ _ _ _ (by rw [Array.length_toList]; exact Nat.le_trans (Nat.le_add_right _ _) hfit), hsz2, htake, ← hl]
        exact List.take_left
    · refine grow (some ⟨g, o0, none⟩) cap (by omega) rfl ?_
      have hlie : ∀ j u, xs[j]? = some u → w.drew.cell? ((⟨g, o0, none⟩ : Addr).add j) = some u := by
        intro j u hu
        rw [Addr.add_lit]
        show w.cell? ⟨g, o0 + j, none⟩ = some u
        rw [cell_of_row w g (o0 + j) cur e (0, 0) hg]
        rw [← htake, List.getElem?_take, List.getElem?_drop] at hu
        split at hu
        · simpa using hu
        · cases hu
      have := run_loadCells_list (P := P) w.drew ⟨g, o0, none⟩ xs hlie
      rw [hxl, ← hsz2] at this
      simpa [Builtin.firstCells] using this

theorem append_ok {P : Program} {w : World} {B : KS} {t ty e : TypeId} {sh : List SK} {z : Row sh} (ht : P.underlying t = some (.slice e)) (hz : zeroRow P e sh = some z)
    {v x : Value} {xs ys : List (Row sh)} (hown : Owns w B e sh.length v xs.length (flat sh xs)) (hs : Src P sh.length t x ys.length (flat sh ys) w)
    (hbytes : (xs.length + ys.length) * P.bytesOf e ≤ 140737488355328) (hn : xs.length + ys.length ≤ 140737488355328) (hB : Le B (Old w)) :
    ∃ v' w', (Builtin.append_ #[t, t] ty #[v, x]).run P w = .ok v' w' ∧ Owns w' B e sh.length v' (xs ++ ys).length (flat sh (xs ++ ys)) ∧ Same w w' (rowBlk v) ∧ Kp B w w' ∧
      (∀ g, rowBlk v' = some g → rowBlk v = some g ∨ w.heap.size ≤ g) := by
  obtain ⟨hp, hcs, i, zv, hi, hzv, hvals, hsz⟩ := zeroRow_some hz
  have hsz2 : i.size = sh.length := by rw [← hcs]; simp [Program.cellsOf, hi]
  rw [List.length_append, flat_append]
  exact append_okV ht hi hzv hsz2 hsz hown (flat_length _ _) hs hbytes hn hB

section
variable {E : Env} {o : Oper} {a : Act} {w : World} {B : KS} {ρ : Ren} {h hm : List AB} {key : Nat} {v : AV} {nb : Option AB} {u : Option (Nat × AB)} {ρe : Operand → AV}

/-- What is read of a slice, as a source of an append. -/
theorem rowsOf_src {P : Program} {e t : TypeId} {sh : List SK} {x : AV} {xv : Value} {ys : List (Row sh)} (ht : P.underlying t = some (.slice e)) (hy : rowsOf e sh hm x = some ys) (hv : VR ρ x xv) (hr : HR w B ρ hm) :
    Src P sh.length t xv ys.length (flat sh ys) w := by
  cases x <;> simp only [rowsOf, reduceCtorEq, Option.some.injEq] at hy
  case nilsl => subst hy; obtain rfl : xv = .slice none 0 0 := hv; exact Src.ofNil w ht 0
  case sl k =>
    obtain ⟨hk1, _⟩ := hv
    cases hk : hm[k]? with
    | none => rw [hk] at hy; cases hy
    | some blk =>
      rw [hk] at hy
      rcases hr.blk k _ hk with e0 | ⟨r, hr', hB⟩
      · subst e0; cases hy
      rw [hk1] at hr'; obtain rfl := Option.some.inj hr'
      cases blk <;> first | cases hy; done | skip
      · rename_i e' sh' xs
        replace hy : (if e' = e then if hs : sh' = sh then some (hs ▸ xs) else none else none) = some ys := hy
        split at hy <;> first | cases hy; done | skip
        split at hy <;> first | cases hy; done | skip
        rename_i he hsh
        subst hsh
        obtain rfl := Option.some.inj hy
        obtain ⟨h0, h12, _⟩ := hB
        rcases h12 with ⟨h1, h2⟩ | ⟨e4, _, a4, e3⟩
        case inr =>
          have : xs = [] := List.eq_nil_of_length_eq_zero e4
          subst this; subst e3
          refine Src.ofSlice w ht _ _ _ _ (flat_length _ _) (fun j u hu => by simp [flat] at hu) (fun u hu => flat_one hu)
        rcases h2 with ⟨e3, e4⟩ | ⟨g, o0, cap, cur, e3, hg, hnc, hcm, hcs, htake⟩
        · have : xs = [] := List.eq_nil_of_length_eq_zero e4
          subst this; subst e3; exact Src.ofNil w ht 0
        · subst e3
          refine Src.ofSlice w ht _ _ _ _ (flat_length _ _) (fun j u hu => ?_) (fun u hu => flat_one hu)
          rw [Addr.add_lit, cell_of_row w g (o0 + j) cur e' (0, 0) hg]
          rw [← htake, List.getElem?_take, List.getElem?_drop] at hu
          split at hu
          · simpa using hu
          · cases hu
      · rename_i e' sh' xs
        replace hy : (if e' = e then if hs : sh' = sh then some (hs ▸ xs) else none else none) = some ys := hy
        split at hy <;> first | cases hy; done | skip
        split at hy <;> first | cases hy; done | skip
        rename_i he hsh
        subst hsh
        obtain rfl := Option.some.inj hy
        obtain ⟨h0, a0, c0, e3, _, hcell⟩ := hB
        subst e3
        cases a0 with
        | none =>
          have : xs = [] := by
            cases xs with
            | nil => rfl
            | cons y ys =>
              have hpos : 0 < (flat sh' (y :: ys)).length := by rw [flat_length]; exact Nat.mul_pos (by simp) h0
              obtain ⟨ad, ha, _⟩ := hcell 0 _ (List.getElem?_eq_getElem hpos)
              cases ha
          subst this; exact Src.ofNil w ht c0
        | some ad =>
          refine Src.ofSlice w ht _ _ _ _ (flat_length _ _) (fun j u hu => ?_) (fun u hu => flat_one hu)
          obtain ⟨ad', ha, hc, _⟩ := hcell j u hu
          obtain rfl := Option.some.inj ha
          exact hc

/-- An append, whatever its source. -/
theorem append_op {c : Call} {s x : Operand} {e t : TypeId} {sh : List SK} {xs ys : List (Row sh)} {vv : Value} (hop : o.op = .call c) (hc : c.callee = .builtin .append) (hargs : c.args.toList = [s, x])
    (hty : c.argTypes = #[t, t]) (ht : E.P.underlying t = some (.slice e)) (hz : (zeroRow E.P e sh).isSome) (hv : ∀ x, VR ρ (ρe x) (a.eval x)) (hr : HR w B ρ h) (hmask : Mask hm h) (hk : ρ key = none)
    (hy : rowsOf e sh hm (ρe x) = some ys) (hs : a.eval s = vv) (hown : Owns w B e sh.length vv xs.length (flat sh xs))
    (hbytes : (xs.length + ys.length) * E.P.bytesOf e ≤ 140737488355328) (hn : xs.length + ys.length ≤ 140737488355328)
    (hu : (u = none ∧ rowBlk vv = none) ∨ ∃ k, u = some (k, .gone) ∧ ∀ g, rowBlk vv = some g → ∀ k' b' r', k' ≠ k → h[k']? = some b' → ρ k' = some r' → ownB b' r' ≠ some g) :
    OpOK E o a w B ρ h key (.sl key) (some (.rows e sh (xs ++ ys))) u := by
  obtain ⟨z, hz⟩ := Option.isSome_iff_exists.1 hz
  obtain ⟨v', w', hrun, hown', hsame, hbel, hblk⟩ := append_ok (P := E.P) (ty := o.type) ht hz hown (rowsOf_src ht hy (hv x) (hr.mask hmask)) hbytes hn hr.base
  have hle := Ren.le_set ρ key (.sv v') hk
  have hg0 : ∀ g, rowBlk vv = some g → ¬ B.all g ∧ g < w.heap.size := fun g hg => hown.lt g hg
  have hsl : ∃ aa n cc, v' = .slice aa n cc := by
    rcases hown'.row with h | ⟨_, _, a4, e1⟩
    · rcases h.2 with ⟨e1, _⟩ | ⟨g, o0, cap, cur, e1, _⟩
      · exact ⟨_, _, _, e1⟩
      · exact ⟨_, _, _, e1⟩
    · exact ⟨_, _, _, e1⟩
  have hargs' : c.args = #[s, x] := by rw [← Array.toArray_toList (xs := c.args), hargs]
  refine ⟨.value v', v', w', ρ.set key (.sv v'), ?_, .inl rfl, hle, fun k hne => Ren.set_other _ _ _ _ hne, ⟨Ren.set_same _ _ _, hsl⟩, hbel, fun h' hres => ?_⟩
  · simp [execOp, hop, resolve, invoke, builtin, hc, hargs', hty, hs, hrun]
  · have hno : ∀ g, rowBlk vv = some g → ∀ k b r, (updH h u)[k]? = some b → ρ k = some r → ownB b r ≠ some g := by
      rcases hu with ⟨rfl, e0⟩ | ⟨k0, rfl, hsep⟩
      · intro g hg; rw [e0] at hg; cases hg
      · intro g hg k b r hkb hkr ho
        by_cases ek : k = k0
        · subst ek
          simp only [updH, List.getElem?_set, if_true] at hkb
          split at hkb
          · obtain rfl := Option.some.inj hkb; simp [ownB] at ho
          · cases hkb
        · simp only [updH] at hkb
          rw [List.getElem?_set_ne (Ne.symm ek)] at hkb
          exact hsep g hg k b r ek hkb hkr ho
    have hr1 : HR w B ρ (updH h u) := by
      rcases hu with ⟨rfl, e0⟩ | ⟨k0, rfl, hsep⟩
      · exact hr
      · exact hr.forget k0
    have hr2 : HR w' B ρ (updH h u) := hr1.worldRow hsame hbel.size (fun g hg => (hg0 g hg).1) hno
    have hp : 0 < sh.length := (zeroRow_some hz).1
    refine (hr2.new (r := .sv v') hk hres (show HB w' B _ (.rows e sh (xs ++ ys)) (.sv v') from ⟨hp, hown'⟩) ?_).x
    intro g hg k b r hkk hkb hkr ho
    simp only [ownB] at hg
    rcases hblk g hg with e1 | e1
    · exact hno g e1 k b r hkb hkr ho
    · have := (hr1.own_lt hkb hkr ho).2
      omega

theorem nestOf_src {P : Program} {e e2 t : TypeId} {sh : List SK} {x : AV} {xv : Value} {yss : List (List (Row sh))} (ht : P.underlying t = some (.slice e)) (hy : nestOf e e2 sh hm x = some yss) (hv : VR ρ x xv) (hr : HR w B ρ hm) :
    ∃ us, All2 (ExtR w B sh) yss us ∧ Src P 1 t xv yss.length us w := by
  cases x <;> simp only [nestOf, reduceCtorEq, Option.some.injEq] at hy
  case nilsl => subst hy; obtain rfl : xv = .slice none 0 0 := hv; exact ⟨[], .nil, Src.ofNil w ht 0⟩
  case sl k =>
    obtain ⟨hk1, _⟩ := hv
    cases hk : hm[k]? with
    | none => rw [hk] at hy; cases hy
    | some blk =>
      rw [hk] at hy
      rcases hr.blk k _ hk with e0 | ⟨r, hr', hB⟩
      · subst e0; cases hy
      rw [hk1] at hr'; obtain rfl := Option.some.inj hr'
      cases blk <;> first | cases hy; done | skip
      rename_i e' e2' sh' xss
      replace hy : (if e' = e ∧ e2' = e2 then if hs : sh' = sh then some (hs ▸ xss) else none else none) = some yss := hy
      split at hy <;> first | cases hy; done | skip
      split at hy <;> first | cases hy; done | skip
      rename_i he hsh
      subst hsh
      obtain rfl := Option.some.inj hy
      obtain ⟨h0, us, hus, h12, _⟩ := hB
      have hone : ∀ u ∈ us, u.oneCell' = true := by
        intro u hu
        obtain ⟨i, hi, rfl⟩ := List.mem_iff_getElem.1 hu
        obtain ⟨y, _, aa, c, h1, _⟩ := hus.get' (List.getElem?_eq_getElem hi)
        rw [h1]; rfl
      refine ⟨us, hus, ?_⟩
      rw [hus.length]
      rcases h12 with ⟨h1, h2⟩ | ⟨e4, e5, a4, e3⟩
      case inr =>
        subst e5; subst e3
        exact Src.ofSlice w ht _ _ _ _ rfl (fun j u hu => by simp at hu) hone
      rcases h2 with ⟨e3, e4⟩ | ⟨g, o0, cap, cur, e3, hg, hnc, hcm, hcs, htake⟩
      · have : us = [] := List.eq_nil_of_length_eq_zero e4
        subst this; subst e3; exact Src.ofNil w ht 0
      · subst e3
        refine Src.ofSlice w ht _ _ _ _ (by simp) (fun j u hu => ?_) hone
        rw [Addr.add_lit, cell_of_row w g (o0 + j) cur e' (0, 0) hg]
        rw [← htake, List.getElem?_take, List.getElem?_drop] at hu
        split at hu
        · simpa using hu
        · cases hu

/-- An append to a row of rows. -/
theorem append_opN {c : Call} {s x : Operand} {e e2 t : TypeId} {sh : List SK} {xss yss : List (List (Row sh))} {vv : Value} (hop : o.op = .call c) (hc : c.callee = .builtin .append) (hargs : c.args.toList = [s, x])
    (hty : c.argTypes = #[t, t]) (ht : E.P.underlying t = some (.slice e)) (hz : nestT E.P e = some (e2, sh)) (hv : ∀ x, VR ρ (ρe x) (a.eval x)) (hr : HR w B ρ h) (hmask : Mask hm h) (hk : ρ key = none)
    (hy : nestOf e e2 sh hm (ρe x) = some yss) (hs : a.eval s = vv) (hown : ∃ us, All2 (ExtR w B sh) xss us ∧ Owns w B e 1 vv us.length us)
    (hbytes : (xss.length + yss.length) * E.P.bytesOf e ≤ 140737488355328) (hn : xss.length + yss.length ≤ 140737488355328)
    (hu : (u = none ∧ rowBlk vv = none) ∨ ∃ k, u = some (k, .gone) ∧ ∀ g, rowBlk vv = some g → ∀ k' b' r', k' ≠ k → h[k']? = some b' → ρ k' = some r' → ownB b' r' ≠ some g) :
    OpOK E o a w B ρ h key (.sl key) (some (.nest e e2 sh (xss ++ yss))) u := by
  obtain ⟨_, hcs, _, ⟨i, zv, hi, hzv, hsz⟩, hp⟩ := nestT_some hz
  have hsz2 : i.size = 1 := by rw [← hcs]; simp [Program.cellsOf, hi]
  obtain ⟨us, hus, hown⟩ := hown
  obtain ⟨ws, hws, hsrc⟩ := nestOf_src (w := w) (B := B) ht hy (hv x) (hr.mask hmask)
  rw [hus.length] at hbytes hn
  obtain ⟨v', w', hrun, hown', hsame, hbel, hblk⟩ := append_okV (P := E.P) (ty := o.type) ht hi hzv hsz2 hsz hown (by rw [hws.length]; simp) hsrc hbytes hn hr.base
  have hle := Ren.le_set ρ key (.sv v') hk
  have hg0 : ∀ g, rowBlk vv = some g → ¬ B.all g ∧ g < w.heap.size := fun g hg => hown.lt g hg
  have hsl : ∃ aa n cc, v' = .slice aa n cc := by
    rcases hown'.row with h | ⟨_, _, a4, e1⟩
    · rcases h.2 with ⟨e1, _⟩ | ⟨g, o0, cap, cur, e1, _⟩
      · exact ⟨_, _, _, e1⟩
      · exact ⟨_, _, _, e1⟩
    · exact ⟨_, _, _, e1⟩
  have hargs' : c.args = #[s, x] := by rw [← Array.toArray_toList (xs := c.args), hargs]
  refine ⟨.value v', v', w', ρ.set key (.sv v'), ?_, .inl rfl, hle, fun k hne => Ren.set_other _ _ _ _ hne, ⟨Ren.set_same _ _ _, hsl⟩, hbel, fun h' hres => ?_⟩
  · simp [execOp, hop, resolve, invoke, builtin, hc, hargs', hty, hs, hrun]
  · have hno : ∀ g, rowBlk vv = some g → ∀ k b r, (updH h u)[k]? = some b → ρ k = some r → ownB b r ≠ some g := by
      rcases hu with ⟨rfl, e0⟩ | ⟨k0, rfl, hsep⟩
      · intro g hg; rw [e0] at hg; cases hg
      · intro g hg k b r hkb hkr ho
        by_cases ek : k = k0
        · subst ek
          simp only [updH, List.getElem?_set, if_true] at hkb
          split at hkb
          · obtain rfl := Option.some.inj hkb; simp [ownB] at ho
          · cases hkb
        · simp only [updH] at hkb
          rw [List.getElem?_set_ne (Ne.symm ek)] at hkb
          exact hsep g hg k b r ek hkb hkr ho
    have hr1 : HR w B ρ (updH h u) := by
      rcases hu with ⟨rfl, e0⟩ | ⟨k0, rfl, hsep⟩
      · exact hr
      · exact hr.forget k0
    have hr2 : HR w' B ρ (updH h u) := hr1.worldRow hsame hbel.size (fun g hg => (hg0 g hg).1) hno
    have hsm : ∀ xs y, ExtR w B sh xs y → ExtR w' B sh xs y := fun xs y hx => hx.same hsame (fun g hg => (hg0 g hg).1) hr.base
    have hown2 : Owns w' B e 1 v' (us ++ ws).length (us ++ ws) := by rw [List.length_append, ← hws.length]; exact hown'
    refine (hr2.new (r := .sv v') hk hres (show HB w' B _ (.nest e e2 sh (xss ++ yss)) (.sv v') from ⟨hp, us ++ ws, (hus.mono hsm).append (hws.mono hsm), hown2⟩) ?_).x
    intro g hg k b r hkk hkb hkr ho
    simp only [ownB] at hg
    rcases hblk g hg with e1 | e1
    · exact hno g e1 k b r hkb hkr ho
    · have := (hr1.own_lt hkb hkr ho).2
      omega

theorem flatten_len {α : Type} {s : Nat} : ∀ us : List (List α), (∀ r, r ∈ us → r.length = s) → us.flatten.length = us.length * s
  | [], _ => by simp
  | r :: us, hh => by rw [List.flatten_cons, List.length_append, hh r (by simp), flatten_len us (fun x hx => hh x (by simp [hx])), List.length_cons, Nat.add_mul]; omega
theorem MixR.one {sh sh2 : List SK} {xs : List (Row sh × List (Row sh2))} {us : List (List Value)} (hus : All2 (MixR w B sh sh2) xs us) : ∀ u, u ∈ us.flatten → u.oneCell' = true := by
  intro u hu
  obtain ⟨row, hrow, hin⟩ := List.mem_flatten.1 hu
  obtain ⟨i, hi, rfl⟩ := List.mem_iff_getElem.1 hrow
  obtain ⟨y, _, v, h1, aa, c, h2, _⟩ := hus.get' (List.getElem?_eq_getElem hi)
  rw [h1] at hin
  simp only [List.mem_append, List.mem_singleton] at hin
  rcases hin with hin | rfl
  · exact Row.one hin
  · rw [h2]; rfl
theorem mixOf_src {P : Program} {e e2 t : TypeId} {sh sh2 : List SK} {x : AV} {xv : Value} {ys : List (Row sh × List (Row sh2))} (ht : P.underlying t = some (.slice e)) (hy : mixOf e e2 sh sh2 hm x = some ys) (hv : VR ρ x xv) (hr : HR w B ρ hm) :
    ∃ us, All2 (MixR w B sh sh2) ys us ∧ Src P (sh.length + 1) t xv ys.length us.flatten w := by
  cases x <;> simp only [mixOf, reduceCtorEq, Option.some.injEq] at hy
  case nilsl => subst hy; obtain rfl : xv = .slice none 0 0 := hv; exact ⟨[], .nil, Src.ofNil w ht 0⟩
  case sl k =>
    obtain ⟨hk1, _⟩ := hv
    cases hk : hm[k]? with
    | none => rw [hk] at hy; cases hy
    | some blk =>
      rw [hk] at hy
      rcases hr.blk k _ hk with e0 | ⟨r, hr', hB⟩
      · subst e0; cases hy
      rw [hk1] at hr'; obtain rfl := Option.some.inj hr'
      have fin : ∀ (B' : KS) (us : List (List Value)), All2 (MixR w B sh sh2) ys us → KeptR w B' xv us.length us.flatten → ∃ us, All2 (MixR w B sh sh2) ys us ∧ Src P (sh.length + 1) t xv ys.length us.flatten w := by
        intro B' us hus hkp
        refine ⟨us, hus, ?_⟩
        rw [hus.length]
        obtain ⟨ad, c, e3, had⟩ := kept_addr hus hkp
        obtain ⟨a0, c0, e4, _, hcell⟩ := hkp
        rw [e3] at e4; cases e4
        subst e3
        cases ad with
        | none =>
          have : us = [] := by
            cases us with
            | nil => rfl
            | cons r us => obtain ⟨x, hx⟩ := had (by simp); cases hx
          subst this
          exact Src.ofNil w ht _
        | some ad =>
          refine Src.ofSlice w ht _ _ _ _ (flatten_len _ (MixR.len hus)) (fun j u hu => ?_) (MixR.one hus)
          obtain ⟨ad', ha, hc, _⟩ := hcell j u hu
          obtain rfl := Option.some.inj ha
          exact hc
      cases blk <;> first | cases hy; done | skip
      · rename_i e' e2' sh' sh2' xs
        replace hy : (if e' = e ∧ e2' = e2 then if hs : sh' = sh then if hs2 : sh2' = sh2 then some (hs2 ▸ hs ▸ xs) else none else none else none) = some ys := hy
        split at hy <;> first | cases hy; done | skip
        split at hy <;> first | cases hy; done | skip
        split at hy <;> first | cases hy; done | skip
        rename_i he hsh hsh2
        subst hsh; subst hsh2
        obtain rfl := Option.some.inj hy
        obtain ⟨h0, us, hus, hO⟩ := hB
        exact fin ⟨fun _ => True, fun _ => True, []⟩ us hus (hO.kept fun _ _ => trivial)
      · rename_i e' e2' sh' sh2' xs
        replace hy : (if e' = e ∧ e2' = e2 then if hs : sh' = sh then if hs2 : sh2' = sh2 then some (hs2 ▸ hs ▸ xs) else none else none else none) = some ys := hy
        split at hy <;> first | cases hy; done | skip
        split at hy <;> first | cases hy; done | skip
        split at hy <;> first | cases hy; done | skip
        rename_i he hsh hsh2
        subst hsh; subst hsh2
        obtain rfl := Option.some.inj hy
        obtain ⟨h0, us, hus, hO⟩ := hB
        exact fin _ us hus hO

/-- An append to a row of rows that end with slices. -/
theorem append_opM {c : Call} {s x : Operand} {e e2 t : TypeId} {sh sh2 : List SK} {xss yss : List (Row sh × List (Row sh2))} {vv : Value} (hop : o.op = .call c) (hc : c.callee = .builtin .append) (hargs : c.args.toList = [s, x])
    (hty : c.argTypes = #[t, t]) (ht : E.P.underlying t = some (.slice e)) (hz : mixT E.P e = some (sh, e2, sh2)) (hv : ∀ x, VR ρ (ρe x) (a.eval x)) (hr : HR w B ρ h) (hmask : Mask hm h) (hk : ρ key = none)
    (hy : mixOf e e2 sh sh2 hm (ρe x) = some yss) (hs : a.eval s = vv) (hown : ∃ us, All2 (MixR w B sh sh2) xss us ∧ Owns w B e (sh.length + 1) vv us.length us.flatten)
    (hbytes : (xss.length + yss.length) * E.P.bytesOf e ≤ 140737488355328) (hn : xss.length + yss.length ≤ 140737488355328)
    (hu : (u = none ∧ rowBlk vv = none) ∨ ∃ k, u = some (k, .gone) ∧ ∀ g, rowBlk vv = some g → ∀ k' b' r', k' ≠ k → h[k']? = some b' → ρ k' = some r' → ownB b' r' ≠ some g) :
    OpOK E o a w B ρ h key (.sl key) (some (.mix e e2 sh sh2 (xss ++ yss))) u := by
  obtain ⟨hcs, _, ⟨i, zv, hi, hzv, hsz⟩, hp, _⟩ := mixT_some hz
  have hsz2 : i.size = sh.length + 1 := by rw [← hcs]; simp [Program.cellsOf, hi]
  obtain ⟨us, hus, hown⟩ := hown
  obtain ⟨ws, hws, hsrc⟩ := mixOf_src (w := w) (B := B) ht hy (hv x) (hr.mask hmask)
  rw [hus.length] at hbytes hn
  obtain ⟨v', w', hrun, hown', hsame, hbel, hblk⟩ := append_okV (P := E.P) (ty := o.type) ht hi hzv hsz2 hsz hown (by rw [hws.length, flatten_len _ (MixR.len hws)]) hsrc hbytes hn hr.base
  have hle := Ren.le_set ρ key (.sv v') hk
  have hg0 : ∀ g, rowBlk vv = some g → ¬ B.all g ∧ g < w.heap.size := fun g hg => hown.lt g hg
  have hsl : ∃ aa n cc, v' = .slice aa n cc := by
    rcases hown'.row with h | ⟨_, _, a4, e1⟩
    · rcases h.2 with ⟨e1, _⟩ | ⟨g, o0, cap, cur, e1, _⟩
      · exact ⟨_, _, _, e1⟩
      · exact ⟨_, _, _, e1⟩
    · exact ⟨_, _, _, e1⟩
  have hargs' : c.args = #[s, x] := by rw [← Array.toArray_toList (xs := c.args), hargs]
  refine ⟨.value v', v', w', ρ.set key (.sv v'), ?_, .inl rfl, hle, fun k hne => Ren.set_other _ _ _ _ hne, ⟨Ren.set_same _ _ _, hsl⟩, hbel, fun h' hres => ?_⟩
  · simp [execOp, hop, resolve, invoke, builtin, hc, hargs', hty, hs, hrun]
  · have hno : ∀ g, rowBlk vv = some g → ∀ k b r, (updH h u)[k]? = some b → ρ k = some r → ownB b r ≠ some g := by
      rcases hu with ⟨rfl, e0⟩ | ⟨k0, rfl, hsep⟩
      · intro g hg; rw [e0] at hg; cases hg
      · intro g hg k b r hkb hkr ho
        by_cases ek : k = k0
        · subst ek
          simp only [updH, List.getElem?_set, if_true] at hkb
          split at hkb
          · obtain rfl := Option.some.inj hkb; simp [ownB] at ho
          · cases hkb
        · simp only [updH] at hkb
          rw [List.getElem?_set_ne (Ne.symm ek)] at hkb
          exact hsep g hg k b r ek hkb hkr ho
    have hr1 : HR w B ρ (updH h u) := by
      rcases hu with ⟨rfl, e0⟩ | ⟨k0, rfl, hsep⟩
      · exact hr
      · exact hr.forget k0
    have hr2 : HR w' B ρ (updH h u) := hr1.worldRow hsame hbel.size (fun g hg => (hg0 g hg).1) hno
    have hsm : ∀ xs y, MixR w B sh sh2 xs y → MixR w' B sh sh2 xs y := fun xs y hx => hx.same hsame (fun g hg => (hg0 g hg).1) hr.base
    have hown2 : Owns w' B e (sh.length + 1) v' (us ++ ws).length (us ++ ws).flatten := by rw [List.length_append, ← hws.length, List.flatten_append]; exact hown'
    refine (hr2.new (r := .sv v') hk hres (show HB w' B _ (.mix e e2 sh sh2 (xss ++ yss)) (.sv v') from ⟨hp, us ++ ws, (hus.mono hsm).append (hws.mono hsm), hown2⟩) ?_).x
    intro g hg k b r hkk hkb hkr ho
    simp only [ownB] at hg
    rcases hblk g hg with e1 | e1
    · exact hno g e1 k b r hkb hkr ho
    · have := (hr1.own_lt hkb hkr ho).2
      omega

theorem sliceElem_some {P : Program} {t e : TypeId} (h : sliceElem P t = some e) : P.underlying t = some (.slice e) := by
  unfold sliceElem at h
  split at h <;> first | cases h; done | skip
  rename_i e' hu
  obtain rfl := Option.some.inj h
  exact hu

theorem max_ok : ∀ {vs : List AV} {us : List Value} {k : IntKind} {x n : Int}, All2 (VR ρ) vs us → minmax true k x vs = some n → (us.foldlM Builtin.max2 (Value.int k x)).run E.P w = .ok (.int k n) w
  | [], _, k, x, n, .nil, h => by simp [minmax] at h; subst h; simp
  | y :: vs, u :: us, k, x, n, .cons hy hr, h => by
    cases y <;> simp only [minmax, reduceCtorEq] at h
    split at h <;> first | cases h; done | skip
    rename_i k' m e; subst e
    rw [hy.int_inv]
    simp only [List.foldlM_cons, Builtin.max2, pure_bind]
    exact max_ok hr h
theorem min_ok : ∀ {vs : List AV} {us : List Value} {k : IntKind} {x n : Int}, All2 (VR ρ) vs us → minmax false k x vs = some n → (us.foldlM Builtin.min2 (Value.int k x)).run E.P w = .ok (.int k n) w
  | [], _, k, x, n, .nil, h => by simp [minmax] at h; subst h; simp
  | y :: vs, u :: us, k, x, n, .cons hy hr, h => by
    cases y <;> simp only [minmax, reduceCtorEq] at h
    split at h <;> first | cases h; done | skip
    rename_i k' m e; subst e
    rw [hy.int_inv]
    simp only [List.foldlM_cons, Builtin.min2, pure_bind]
    exact min_ok hr h

theorem arg1 {args : Array Operand} {x : AV} (h : args.toList.map ρe = [x]) : ∃ y, args = #[y] ∧ ρe y = x := by
  obtain ⟨l⟩ := args
  match l, h with
  | [y], h => exact ⟨y, rfl, by simpa using h⟩
theorem arg2 {args : Array Operand} {x y : AV} (h : args.toList.map ρe = [x, y]) : ∃ s t, args.toList = [s, t] ∧ ρe s = x ∧ ρe t = y := by
  obtain ⟨l⟩ := args
  match l, h with
  | [s, t], h => simp at h; exact ⟨s, t, rfl, h.1, h.2⟩
theorem argsC {args : Array Operand} {x : AV} {vs : List AV} (h : args.toList.map ρe = x :: vs) (hv : ∀ x, VR ρ (ρe x) (a.eval x)) : ∃ y ys, args.toList = y :: ys ∧ ρe y = x ∧ All2 (VR ρ) vs (ys.map a.eval) := by
  obtain ⟨l⟩ := args
  match l, h with
  | y :: ys, h =>
    simp at h
    obtain ⟨h1, rfl⟩ := h
    exact ⟨y, ys, rfl, h1, All2.of_map fun x _ => hv x⟩
theorem ty0 {ts : Array TypeId} (h : 0 < ts.size) : ∃ t, ts[0]? = some t ∧ ts.getD 0 0 = t := ⟨ts[0], by simp [h], by simp [Array.getD, h]⟩

theorem den_call {c : Call} (hop : o.op = .call c) (hv : ∀ x, VR ρ (ρe x) (a.eval x)) (hr : HR w B ρ h) (hmask : Mask hm h) (hk : ρ key = none)
    (hd : den E key ρe hm o = .val true v nb u) : OpOK E o a w B ρ h key v nb u := by
  simp only [den, hop] at hd
  split at hd
  · rename_i bi hbi
    split at hd <;> first | cases hd; done | skip
    · -- len of a string
      rename_i s hargs
      split at hd <;> first | cases hd; done | skip
      rename_i hc
      obtain ⟨rfl, rfl, rfl⟩ := val1_eq hd
      obtain ⟨x, hx, hex⟩ := arg1 hargs
      have hvx := hv x; rw [hex] at hvx
      obtain ⟨t, ht, hg⟩ := ty0 hc.1
      have hu : E.P.underlying t = some .string := by
        have := hc.2; rw [hg] at this; unfold strT at this; split at this <;> first | assumption | cases this
      refine .pure hr (v' := goInt s.size) ?_ rfl
      simp [execOp, hop, resolve, invoke, builtin, hbi, hx, hvx.str_inv, Builtin.len_, ht, run_underlying hu]
    · rename_i hargs
      split at hd <;> first | cases hd; done | skip
      rename_i hc
      obtain ⟨rfl, rfl, rfl⟩ := val1_eq hd
      obtain ⟨x, hx, hex⟩ := arg1 hargs
      have hvx := hv x; rw [hex] at hvx
      have hvx' : a.eval x = .slice none 0 0 := hvx
      obtain ⟨t, ht, hg⟩ := ty0 hc.1
      obtain ⟨e, he⟩ := Option.isSome_iff_exists.1 hc.2
      rw [hg] at he
      refine .pure hr (v' := goInt 0) ?_ rfl
      simp [execOp, hop, resolve, invoke, builtin, hbi, hx, hvx', Builtin.len_, ht, run_underlying (sliceElem_some he)]
    · rename_i k hargs
      split at hd <;> first | cases hd; done | skip
      rename_i hc
      obtain ⟨x, hx, hex⟩ := arg1 hargs
      have hvx := hv x; rw [hex] at hvx
      obtain ⟨hk1, _⟩ := hvx
      obtain ⟨t, ht, hg⟩ := ty0 hc.1
      obtain ⟨e, he⟩ := Option.isSome_iff_exists.1 hc.2
      rw [hg] at he
      have main : ∀ n : Nat, (∃ aa cc, a.eval x = .slice aa n cc) → val1 (.int .i64 (n : Int)) = .val true v nb u → OpOK E o a w B ρ h key v nb u := by
        intro n hn hd
        obtain ⟨aa, cc, hn⟩ := hn
        obtain ⟨rfl, rfl, rfl⟩ := val1_eq hd
        refine .pure hr (v' := goInt n) ?_ rfl
        simp [execOp, hop, resolve, invoke, builtin, hbi, hx, hn, Builtin.len_, ht, run_underlying (sliceElem_some he)]
      cases hkk : hm[k]? with
      | none => rw [hkk] at hd; cases hd
      | some blk =>
        rw [hkk] at hd
        rcases (hr.mask hmask).blk k _ hkk with e0 | ⟨r, hr', hB⟩
        · subst e0; cases hd
        rw [hk1] at hr'; obtain rfl := Option.some.inj hr'
        cases blk <;> first | cases hd; done | skip
        · rename_i e' sh xs
          refine main xs.length ?_ hd
          rcases hB.2.row with h12 | ⟨e4, _, a4, e3⟩
          case inr => exact ⟨some a4, 0, by rw [e3, e4]⟩
          rcases h12.2 with ⟨e3, e4⟩ | ⟨g, o0, cap, cur, e3, _⟩
          · exact ⟨none, 0, by rw [e3, e4]⟩
          · exact ⟨_, _, e3⟩
        · rename_i e' sh xs
          obtain ⟨_, a0, c0, e3, _⟩ := hB
          exact main xs.length ⟨_, _, e3⟩ hd
        · rename_i e' e2' sh xss
          obtain ⟨_, us, hus, hO⟩ := hB
          refine main xss.length ?_ hd
          rw [hus.length]
          rcases hO.row with h12 | ⟨e4, _, a4, e3⟩
          case inr => exact ⟨some a4, 0, by rw [e3, e4]⟩
          rcases h12.2 with ⟨e3, e4⟩ | ⟨g, o0, cap, cur, e3, _⟩
          · exact ⟨none, 0, by rw [e3, e4]⟩
          · exact ⟨_, _, e3⟩
        · rename_i e' e2' sh sh2 xs
          obtain ⟨_, us, hus, hO⟩ := hB
          refine main xs.length ?_ hd
          rw [hus.length]
          obtain ⟨ad, cc, e3, _⟩ := kept_addr hus (hO.kept (B' := ⟨fun _ => True, fun _ => True, []⟩) fun _ _ => trivial)
          exact ⟨_, _, e3⟩
        · rename_i e' e2' sh sh2 xs
          obtain ⟨_, us, hus, hO⟩ := hB
          refine main xs.length ?_ hd
          rw [hus.length]
          obtain ⟨ad, cc, e3, _⟩ := kept_addr hus hO
          exact ⟨_, _, e3⟩
    · rename_i k x hargs
      obtain ⟨s, y, hxy, hes, hey⟩ := arg2 hargs
      have hvs := hv s; rw [hes] at hvs
      obtain ⟨hk1, _⟩ := hvs
      cases hkk : hm[k]? with
      | none => rw [hkk] at hd; cases hd
      | some blk =>
        rw [hkk] at hd
        cases blk <;> first | cases hd; done | skip
        · rename_i e sh xs
          dsimp only at hd
          split at hd <;> first | cases hd; done | skip
          rename_i hc
          obtain ⟨h1, h2, h3, h4⟩ := hc
          split at hd <;> first | cases hd; done | skip
          rename_i ys hys
          obtain ⟨hb, rfl, rfl, rfl⟩ := val_inj hd
          have hb := of_decide_eq_true hb
          have hkh : h[k]? = some (.rows e sh xs) := (hmask.get k _ hkk).resolve_left (by simp)
          rcases hr.blk k _ hkh with e0 | ⟨r, hr', hB⟩
          · cases e0
          rw [hk1] at hr'; obtain rfl := Option.some.inj hr'
          have hn : xs.length + ys.length ≤ 140737488355328 := Nat.le_trans (Nat.le_mul_of_pos_right _ h4) hb
          rw [← hey] at hys
          refine append_op (vv := a.eval s) hop hbi hxy h2 (sliceElem_some h1) h3 hv hr hmask hk hys rfl hB.2 hb hn (.inr ⟨k, rfl, fun g hg k' b' r' hne hk' hr'' ho => ?_⟩)
          exact hr.sep k _ k' b' _ r' g (Ne.symm hne) hkh hk' hk1 hr'' (by simpa [ownB] using hg) ho
        · rename_i e e2 sh xss
          dsimp only at hd
          split at hd <;> first | cases hd; done | skip
          rename_i hc
          obtain ⟨h1, h2, h3, h4⟩ := hc
          split at hd <;> first | cases hd; done | skip
          rename_i yss hys
          obtain ⟨hb, rfl, rfl, rfl⟩ := val_inj hd
          have hb := of_decide_eq_true hb
          have hkh : h[k]? = some (.nest e e2 sh xss) := (hmask.get k _ hkk).resolve_left (by simp)
          rcases hr.blk k _ hkh with e0 | ⟨r, hr', hB⟩
          · cases e0
          rw [hk1] at hr'; obtain rfl := Option.some.inj hr'
          have hn : xss.length + yss.length ≤ 140737488355328 := Nat.le_trans (Nat.le_mul_of_pos_right _ h4) hb
          rw [← hey] at hys
          refine append_opN (vv := a.eval s) hop hbi hxy h2 (sliceElem_some h1) h3 hv hr hmask hk hys rfl hB.2 hb hn (.inr ⟨k, rfl, fun g hg k' b' r' hne hk' hr'' ho => ?_⟩)
          exact hr.sep k _ k' b' _ r' g (Ne.symm hne) hkh hk' hk1 hr'' (by simpa [ownB] using hg) ho
        · rename_i e e2 sh sh2 xss
          dsimp only at hd
          split at hd <;> first | cases hd; done | skip
          rename_i hc
          obtain ⟨h1, h2, h3, h4⟩ := hc
          split at hd <;> first | cases hd; done | skip
          rename_i yss hys
          obtain ⟨hb, rfl, rfl, rfl⟩ := val_inj hd
          have hb := of_decide_eq_true hb
          have hkh : h[k]? = some (.mix e e2 sh sh2 xss) := (hmask.get k _ hkk).resolve_left (by simp)
          rcases hr.blk k _ hkh with e0 | ⟨r, hr', hB⟩
          · cases e0
          rw [hk1] at hr'; obtain rfl := Option.some.inj hr'
          have hn : xss.length + yss.length ≤ 140737488355328 := Nat.le_trans (Nat.le_mul_of_pos_right _ h4) hb
          rw [← hey] at hys
          refine append_opM (vv := a.eval s) hop hbi hxy h2 (sliceElem_some h1) h3 hv hr hmask hk hys rfl hB.2 hb hn (.inr ⟨k, rfl, fun g hg k' b' r' hne hk' hr'' ho => ?_⟩)
          exact hr.sep k _ k' b' _ r' g (Ne.symm hne) hkh hk' hk1 hr'' (by simpa [ownB] using hg) ho
    · rename_i x hargs
      obtain ⟨s, y, hxy, hes, hey⟩ := arg2 hargs
      have hvs := hv s; rw [hes] at hvs
      have hvs' : a.eval s = .slice none 0 0 := hvs
      split at hd <;> first | cases hd; done | skip
      rename_i e hu
      split at hd
      case h_2 =>
        split at hd
        case h_2 =>
          split at hd <;> first | cases hd; done | skip
          rename_i sh e2 sh2 hnt
          split at hd <;> first | cases hd; done | skip
          rename_i hc
          obtain ⟨h2, h4⟩ := hc
          split at hd <;> first | cases hd; done | skip
          rename_i yss hys
          obtain ⟨hb, rfl, rfl, rfl⟩ := val_inj hd
          have hb := of_decide_eq_true hb
          have hn : yss.length ≤ 140737488355328 := Nat.le_trans (Nat.le_mul_of_pos_right _ h4) hb
          rw [← hey] at hys
          have := append_opM (E := E) (o := o) (a := a) (w := w) (B := B) (ρ := ρ) (h := h) (hm := hm) (key := key) (u := none) (xss := ([] : List (Row sh × List (Row sh2)))) (vv := .slice none 0 0) hop hbi hxy h2 hu hnt hv hr hmask hk hys hvs' ⟨[], .nil, Owns.nil w B e (sh.length + 1)⟩ (by simpa using hb) (by simpa using hn) (.inl ⟨rfl, rfl⟩)
          simpa using this
        rename_i e2 sh hnt
        split at hd <;> first | cases hd; done | skip
        rename_i hc
        obtain ⟨h2, h4⟩ := hc
        split at hd <;> first | cases hd; done | skip
        rename_i yss hys
        obtain ⟨hb, rfl, rfl, rfl⟩ := val_inj hd
        have hb := of_decide_eq_true hb
        have hn : yss.length ≤ 140737488355328 := Nat.le_trans (Nat.le_mul_of_pos_right _ h4) hb
        rw [← hey] at hys
        have := append_opN (E := E) (o := o) (a := a) (w := w) (B := B) (ρ := ρ) (h := h) (hm := hm) (key := key) (u := none) (xss := ([] : List (List (Row sh)))) (vv := .slice none 0 0) hop hbi hxy h2 hu hnt hv hr hmask hk hys hvs' ⟨[], .nil, Owns.nil w B e 1⟩ (by simpa using hb) (by simpa using hn) (.inl ⟨rfl, rfl⟩)
        simpa using this
      rename_i sh hsh
      split at hd <;> first | cases hd; done | skip
      rename_i hc
      obtain ⟨h2, h3, h4⟩ := hc
      split at hd <;> first | cases hd; done | skip
      rename_i ys hys
      obtain ⟨hb, rfl, rfl, rfl⟩ := val_inj hd
      have hb := of_decide_eq_true hb
      have hn : ys.length ≤ 140737488355328 := Nat.le_trans (Nat.le_mul_of_pos_right _ h4) hb
      rw [← hey] at hys
      have := append_op (E := E) (o := o) (a := a) (w := w) (B := B) (ρ := ρ) (h := h) (hm := hm) (key := key) (u := none) (xs := ([] : List (Row sh))) (vv := .slice none 0 0) hop hbi hxy h2 hu h3 hv hr hmask hk hys hvs' (Owns.nil w B e sh.length) (by simpa using hb) (by simpa using hn) (.inl ⟨rfl, rfl⟩)
      simpa using this
    · rename_i k x vs hargs
      split at hd <;> first | cases hd; done | skip
      rename_i n hn
      obtain ⟨rfl, rfl, rfl⟩ := val1_eq hd
      obtain ⟨y, ys, hys, hey, hvs⟩ := argsC hargs hv
      have hvy := hv y; rw [hey] at hvy
      refine .pure hr (v' := .int k n) ?_ rfl
      have hargs' : c.args.toList.map a.eval = .int k x :: ys.map a.eval := by rw [hys, List.map_cons, hvy.int_inv]
      have hm := max_ok (E := E) (w := w) hvs hn
      simp [execOp, hop, resolve, invoke, builtin, hbi, Builtin.max_, hargs', hm]
    · rename_i k x vs hargs
      split at hd <;> first | cases hd; done | skip
      rename_i n hn
      obtain ⟨rfl, rfl, rfl⟩ := val1_eq hd
      obtain ⟨y, ys, hys, hey, hvs⟩ := argsC hargs hv
      have hvy := hv y; rw [hey] at hvy
      refine .pure hr (v' := .int k n) ?_ rfl
      have hargs' : c.args.toList.map a.eval = .int k x :: ys.map a.eval := by rw [hys, List.map_cons, hvy.int_inv]
      have hm := min_ok (E := E) (w := w) hvs hn
      simp [execOp, hop, resolve, invoke, builtin, hbi, Builtin.min_, hargs', hm]
  · split at hd <;> first | cases hd; done | skip
    split at hd <;> first | cases hd; done | skip
    split at hd <;> cases hd
  · cases hd

/-- A value of a type, as its cells. -/
def IsVal (P : Program) (ρ : Ren) (t : TypeId) (c : List AV) (v : Value) : Prop :=
  (aggB P t = some true ∧ ∃ arr, v = .agg arr ∧ All2 (LR ρ) c arr.toList) ∨ (aggB P t = some false ∧ ∃ x, c = [x] ∧ LR ρ x v)

theorem part_isVal {P : Program} {t : TypeId} {cs : List AV} {arr : Array Value} {off : Nat} (w : World) (ha : (aggB P t).isSome) (hr : All2 (LR ρ) cs arr.toList) (hle : off + P.cellsOf t ≤ cs.length) (h1 : aggB P t = some false → P.cellsOf t = 1) :
    ∃ v', (part t arr off).run P w = .ok v' w ∧ IsVal P ρ t ((cs.drop off).take (P.cellsOf t)) v' := by
  unfold aggB at ha
  cases hu : P.underlying t with
  | none => simp [hu] at ha
  | some d =>
    obtain ⟨i, hi⟩ := info_of_underlying hu
    have hag : aggB P t = some (aggD d) := by simp [aggB, hu]
    cases hd : aggD d with
    | true =>
      rw [hd] at hag
      refine ⟨.agg (arr.extract off (off + P.cellsOf t)), by simp [part, run_isAgg hu, hd, run_sizeOf hi], .inl ⟨hag, _, rfl, ?_⟩⟩
      have e : (arr.extract off (off + P.cellsOf t)).toList = (arr.toList.drop off).take (P.cellsOf t) := by simp [Array.toList_extract, List.extract_eq_take_drop]
      rw [e]; exact (hr.drop off).take _
    | false =>
      rw [hd] at hag
      have hone := h1 hag
      rw [hone] at hle
      obtain ⟨x, hx⟩ : ∃ x, cs[off]? = some x := ⟨cs[off], List.getElem?_eq_getElem (by omega)⟩
      obtain ⟨y, hy, hxy⟩ := hr.get hx
      have hy' : arr[off]? = some y := by simpa using hy
      refine ⟨y, by simp [part, run_isAgg hu, hd, hy'], .inr ⟨hag, x, ?_, hxy⟩⟩
      rw [hone]
      apply List.ext_getElem?
      intro j
      rw [List.getElem?_take]
      cases j with
      | zero => simp [hx]
      | succ j => simp

theorem eqFs_ok {P : Program} (w : World) (d : Nat) (q : TypeId → List AV → List AV → Option Bool) (xs ys : Array Value)
    (hq : ∀ t c1 c2 v1 v2 r, q t c1 c2 = some r → IsVal P ρ t c1 v1 → IsVal P ρ t c2 v2 → (Op.equalIn d t v1 v2).run P w = .ok r w) :
    ∀ (fs : List Field) (off : Nat) (a1 a2 : List AV) (r : Bool), All2 (LR ρ) a1 xs.toList → All2 (LR ρ) a2 ys.toList → eqFs P q fs off (a1.drop off) (a2.drop off) = some r →
      (Op.eqFields d xs ys fs).run P w = .ok r w
  | [], off, a1, a2, r, _, _, h => by
    simp only [eqFs] at h
    split at h <;> first | cases h; done | skip
    obtain rfl := Option.some.inj h
    simp [Op.eqFields]
  | f :: fs, off, a1, a2, r, h1, h2, h => by
    simp only [eqFs] at h
    split at h <;> first | cases h; done | skip
    rename_i hc
    simp only [Bool.and_eq_true, bne_iff_ne, ne_eq, beq_iff_eq, Bool.or_eq_true, decide_eq_true_eq] at hc
    obtain ⟨⟨⟨⟨⟨hn, ho⟩, hag⟩, hz1⟩, hz2⟩, hone⟩ := hc
    simp only [Option.bind_eq_some_iff, Option.map_eq_some_iff] at h
    obtain ⟨r1, hr1, r2, hr2, rfl⟩ := h
    rw [List.drop_drop, List.drop_drop] at hr2
    have ih := eqFs_ok w d q xs ys hq fs (off + P.cellsOf f.type) a1 a2 r2 h1 h2 hr2
    have h1f : aggB P f.type = some false → P.cellsOf f.type = 1 := fun e => by
      rcases hone with e' | e'
      · rw [e] at e'; cases e'
      · exact e'
    simp only [List.length_drop] at hz1 hz2
    have hoff1 : off + P.cellsOf f.type ≤ a1.length ∨ P.cellsOf f.type = 0 := by omega
    have hoff2 : off + P.cellsOf f.type ≤ a2.length ∨ P.cellsOf f.type = 0 := by omega
    have hpart : ∀ (a : List AV) (zs : Array Value), All2 (LR ρ) a zs.toList → (off + P.cellsOf f.type ≤ a.length ∨ P.cellsOf f.type = 0) → ∃ v', (part f.type zs f.offset).run P w = .ok v' w ∧ IsVal P ρ f.type ((a.drop off).take (P.cellsOf f.type)) v' := by
      intro a zs hazs hle
      rw [ho]
      by_cases h0 : P.cellsOf f.type = 0
      · rcases hone with e' | e'
        · unfold aggB at e'
          cases hu : P.underlying f.type with
          | none => simp [hu] at e'
          | some dd =>
            obtain ⟨i, hi⟩ := info_of_underlying hu
            simp only [hu, Option.map_some, Option.some.injEq] at e'
            refine ⟨.agg (zs.extract off (off + P.cellsOf f.type)), by simp [part, run_isAgg hu, e', run_sizeOf hi], .inl ⟨by simp [aggB, hu, e'], _, rfl, ?_⟩⟩
            have e : (zs.extract off (off + P.cellsOf f.type)).toList = (zs.toList.drop off).take (P.cellsOf f.type) := by simp [Array.toList_extract, List.extract_eq_take_drop]
            rw [e]; exact (hazs.drop off).take _
        · omega
      · exact part_isVal w hag hazs (hle.resolve_right h0) h1f
    obtain ⟨u1, hu1, hv1⟩ := hpart a1 xs h1 hoff1
    obtain ⟨u2, hu2, hv2⟩ := hpart a2 ys h2 hoff2
    have hq1 := hq f.type _ _ u1 u2 r1 hr1 hv1 hv2
    rw [Op.eqFields]
    simp only [if_pos hn, Sem.run_bind, hu1, hu2, hq1, Result.andThen_ok]
    cases r1
    · simp
    · simpa using ih

theorem eqIs_ok {P : Program} (w : World) (d : Nat) (q : TypeId → List AV → List AV → Option Bool) (e : TypeId) (xs ys : Array Value) (ha : (aggB P e).isSome) (hone : aggB P e = some false → P.cellsOf e = 1)
    (hq : ∀ t c1 c2 v1 v2 r, q t c1 c2 = some r → IsVal P ρ t c1 v1 → IsVal P ρ t c2 v2 → (Op.equalIn d t v1 v2).run P w = .ok r w) :
    ∀ (n i : Nat) (a1 a2 : List AV) (r : Bool), All2 (LR ρ) a1 xs.toList → All2 (LR ρ) a2 ys.toList → eqIs q e (P.cellsOf e) n (a1.drop (i * P.cellsOf e)) (a2.drop (i * P.cellsOf e)) = some r →
      (Op.eqItems d e (P.cellsOf e) xs ys (List.range' i n)).run P w = .ok r w
  | 0, i, a1, a2, r, _, _, h => by
    simp only [eqIs] at h
    obtain rfl := Option.some.inj h
    simp [Op.eqItems]
  | n + 1, i, a1, a2, r, h1, h2, h => by
    simp only [eqIs] at h
    split at h <;> first | cases h; done | skip
    rename_i hc
    simp only [Bool.and_eq_true, decide_eq_true_eq, List.length_drop] at hc
    obtain ⟨hz1, hz2⟩ := hc
    simp only [Option.bind_eq_some_iff, Option.map_eq_some_iff] at h
    obtain ⟨r1, hr1, r2, hr2, rfl⟩ := h
    rw [List.drop_drop, List.drop_drop, show i * P.cellsOf e + P.cellsOf e = (i + 1) * P.cellsOf e by rw [Nat.add_mul]; omega] at hr2
    have ih := eqIs_ok w d q e xs ys ha hone hq n (i + 1) a1 a2 r2 h1 h2 hr2
    have hpart : ∀ (a : List AV) (zs : Array Value), All2 (LR ρ) a zs.toList → (i * P.cellsOf e + P.cellsOf e ≤ a.length ∨ P.cellsOf e = 0) → ∃ v', (part e zs (i * P.cellsOf e)).run P w = .ok v' w ∧ IsVal P ρ e ((a.drop (i * P.cellsOf e)).take (P.cellsOf e)) v' := by
      intro a zs hazs hle
      by_cases h0 : P.cellsOf e = 0
      · unfold aggB at ha hone
        cases hu : P.underlying e with
        | none => simp [hu] at ha
        | some dd =>
          obtain ⟨ii, hi⟩ := info_of_underlying hu
          simp only [hu, Option.map_some, Option.some.injEq] at hone
          have hdd : aggD dd = true := by
            cases hd : aggD dd with
            | true => rfl
            | false => have := hone hd; omega
          refine ⟨.agg (zs.extract (i * P.cellsOf e) (i * P.cellsOf e + P.cellsOf e)), by simp [part, run_isAgg hu, hdd, run_sizeOf hi], .inl ⟨by simp [aggB, hu, hdd], _, rfl, ?_⟩⟩
          have ee : (zs.extract (i * P.cellsOf e) (i * P.cellsOf e + P.cellsOf e)).toList = (zs.toList.drop (i * P.cellsOf e)).take (P.cellsOf e) := by simp [Array.toList_extract, List.extract_eq_take_drop]
          rw [ee]; exact (hazs.drop _).take _
      · exact part_isVal w ha hazs (hle.resolve_right h0) hone
    obtain ⟨u1, hu1, hv1⟩ := hpart a1 xs h1 (by omega)
    obtain ⟨u2, hu2, hv2⟩ := hpart a2 ys h2 (by omega)
    have hq1 := hq e _ _ u1 u2 r1 hr1 hv1 hv2
    rw [List.range'_succ, Op.eqItems]
    simp only [Sem.run_bind, hu1, hu2, hq1, Result.andThen_ok]
    cases r1
    · simp
    · simpa using ih

theorem eqT_ok {P : Program} (w : World) : ∀ (n d : Nat), n ≤ d → ∀ (t : TypeId) (c1 c2 : List AV) (v1 v2 : Value) (r : Bool), eqT P n t c1 c2 = some r →
    IsVal P ρ t c1 v1 → IsVal P ρ t c2 v2 → (Op.equalIn d t v1 v2).run P w = .ok r w
  | 0, _, _, _, _, _, _, _, _, h, _, _ => by simp [eqT] at h
  | n + 1, 0, hd, _, _, _, _, _, _, _, _, _ => by omega
  | n + 1, d + 1, hd, t, c1, c2, v1, v2, r, h, hv1, hv2 => by
    simp only [eqT] at h
    have scal : aggB P t = some false → ∀ x y, c1 = [x] → c2 = [y] → LR ρ x v1 ∧ LR ρ y v2 := by
      intro ha x y e1 e2
      rcases hv1 with ⟨e, _⟩ | ⟨_, x', h1, hx⟩
      · rw [ha] at e; cases e
      rcases hv2 with ⟨e, _⟩ | ⟨_, y', h2, hy⟩
      · rw [ha] at e; cases e
      rw [e1] at h1; rw [e2] at h2
      cases h1; cases h2
      exact ⟨hx, hy⟩
    split at h
    · rename_i hu
      split at h <;> first | cases h; done | skip
      rename_i a b
      obtain rfl := Option.some.inj h
      obtain ⟨hx, hy⟩ := scal (by simp [aggB, hu, aggD]) _ _ rfl rfl
      obtain rfl : v1 = .bool a := hx
      obtain rfl : v2 = .bool b := hy
      simp [Op.equalIn, run_underlying hu]
    · rename_i kk hu
      split at h <;> first | cases h; done | skip
      rename_i k a k' b
      split at h <;> first | cases h; done | skip
      rename_i e; subst e
      obtain rfl := Option.some.inj h
      obtain ⟨hx, hy⟩ := scal (by simp [aggB, hu, aggD]) _ _ rfl rfl
      obtain rfl : v1 = .int k a := hx
      obtain rfl : v2 = .int k b := hy
      simp [Op.equalIn, run_underlying hu]
    · rename_i hu
      split at h <;> first | cases h; done | skip
      rename_i a b
      obtain rfl := Option.some.inj h
      obtain ⟨hx, hy⟩ := scal (by simp [aggB, hu, aggD]) _ _ rfl rfl
      obtain rfl : v1 = .string a := hx
      obtain rfl : v2 = .string b := hy
      simp [Op.equalIn, run_underlying hu]
    · rename_i fs hu
      split at h <;> first | cases h; done | skip
      rename_i hs
      have hag : aggB P t = some true := by simp [aggB, hu, aggD]
      rcases hv1 with ⟨_, x1, rfl, h1⟩ | ⟨e, _⟩
      · rcases hv2 with ⟨_, x2, rfl, h2⟩ | ⟨e, _⟩
        · have hf : P.fieldsOf t = fs := by simp [Program.fieldsOf, hu]
          rw [run_equalIn_struct (P := P) w d t x1 x2 (by rw [hf]; exact hu) hs, hf]
          exact eqFs_ok w d (eqT P n) x1 x2 (fun t c1 c2 v1 v2 r hq i1 i2 => eqT_ok w n d (by omega) t c1 c2 v1 v2 r hq i1 i2) fs.toList 0 c1 c2 r h1 h2 h
        · rw [hag] at e; cases e
      · rw [hag] at e; cases e
    · rename_i m e hu
      split at h <;> first | cases h; done | skip
      rename_i hc
      simp only [Bool.and_eq_true, beq_iff_eq, Bool.or_eq_true] at hc
      obtain ⟨⟨hinfo, hag'⟩, hone⟩ := hc
      have hag : aggB P t = some true := by simp [aggB, hu, aggD]
      obtain ⟨i, hi⟩ := Option.isSome_iff_exists.1 hinfo
      rcases hv1 with ⟨_, x1, rfl, h1⟩ | ⟨e3, _⟩
      · rcases hv2 with ⟨_, x2, rfl, h2⟩ | ⟨e3, _⟩
        · rw [run_equalIn_array w d x1 x2 hu hi, List.range_eq_range']
          exact eqIs_ok w d (eqT P n) e x1 x2 hag' (fun e' => hone.elim (fun e2 => by rw [e'] at e2; cases e2) id) (fun t c1 c2 v1 v2 r hq i1 i2 => eqT_ok w n d (by omega) t c1 c2 v1 v2 r hq i1 i2) m 0 c1 c2 r h1 h2 (by simpa using h)
        · rw [hag] at e3; cases e3
      · rw [hag] at e3; cases e3
    · cases h

theorem den_bin {op : BinOp} {t t2 : TypeId} {x y : Operand} (hop : o.op = .binOp op t x y t2) (hv : ∀ x, VR ρ (ρe x) (a.eval x)) (hr : HR w B ρ h)
    (hd : den E key ρe hm o = .val true v nb u) : OpOK E o a w B ρ h key v nb u := by
  simp only [den, hop] at hd
  have hx := hv x; have hy := hv y
  split at hd
  · rename_i xs ys e1 e2
    split at hd <;> first | cases hd; done | skip
    rename_i hng
    obtain ⟨hng, ha⟩ := hng
    rw [e1] at hx; rw [e2] at hy
    obtain ⟨c1, ex, h1⟩ := hx
    obtain ⟨c2, ey, h2⟩ := hy
    have hng' : E.P.eqGuardType E.P.depth t = false := by unfold noGuard at hng; simpa using hng
    have heq : ∀ r, eqT E.P 5 t xs ys = some r → (Op.equal t (.agg c1) (.agg c2)).run E.P w = .ok r w := by
      intro r hr'
      exact eqT_ok w 5 Op.maxDepth (by simp [Op.maxDepth]) t xs ys _ _ r hr' (.inl ⟨ha, c1, rfl, h1⟩) (.inl ⟨ha, c2, rfl, h2⟩)
    split at hd <;> first | cases hd; done | skip
    · rename_i r hr'
      obtain ⟨rfl, rfl, rfl⟩ := val1_eq hd
      refine .pure hr (v' := .bool r) ?_ rfl
      simp [execOp, hop, ex, ey, eqGuard, hng', binOp, heq r hr']
    · rename_i r hr'
      obtain ⟨rfl, rfl, rfl⟩ := val1_eq hd
      refine .pure hr (v' := .bool (!r)) ?_ rfl
      simp [execOp, hop, ex, ey, eqGuard, hng', binOp, heq r hr']
  · rename_i m n e1 e2
    split at hd <;> first | cases hd; done | skip
    rename_i hbt
    rw [e1] at hx; rw [e2] at hy
    have hu : E.P.underlying t = some .bool := by unfold boolT at hbt; split at hbt <;> first | assumption | cases hbt
    have heq : (Op.equal t (.bool m) (.bool n)).run E.P w = .ok (m == n) w := by
      show (Op.equalIn (9999 + 1) t (.bool m) (.bool n)).run E.P w = _
      rw [Op.equalIn]
      simp [run_underlying hu]
    split at hd <;> first | cases hd; done | skip
    all_goals
      obtain ⟨rfl, rfl, rfl⟩ := val1_eq hd
      refine .pure hr (v' := _) ?_ rfl
      simp [execOp, hop, hx.bool_inv, hy.bool_inv, eqGuard, binOp, heq]
  · split at hd
    · rename_i rb hne
      split at hd <;> first | cases hd; done | skip
      rename_i hng
      obtain ⟨hng, ht⟩ := hng
      have hng' : E.P.eqGuardType E.P.depth t = false := by unfold noGuard at hng; simpa using hng
      have heq : ((binOp .eql t (a.eval x) (a.eval y)).run E.P w = .ok (.bool rb) w ∧ (binOp .neq t (a.eval x) (a.eval y)).run E.P w = .ok (.bool (!rb)) w) ∧ eqGuard .eql t x y (a.eval x) (a.eval y) = pure () ∧ eqGuard .neq t x y (a.eval x) (a.eval y) = pure () := by
        cases hex : ρe x <;> rw [hex] at hne hx ht <;> cases hey : ρe y <;> rw [hey] at hne hy <;> simp only [nilEq, reduceCtorEq, Option.some.injEq] at hne
        all_goals
          subst hne
          simp only [nilT] at ht
          split at ht <;> first | cases ht; done | skip
          rename_i hu
          simp only [VR, VR1, LR, PtrR] at hx hy
        · rw [hx, hy]
          have h0 : (Op.equal t (.pointer none) (.pointer none)).run E.P w = .ok true w := by
            show (Op.equalIn (9999 + 1) t _ _).run E.P w = _; rw [Op.equalIn]; simp [run_underlying hu]
          simp [binOp, h0, eqGuard]
        · obtain ⟨b2, _, ey⟩ := hy; rw [hx, ey]
          have h0 : ∀ z0, (Op.equal t (.pointer none) (.pointer (some z0))).run E.P w = .ok false w := by
            intro z0; show (Op.equalIn (9999 + 1) t _ _).run E.P w = _; rw [Op.equalIn]; simp [run_underlying hu]
          simp [binOp, h0, eqGuard]
        · obtain ⟨_, _, _, _, _, ey⟩ := hy; rw [hx, ey]
          have h0 : ∀ z0, (Op.equal t (.pointer none) (.pointer (some z0))).run E.P w = .ok false w := by
            intro z0; show (Op.equalIn (9999 + 1) t _ _).run E.P w = _; rw [Op.equalIn]; simp [run_underlying hu]
          simp [binOp, h0, eqGuard]
        · rw [hx, hy]
          have h0 : (Op.equal t (.slice none 0 0) (.slice none 0 0)).run E.P w = .ok true w := by
            show (Op.equalIn (9999 + 1) t _ _).run E.P w = _; rw [Op.equalIn]; simp [run_underlying hu]
          simp [binOp, h0, eqGuard]
        · rw [hx, hy]
          have h0 : (Op.equal t .nilFunc .nilFunc).run E.P w = .ok true w := by
            show (Op.equalIn (9999 + 1) t _ _).run E.P w = _; rw [Op.equalIn]; simp [run_underlying hu]
          simp [binOp, h0, eqGuard]
        · obtain ⟨cv1, ey, _⟩ := hy; obtain ⟨_, _, e3⟩ := fnV_is _ cv1; rw [hx, ey, e3]
          have h0 : ∀ z0 z1 z2, (Op.equal t .nilFunc (.func z0 z1 z2)).run E.P w = .ok false w := by
            intro z0 z1 z2; show (Op.equalIn (9999 + 1) t _ _).run E.P w = _; rw [Op.equalIn]; simp [run_underlying hu]
          simp [binOp, h0, eqGuard]
        · obtain ⟨_, _, ex⟩ := hx; rw [ex, hy]
          have h0 : ∀ z0, (Op.equal t (.pointer (some z0)) (.pointer none)).run E.P w = .ok false w := by
            intro z0; show (Op.equalIn (9999 + 1) t _ _).run E.P w = _; rw [Op.equalIn]; simp [run_underlying hu]
          simp [binOp, h0, eqGuard]
        · obtain ⟨_, _, _, _, _, ex⟩ := hx; rw [ex, hy]
          have h0 : ∀ z0, (Op.equal t (.pointer (some z0)) (.pointer none)).run E.P w = .ok false w := by
            intro z0; show (Op.equalIn (9999 + 1) t _ _).run E.P w = _; rw [Op.equalIn]; simp [run_underlying hu]
          simp [binOp, h0, eqGuard]
        · obtain ⟨cv1, ex, _⟩ := hx; obtain ⟨_, _, e3⟩ := fnV_is _ cv1; rw [ex, hy, e3]
          have h0 : ∀ z0 z1 z2, (Op.equal t (.func z0 z1 z2) .nilFunc).run E.P w = .ok false w := by
            intro z0 z1 z2; show (Op.equalIn (9999 + 1) t _ _).run E.P w = _; rw [Op.equalIn]; simp [run_underlying hu]
          simp [binOp, h0, eqGuard]
      split at hd <;> first | cases hd; done | skip
      · obtain ⟨rfl, rfl, rfl⟩ := val1_eq hd
        refine .pure hr (v' := .bool rb) ?_ rfl
        simp [execOp, hop, heq.2.1, heq.1.1]
      · obtain ⟨rfl, rfl, rfl⟩ := val1_eq hd
        refine .pure hr (v' := .bool (!rb)) ?_ rfl
        simp [execOp, hop, heq.2.2, heq.1.2]
    split at hd <;> first | cases hd; done | skip
    rename_i c v0 hb
    obtain ⟨rfl, rfl, rfl, rfl⟩ := val_inj hd
    have fin : ∀ v', (binOp op t (a.eval x) (a.eval y)).run E.P w = .ok v' w → (eqGuard op t x y (a.eval x) (a.eval y)) = pure () → VR ρ v0 v' → OpOK E o a w B ρ h key v0 none none := by
      intro v' hrun hg hvv
      refine .pure hr (v' := v') ?_ hvv
      simp [execOp, hop, hg, hrun]
    cases hex : ρe x <;> cases hey : ρe y <;> rw [hex, hey] at hb <;> simp only [binA, reduceCtorEq] at hb
    case int.int k m k' n =>
      rw [hex] at hx; rw [hey] at hy
      have main : ∀ c, (∃ v', (binOp op t (.int k m) (.int k' n)).run E.P w = .ok v' w ∧ VR ρ v0 v') → c → OpOK E o a w B ρ h key v0 none none := by
        intro c hh _
        obtain ⟨v', h1, h2⟩ := hh
        exact fin v' (by rw [hx.int_inv, hy.int_inv]; exact h1) (by rw [hx.int_inv]; cases op <;> rfl) h2
      split at hb
      · exact main True (shiftBin_ok t w E.P hb rfl) trivial
      · exact main True (shiftBin_ok t w E.P hb rfl) trivial
      · split at hb <;> first | cases hb; done | skip
        rename_i e; subst e
        exact main True (intBin_ok t w E.P hb rfl) trivial
    case str.str m n =>
      rw [hex] at hx; rw [hey] at hy
      obtain ⟨v', h1, h2⟩ := strBin_ok (ρ := ρ) t w E.P hb rfl
      exact fin v' (by rw [hx.str_inv, hy.str_inv]; exact h1) (by rw [hx.str_inv]; cases op <;> rfl) h2

/-- ANY OPERATION that is told with its value: the machine does it so. -/
theorem den_sound (hv : ∀ x, VR ρ (ρe x) (a.eval x)) (hr : HR w B ρ h) (hmask : Mask hm h) (hk : ρ key = none) (hd : den E key ρe hm o = .val true v nb u) : OpOK E o a w B ρ h key v nb u := by
  cases hop : o.op with
  | move x => exact den_move (.inl hop) hv hr hd
  | assign x => exact den_move (.inr hop) hv hr hd
  | pick c x y => exact den_pick hop hv hr hd
  | alloc e => exact den_alloc hop hr hk hd
  | box e x => exact den_box hop hv hr hk hd
  | build t ps => exact den_build hop hv hr hd
  | load t x => exact den_load hop hv hr hmask hk hd
  | store t x y => exact den_store hop hv hr hmask hd
  | nilCheck x => exact den_nilCheck hop hv hr hd
  | binOp op t x y t2 => exact den_bin hop hv hr hd
  | unOp op t x => exact den_un hop hv hr hd
  | convert s t x => exact den_convert hop hv hr hd
  | makeFunc f first cap =>
    cases f with
    | func f => exact den_makeFunc hop hv hr hd
    | _ => simp [den, hop] at hd
  | fieldAddr s x f => exact den_fieldAddr hop hv hr hd
  | field s x f => exact den_field hop hv hr hd
  | indexAddr t x i => exact den_indexAddr hop hv hr hmask hd
  | index t x i => exact den_index hop hv hr hd
  | makeSlice t l c => exact den_makeSlice hop hv hr hk hd
  | buildSlice t n ps => exact den_buildSlice hop hv hr hmask hk hd
  | extract x i => exact den_extract hop hv hr hd
  | slice t x lo hi mx => exact den_slice hop hv hr hmask hk hd
  | call c => exact den_call hop hv hr hmask hk hd
  | _ => simp [den, hop] at hd
end
end Go.Ev
