/- The operations that build values and rows, and the builtins. -/
import Derived.Test.YtgjmfljogaanfaaGreatEvE
import Derived.Laws.MakeOwn
import Derived.Laws.Tables
import Derived.Laws.Slices
namespace Go.Ev
open Go.RowKit

theorem foldl_set : ∀ (l : List Value) (off j : Nat) (cs : List Value), off + j + l.length ≤ cs.length →
    ((l.zipIdx j).foldl (fun (cs : Array Value) (p : Value × Nat) => cs.setIfInBounds (off + p.2) p.1) cs.toArray).toList = cs.take (off + j) ++ l ++ cs.drop (off + j + l.length)
  | [], off, j, cs, _ => by simp
  | v :: l, off, j, cs, h => by
    simp only [List.length_cons] at h
    simp only [List.zipIdx_cons, List.foldl_cons, List.setIfInBounds_toArray]
    rw [foldl_set l off (j + 1) (cs.set (off + j) v) (by simp; omega)]
    apply List.ext_getElem?
    intro i
    simp only [List.getElem?_append, List.length_append, List.length_take, List.length_set, List.getElem?_take, List.getElem?_drop, List.getElem?_set, List.length_cons, List.getElem?_cons]
    repeat' split
    all_goals first | rfl | omega | (congr 1; omega) | skip

theorem fill_step {place : Nat → Option (Nat × Nat)} {cells : Array Value} {i off size : Nat} {v : Value} {rest : List (Nat × Value)} (hp : place i = some (off, size)) (hs : v.cells.size = size) (hle : off + size ≤ cells.size) :
    Instr.fill place cells ((i, v) :: rest) = Instr.fill place (cells.toList.take off ++ v.cells.toList ++ cells.toList.drop (off + v.cells.toList.length)).toArray rest := by
  rw [Instr.fill]
  have hcond : (v.cells.size ≠ size || off + v.cells.size > cells.size) = false := by simp [hs]; omega
  simp only [hp]
  rw [if_neg (by rw [hcond]; simp)]
  congr 1
  apply Array.ext'
  have := foldl_set v.cells.toList off 0 cells.toList (by simp; omega)
  simp only [Nat.add_zero] at this
  rw [← this, ← Array.foldl_toList]
  simp [Array.toList_zipIdx]

section
variable {E : Env} {o : Oper} {a : Act} {w : World} {B : KS} {ρ : Ren} {h hm : List AB} {key : Nat} {v : AV} {nb : Option AB} {u : Option (Nat × AB)} {ρe : Operand → AV}

theorem VR.solid {x : AV} {y : Value} (r : VR ρ x y) (hs : x.solid = true) : All2 (LR ρ) x.cells y.cells.toList :=
  r.cells' (fun e => by subst e; simp [AV.solid] at hs) (fun l e => by subst e; simp [AV.solid] at hs)

theorem fill_rel {place : Nat → Option (Nat × Nat)} : ∀ {ps : List (Nat × AV)} {qs : List (Nat × Value)} {cells : List AV} {c : Array Value} {r : List AV},
    All2 (fun p q => p.1 = q.1 ∧ VR ρ p.2 q.2) ps qs → All2 (LR ρ) cells c.toList → fillA place cells ps = some r → ∃ c', Instr.fill place c qs = some c' ∧ All2 (LR ρ) r c'.toList
  | [], _, cells, c, r, .nil, hc, hf => by simp [fillA] at hf; subst hf; exact ⟨c, rfl, hc⟩
  | (i, x) :: ps, (j, y) :: qs, cells, c, r, .cons hxy hrest, hc, hf => by
    obtain ⟨rfl, hv⟩ := hxy
    simp only [fillA] at hf
    cases hp : place i with
    | none => simp [hp] at hf
    | some os =>
      obtain ⟨off, size⟩ := os
      simp only [hp] at hf
      split at hf <;> first | cases hf; done | skip
      rename_i hcnd
      obtain ⟨h1, h2, h3⟩ := hcnd
      have hxy := hv.solid h3
      have hsz : y.cells.size = size := by rw [← Array.length_toList, ← hxy.length]; exact h1
      rw [fill_step hp hsz (by rw [← Array.length_toList, ← hc.length]; exact h2)]
      refine fill_rel hrest ?_ hf
      exact hc.splice hxy off

theorem den_build {t : TypeId} {parts : Array (Nat × Operand)} (hop : o.op = .build t parts) (hv : ∀ x, VR ρ (ρe x) (a.eval x)) (hr : HR w B ρ h)
    (hd : den E key ρe hm o = .val true v nb u) : OpOK E o a w B ρ h key v nb u := by
  simp only [den, hop] at hd
  split at hd <;> first | cases hd; done | skip
  rename_i z pl hz hpl
  split at hd <;> first | cases hd; done | skip
  rename_i cs hf
  obtain ⟨rfl, rfl, rfl⟩ := val1_eq hd
  obtain ⟨i, zv, hi, hzv, hz'⟩ := zeroA_some hz
  have hzr : All2 (LR ρ) z zv.cells.toList := by
    have := (ofConst_rel ρ zv)
    rw [← hz'] at this
    obtain ⟨c, rfl, h2⟩ := this
    exact h2
  have hps : All2 (fun (p : Nat × AV) (q : Nat × Value) => p.1 = q.1 ∧ VR ρ p.2 q.2) (parts.toList.map fun p => (p.1, ρe p.2)) (parts.map fun (i, x) => (i, a.eval x)).toList := by
    rw [Array.toList_map]
    exact All2.of_map (fun x _ => ⟨rfl, hv x.2⟩)
  obtain ⟨c', hc', hr'⟩ := fill_rel hps hzr hf
  have hb : E.P.built t (parts.map fun (i, x) => (i, a.eval x)).toList = some c' := by
    unfold Program.built
    unfold placesOf at hpl
    simp only [hi]
    cases hu : E.P.underlying t with
    | none => simp [hu] at hpl
    | some d =>
      cases d <;> simp only [hu, reduceCtorEq] at hpl
      case array n e =>
        cases hie : E.P.info? e with
        | none => simp [hie] at hpl
        | some ie =>
          simp only [hie, Option.some.injEq] at hpl
          subst hpl
          simp only [hzv, hie]
          exact hc'
      case struct fields =>
        cases hp : fields.toList.mapM (fun f => (E.P.info? f.type).map fun i => (f.offset, i.size)) with
        | none => rw [hp] at hpl; simp at hpl
        | some places =>
          rw [hp] at hpl
          simp only [Option.some.injEq] at hpl
          subst hpl
          simp only [hzv, hp]
          exact hc'
  refine .pure hr (v' := .agg c') ?_ ⟨c', rfl, hr'⟩
  simp [execOp, hop, run_build w t _ c' hb]

theorem leaf_toAVs : ∀ (sh : List SK) (x : Row sh), (Row.toAVs sh x).all AV.leaf = true
  | [], _ => rfl
  | [s], x => by cases s <;> rfl
  | s :: a :: t, x => by
    have := leaf_toAVs (a :: t) x.2
    simp only [Row.toAVs, List.all_cons, this, Bool.and_true]
    cases s <;> rfl
theorem zeroRow_some {P : Program} {e : TypeId} {sh : List SK} {z : Row sh} (h : zeroRow P e sh = some z) :
    0 < sh.length ∧ P.cellsOf e = sh.length ∧ ∃ i zv, P.info? e = some i ∧ i.zero = some zv ∧ Row.vals sh z = zv.cells.toList ∧ zv.cells.size = sh.length := by
  unfold zeroRow at h
  split at h <;> first | cases h; done | skip
  rename_i hc
  cases hi : P.info? e with
  | none => simp [hi] at h
  | some i =>
    cases hz : i.zero with
    | none => simp [hi, hz] at h
    | some zv =>
      simp only [hi, Option.bind_some, hz] at h
      have e1 := Row.ofAVs_some h
      have hl : (AV.ofConst zv).cells.all AV.leaf = true := by rw [e1]; exact leaf_toAVs sh z
      have h2 := (ofConst_rel (fun _ => none) zv).cells hl
      rw [e1] at h2
      have e2 := (Row.vals_of_rel h2).symm
      refine ⟨hc.1, hc.2, i, zv, rfl, hz, e2, ?_⟩
      rw [← Array.length_toList, ← e2, Row.length_vals]
theorem wrap_i64 {n : Int} (h0 : 0 ≤ n) (h1 : n ≤ 140737488355328) : IntKind.i64.wrap n = n := by
  simp [IntKind.wrap, IntKind.signed, IntKind.bits]; omega

theorem flat_replicate (sh : List SK) (z : Row sh) (n : Nat) : flat sh (List.replicate n z) = ((List.range (n * sh.length)).map fun i => (Row.vals sh z).getD (i % sh.length) undef) := by
  apply List.ext_getElem?
  intro j
  by_cases hs : sh.length = 0
  · have : flat sh (List.replicate n z) = [] := List.eq_nil_of_length_eq_zero (by rw [flat_length, hs]; simp)
    rw [this]; simp [hs]
  by_cases hj : j < n * sh.length
  · have hq : j / sh.length < n := by rw [Nat.div_lt_iff_lt_mul (by omega)]; exact hj
    have hm := Nat.mod_lt j (show 0 < sh.length by omega)
    have e := flat_get sh (List.replicate n z) (j / sh.length) (j % sh.length) (by simpa using hq) hm
    have ej : j / sh.length * sh.length + j % sh.length = j := by rw [Nat.mul_comm]; exact Nat.div_add_mod j _
    rw [ej] at e
    rw [e]
    have hz : (List.replicate n z).getD (j / sh.length) (Row.dflt sh) = z := by simp [List.getD, hq]
    rw [hz, List.getElem?_map, List.getElem?_range hj]
    simp only [Option.map_some, List.getD]
    rw [List.getElem?_eq_getElem (by rw [Row.length_vals]; exact hm)]
    simp
  · rw [List.getElem?_eq_none (by rw [flat_length]; simp; omega), List.getElem?_eq_none (by simp; omega)]

theorem den_makeSlice {t : TypeId} {l c : Operand} (hop : o.op = .makeSlice t l c) (hv : ∀ x, VR ρ (ρe x) (a.eval x)) (hr : HR w B ρ h) (hk : ρ key = none)
    (hd : den E key ρe hm o = .val true v nb u) : OpOK E o a w B ρ h key v nb u := by
  simp only [den, hop] at hd
  have hl := hv l; have hc := hv c
  split at hd <;> first | cases hd; done | skip
  rename_i e n m hu e1 e2
  split at hd <;> first | cases hd; done | skip
  rename_i sh hsh
  split at hd <;> first | cases hd; done | skip
  rename_i z hz
  obtain ⟨hb, rfl, rfl, rfl⟩ := val_inj hd
  rw [e1] at hl; rw [e2] at hc
  simp only [Bool.and_eq_true, decide_eq_true_eq] at hb
  obtain ⟨h0, ⟨rfl, h2⟩, h3⟩ := hb
  obtain ⟨hp, hcs, i, zv, hi, hzv, hvals, hsz⟩ := zeroRow_some hz
  have hw : IntKind.i64.wrap n = n := wrap_i64 h0 h3
  have hby : E.P.bytesOf e = i.bytes := by simp [Program.bytesOf, hi]
  have hsz2 : i.size = sh.length := by rw [← hcs]; simp [Program.cellsOf, hi]
  have hrow := OpOK.row (E := E) (o := o) (a := a) (w := w) (B := B) (ρ := ρ) (h := h) (key := key) (e := e) (sh := sh) (xs := List.replicate n.toNat z)
    (c := madeCells zv.cells (n.toNat * i.size)) hr hk hp ?_ (by simp [maxLen]; omega) ?_
  · exact hrow
  · rw [flat_replicate, madeCells, Array.toList_map, Array.toList_range, hvals, hsz2, hsz]
    apply List.map_congr_left
    intro j hj
    have hm : j % sh.length < zv.cells.size := by rw [hsz]; exact Nat.mod_lt _ hp
    simp [List.getD, hm]
  · simp only [List.length_replicate]
    have hr2 := run_make (P := E.P) w t e i zv hu hi hzv .i64 .i64 n n h0 (Int.le_refl _) (by rw [← hby, Int.mul_comm]; omega) (by omega)
    simp [execOp, hop, hl.int_inv, hc.int_inv, hr2]

/-- A literal's cells, element by element. -/
theorem fill_seq (size : Nat) : ∀ (qs : List (Nat × Value)) (s : Nat) (cs : Array Value), qs.map (·.1) = List.range' s qs.length → (∀ p ∈ qs, p.2.cells.size = size) → (s + qs.length) * size ≤ cs.size →
    ∃ c', Instr.fill (fun i => some (i * size, size)) cs qs = some c' ∧ c'.toList = cs.toList.take (s * size) ++ qs.flatMap (·.2.cells.toList) ++ cs.toList.drop ((s + qs.length) * size)
  | [], s, cs, _, _, _ => ⟨cs, rfl, by simp⟩
  | (j, v) :: qs, s, cs, h1, h2, h3 => by
    simp only [List.map_cons, List.length_cons, List.range'_succ, List.cons.injEq] at h1
    obtain ⟨rfl, h1⟩ := h1
    have hv := h2 (j, v) (by simp)
    have h3' : (j + 1 + qs.length) * size ≤ cs.size := by simpa [Nat.add_assoc, Nat.add_comm 1] using h3
    have hle : j * size + size ≤ (j + 1 + qs.length) * size := by
      have : (j + 1) * size ≤ (j + 1 + qs.length) * size := Nat.mul_le_mul_right _ (by omega)
      rw [Nat.add_mul, Nat.one_mul] at this; exact this
    simp only at hv
    have hvl : v.cells.toList.length = size := by simpa using hv
    rw [fill_step rfl hv (by omega)]
    obtain ⟨c', hc', hl⟩ := fill_seq size qs (j + 1) (cs.toList.take (j * size) ++ v.cells.toList ++ cs.toList.drop (j * size + v.cells.toList.length)).toArray h1 (fun p hp => h2 p (by simp [hp])) (by rw [List.size_toArray]; simp only [List.length_append, List.length_take, List.length_drop, Array.length_toList]; omega)
    refine ⟨c', hc', ?_⟩
    rw [hl]
    simp only [List.flatMap_cons, List.length_cons]
    have e1 : (j + 1) * size = j * size + size := by rw [Nat.add_mul, Nat.one_mul]
    have e2 : (j + (qs.length + 1)) * size = (j + 1 + qs.length) * size := by congr 1; omega
    have hcl : cs.toList.length = cs.size := by simp
    rw [e2, e1]
    have f1 : (cs.toList.take (j * size) ++ v.cells.toList ++ cs.toList.drop (j * size + v.cells.toList.length)).take (j * size + size) = cs.toList.take (j * size) ++ v.cells.toList := by
      rw [List.take_left']
      simp [hcl, hv]; omega
    have f2 : (cs.toList.take (j * size) ++ v.cells.toList ++ cs.toList.drop (j * size + v.cells.toList.length)).drop ((j + 1 + qs.length) * size) = cs.toList.drop ((j + 1 + qs.length) * size) := by
      rw [List.drop_append, List.drop_eq_nil_of_le (by simp [hcl, hv]; omega), List.nil_append, List.drop_drop]
      congr 1
      simp [hcl, hv]; omega
    rw [f1, f2]
    simp

theorem mapM_rows {sh : List SK} (hv : ∀ x, VR ρ (ρe x) (a.eval x)) : ∀ {ps : List (Nat × Operand)} {xs : List (Row sh)},
    ps.mapM (fun p => if (ρe p.2).solid then Row.ofAVs sh (ρe p.2).cells else none) = some xs →
    (ps.map fun p => (p.1, a.eval p.2)).flatMap (·.2.cells.toList) = flat sh xs ∧ xs.length = ps.length ∧ ∀ q ∈ ps.map (fun p => (p.1, a.eval p.2)), q.2.cells.size = sh.length
  | [], xs, h => by simp at h; subst h; simp [flat]
  | p :: ps, xs, h => by
    simp only [List.mapM_cons, Option.bind_eq_bind, Option.bind_eq_some_iff, Option.pure_def, Option.some.injEq] at h
    obtain ⟨x, hx, ys, hys, rfl⟩ := h
    split at hx <;> first | cases hx; done | skip
    rename_i hs
    have hc := (hv p.2).solid hs
    rw [Row.ofAVs_some hx] at hc
    have e := Row.vals_of_rel hc
    obtain ⟨h1, h2, h3⟩ := mapM_rows hv hys
    refine ⟨?_, by simp [h2], ?_⟩
    · rw [List.map_cons, List.flatMap_cons, h1, flat_cons, e]
    · intro q hq
      simp only [List.map_cons, List.mem_cons] at hq
      rcases hq with rfl | hq
      · rw [← Array.length_toList, e, Row.length_vals]
      · exact h3 q hq

theorem nestT_some {P : Program} {e e2 : TypeId} {sh : List SK} (h : nestT P e = some (e2, sh)) : P.underlying e = some (.slice e2) ∧ P.cellsOf e = 1 ∧ aggB P e = some false ∧ (∃ i zv, P.info? e = some i ∧ i.zero = some zv ∧ zv.cells.size = 1) ∧ 0 < sh.length := by
  unfold nestT at h
  split at h <;> first | cases h; done | skip
  rename_i e' hu
  split at h <;> first | cases h; done | skip
  rename_i hc
  obtain ⟨h1, h2, h3⟩ := hc
  simp only [Option.bind_eq_some_iff] at h
  obtain ⟨sh', _, h4⟩ := h
  split at h4 <;> first | cases h4; done | skip
  rename_i h0
  simp only [Option.some.injEq, Prod.mk.injEq] at h4
  obtain ⟨rfl, rfl⟩ := h4
  refine ⟨hu, h1, h2, ?_, h0⟩
  cases hi : P.info? e with
  | none => simp [hi] at h3
  | some i =>
    cases hz : i.zero with
    | none => simp [hi, hz] at h3
    | some zv => exact ⟨i, zv, rfl, hz, by simpa [hi, hz] using h3⟩
theorem extOf_ok {e : TypeId} {sh : List SK} {x : AV} {u : Value} {xs : List (Row sh)} (hx : extOf e sh hm x = some xs) (hv : VR ρ x u) (hr : HR w B ρ hm) : ExtR w B sh xs u := by
  cases x <;> simp only [extOf, reduceCtorEq, Option.some.injEq] at hx
  case nilsl => subst hx; obtain rfl : u = .slice none 0 0 := hv; exact ⟨none, 0, rfl, Nat.le_refl _, fun j u hu => by simp [flat] at hu⟩
  case sl k =>
    obtain ⟨hk1, _⟩ := hv
    cases hk : hm[k]? with
    | none => rw [hk] at hx; cases hx
    | some blk =>
      rw [hk] at hx
      rcases hr.blk k _ hk with e0 | ⟨r, hr', hB⟩
      · subst e0; cases hx
      rw [hk1] at hr'; obtain rfl := Option.some.inj hr'
      cases blk <;> first | cases hx; done | skip
      rename_i e' sh' xs'
      replace hx : (if e' = e then if hs : sh' = sh then some (hs ▸ xs') else none else none) = some xs := hx
      split at hx <;> first | cases hx; done | skip
      split at hx <;> first | cases hx; done | skip
      rename_i he hsh
      subst hsh
      obtain rfl := Option.some.inj hx
      exact hB.2

theorem mixT_some {P : Program} {e e2 : TypeId} {sh sh2 : List SK} (h : mixT P e = some (sh, e2, sh2)) : P.cellsOf e = sh.length + 1 ∧ aggB P e = some true ∧ (∃ i zv, P.info? e = some i ∧ i.zero = some zv ∧ zv.cells.size = sh.length + 1) ∧ 0 < sh2.length ∧ sh.length ≤ 16777215 := by
  unfold mixT at h
  split at h <;> first | cases h; done | skip
  rename_i fs hu
  split at h <;> first | cases h; done | skip
  rename_i cs f hcs hf
  split at h <;> first | cases h; done | skip
  rename_i sh' e' hsh hf2
  split at h <;> first | cases h; done | skip
  rename_i hc
  simp only [Option.bind_eq_some_iff] at h
  obtain ⟨sh2', _, h4⟩ := h
  split at h4 <;> first | cases h4; done | skip
  rename_i h0
  simp only [Option.some.injEq, Prod.mk.injEq] at h4
  obtain ⟨rfl, rfl, rfl⟩ := h4
  refine ⟨hc.1, by simp [aggB, hu, aggD], ?_, h0, hc.2.2⟩
  cases hi : P.info? e with
  | none => simp [hi] at hcs
  | some i =>
    cases hz : i.zero with
    | none => simp [hi, hz] at hcs
    | some zv =>
      refine ⟨i, zv, rfl, hz, ?_⟩
      simp only [hi, hz, Option.bind_some, Option.map_some, Option.some.injEq] at hcs
      have := hc.2.1
      rw [← hcs] at this
      simpa using this
theorem mixRow_ok {e2 : TypeId} {sh sh2 : List SK} {x : AV} {u : Value} {y : Row sh × List (Row sh2)} (hx : mixRow sh e2 sh2 hm x = some y) (hv : VR ρ x u) (hr : HR w B ρ hm) : ∃ c, u = .agg c ∧ MixR w B sh sh2 y c.toList := by
  cases x <;> simp only [mixRow, reduceCtorEq] at hx
  rename_i cs
  obtain ⟨c, rfl, hcs⟩ := hv
  split at hx <;> first | cases hx; done | skip
  rename_i v hd
  simp only [Option.bind_eq_some_iff, Option.map_eq_some_iff] at hx
  obtain ⟨r, hr1, ys, hys, rfl⟩ := hx
  refine ⟨c, rfl, ?_⟩
  have h1 := hcs.take sh.length
  have h2 := hcs.drop sh.length
  rw [Row.ofAVs_some hr1] at h1
  rw [hd] at h2
  generalize hdd : c.toList.drop sh.length = dd at h2
  cases h2 with
  | cons q a =>
    cases a
    rename_i uu
    refine ⟨uu, ?_, extOf_ok hys (VR.of_LR q) hr⟩
    rw [← List.take_append_drop sh.length c.toList, Row.vals_of_rel h1, hdd]
/-- A new row of rows that end with slices. -/
theorem OpOK.mix {e e2 : TypeId} {sh sh2 : List SK} {xs : List (Row sh × List (Row sh2))} {us : List (List Value)} {c : Array Value} (hr : HR w B ρ h) (hk : ρ key = none)
    (hsh : 0 < sh2.length) (hus : All2 (MixR w B sh sh2) xs us) (hc : c.toList = us.flatten) (hm : xs.length ≤ maxLen)
    (hrun : (execOp a.eval o).run E.P w = .ok (.value (.slice (some ⟨w.heap.size, 0, none⟩) xs.length xs.length)) (w.alloc (.cells c e))) :
    OpOK E o a w B ρ h key (.sl key) (some (.mix e e2 sh sh2 xs)) none := by
  have hle := Ren.le_set ρ key (.sv (.slice (some ⟨w.heap.size, 0, none⟩) xs.length xs.length)) hk
  refine ⟨_, _, _, ρ.set key (.sv (.slice (some ⟨w.heap.size, 0, none⟩) xs.length xs.length)), hrun, .inl rfl, hle, fun k hne => Ren.set_other _ _ _ _ hne, ⟨Ren.set_same _ _ _, _, _, _, rfl⟩, (below_alloc w _).mono hr.base, fun h' hres => ?_⟩
  have hlen := hus.length
  have hfl : us.flatten.length = us.length * (sh.length + 1) := by
    have : ∀ us : List (List Value), (∀ r, r ∈ us → r.length = sh.length + 1) → us.flatten.length = us.length * (sh.length + 1) := by
      intro us
      induction us with
      | nil => intro _; simp
      | cons r us ih => intro hh; rw [List.flatten_cons, List.length_append, hh r (by simp), ih (fun x hx => hh x (by simp [hx])), List.length_cons, Nat.add_mul]; omega
    exact this us (MixR.len hus)
  refine ((hr.world (alloc_same w _) (by simp)).new hk hres ?_ ?_).x
  · refine ⟨hsh, us, hus.mono fun _ _ hx => hx.same (alloc_same w _) (fun g e => by cases e) hr.base, .inl ⟨hfl, .inr ⟨w.heap.size, 0, xs.length, c, by rw [hlen], heap_alloc_new w _, by omega, hm, ?_, ?_⟩⟩, fun g hg hb => by
      replace hg := rowBlk_own hg
      simp only [Value.ownBlock, Option.some.injEq] at hg; subst hg; exact Nat.lt_irrefl _ (Old.all_iff.1 (hr.base _ hb))⟩
    · rw [← Array.length_toList, hc, hfl, hlen, Nat.zero_add]
    · rw [List.drop_zero, hc, ← hfl]; exact List.take_length
  · intro g hg k b' r' _ h1 h2 ho
    replace hg : rowBlk (.slice (some ⟨w.heap.size, 0, none⟩) xs.length xs.length) = some g := hg
    replace hg := rowBlk_own hg
    simp only [Value.ownBlock, Option.some.injEq] at hg
    subst hg
    have := (hr.own_lt h1 h2 ho).2
    omega
theorem flatten_drop {α : Type} {s : Nat} : ∀ (us : List (List α)) (k : Nat), (∀ r, r ∈ us → r.length = s) → us.flatten.drop (k * s) = (us.drop k).flatten
  | us, 0, _ => by simp
  | [], k + 1, _ => by simp
  | r :: us, k + 1, hl => by
    have h1 := hl r (by simp)
    rw [List.flatten_cons, List.drop_succ_cons, ← flatten_drop us k fun x hx => hl x (by simp [hx]), Nat.add_mul, Nat.one_mul, Nat.add_comm, ← h1, List.drop_length_add_append]
theorem flatten_take {α : Type} {s : Nat} : ∀ (us : List (List α)) (k : Nat), (∀ r, r ∈ us → r.length = s) → us.flatten.take (k * s) = (us.take k).flatten
  | us, 0, _ => by simp
  | [], k + 1, _ => by simp
  | r :: us, k + 1, hl => by
    have h1 := hl r (by simp)
    rw [List.flatten_cons, List.take_succ_cons, List.flatten_cons, ← flatten_take us k fun x hx => hl x (by simp [hx]), Nat.add_mul, Nat.one_mul, Nat.add_comm, ← h1, List.take_length_add_append]
theorem HB.cutM {K : KS} {ρ : Ren} {e e2 : TypeId} {sh sh2 : List SK} {xs : List (Row sh × List (Row sh2))} {a0 : Option Addr} {n c0 : Nat} {l u : Int} (q : HB w K ρ (.mixe e e2 sh sh2 xs) (.sv (.slice a0 n c0))) (_ : 0 ≤ l) (h1 : l ≤ u) (h2 : u ≤ xs.length) :
    n = xs.length ∧ xs.length ≤ c0 ∧ ∃ m, sliced a0 l.toNat u.toNat c0 (sh.length + 1) = .slice (if c0 = l.toNat then a0 else a0.map (·.add (l.toNat * (sh.length + 1)))) (cutL xs l u).length m ∧ HB w K ρ (.mixe e e2 sh sh2 (cutL xs l u)) (.sv (sliced a0 l.toNat u.toNat c0 (sh.length + 1))) := by
  obtain ⟨hp, us, hus, a, c, e1, hc, hcell⟩ := q
  cases e1
  have hl0 := hus.length
  have hus2 : All2 (MixR w K sh sh2) (cutL xs l u) (cutL us l u) := (hus.take _).drop _
  have hlen : (cutL us l u).length = u.toNat - l.toNat := by simp only [cutL, List.length_drop, List.length_take]; omega
  have hlen2 : (cutL xs l u).length = u.toNat - l.toNat := by rw [hus2.length]; exact hlen
  refine ⟨hl0.symm, by omega, c0 - l.toNat, by rw [hlen2]; rfl, hp, cutL us l u, hus2, _, c0 - l.toNat, by rw [hlen]; rfl, by rw [hlen]; omega, fun j v hj => ?_⟩
  have hjl := (List.getElem?_eq_some_iff.1 hj).1
  have hlt : l.toNat < u.toNat := by
    apply Nat.lt_of_not_le
    intro hle
    have : cutL us l u = [] := List.eq_nil_of_length_eq_zero (by rw [hlen]; omega)
    rw [this] at hjl; simp at hjl
  simp only [cutL] at hj
  have hl1 := MixR.len hus
  rw [← flatten_drop (s := sh.length + 1) _ _ (fun r hr => hl1 r (List.mem_of_mem_take hr)), ← flatten_take (s := sh.length + 1) _ _ hl1, List.getElem?_drop, List.getElem?_take] at hj
  split at hj <;> first | cases hj; done | skip
  obtain ⟨ad, e2, e3, e4⟩ := hcell _ v hj
  subst e2
  refine ⟨ad.add (l.toNat * (sh.length + 1)), by rw [if_neg (by omega)]; rfl, by rw [add_add]; exact e3, by rw [add_block]; exact e4⟩

theorem den_buildSlice {t : TypeId} {len : Nat} {parts : Array (Nat × Operand)} (hop : o.op = .buildSlice t len parts) (hv : ∀ x, VR ρ (ρe x) (a.eval x)) (hr : HR w B ρ h) (hmask : Mask hm h) (hk : ρ key = none)
    (hd : den E key ρe hm o = .val true v nb u) : OpOK E o a w B ρ h key v nb u := by
  simp only [den, hop] at hd
  split at hd <;> first | cases hd; done | skip
  rename_i e hu
  split at hd
  case h_2 =>
    split at hd
    case h_2 =>
      split at hd <;> first | cases hd; done | skip
      rename_i sh e2 sh2 x hnt hparts
      split at hd <;> first | cases hd; done | skip
      rename_i hlen
      split at hd <;> first | cases hd; done | skip
      rename_i y hy
      obtain ⟨_, rfl, rfl, rfl⟩ := val_inj hd
      obtain ⟨hc1, _, hzz, h0, hmx⟩ := mixT_some hnt
      obtain ⟨i, zv, hi, hzv, hzs⟩ := hzz
      obtain ⟨c, hcv, hE⟩ := mixRow_ok hy (hv x) (hr.mask hmask)
      have hcell : (a.eval x).cells = c := by rw [hcv]; rfl
      have hcs : c.size = sh.length + 1 := by
        obtain ⟨uu, h1, _⟩ := hE
        rw [← Array.length_toList, h1]; simp [Row.length_vals]
      obtain ⟨c', hc', hcl⟩ := fill_seq (sh.length + 1) [(0, a.eval x)] 0 (madeCells zv.cells (1 * (sh.length + 1))) rfl (by intro p hp; simp only [List.mem_singleton] at hp; subst hp; simp [hcell, hcs]) (by simp [size_madeCells])
      have hc2 : c'.toList = [c.toList].flatten := by
        rw [hcl]
        simp only [Nat.zero_mul, List.take_zero, List.nil_append, List.flatMap_cons, List.flatMap_nil, hcell, List.length_singleton]
        rw [List.drop_eq_nil_of_le (by simp [size_madeCells])]
        simp
      subst hlen
      refine .mix (c := c') (us := [c.toList]) hr hk h0 (.cons hE .nil) hc2 (by simp [maxLen]) ?_
      have hsz2 : i.size = sh.length + 1 := by rw [← hc1]; simp [Program.cellsOf, hi]
      have hc'' : Instr.fill (fun i => some (i * (sh.length + 1), sh.length + 1)) ((Array.range (sh.length + 1)).map fun x => zv.cells[x % zv.cells.size]!) [(0, a.eval x)] = some c' := by simpa [madeCells] using hc'
      simp [execOp, hop, Instr.buildSlice, run_underlying hu, run_sizeOf hi, hc1, newRow, run_zeroValue hi hzv, hparts, hc'', hmx]
    rename_i e2 sh x hnt hparts
    split at hd <;> first | cases hd; done | skip
    rename_i hlen
    split at hd <;> first | cases hd; done | skip
    rename_i xs hxs
    obtain ⟨_, rfl, rfl, rfl⟩ := val_inj hd
    obtain ⟨_, hc1, _, hzz, h0⟩ := nestT_some hnt
    obtain ⟨i, zv, hi, hzv, _⟩ := hzz
    have hE := extOf_ok hxs (hv x) (hr.mask hmask)
    have hcell : (a.eval x).cells = #[a.eval x] := by obtain ⟨aa, c, h1, _⟩ := hE; rw [h1]; rfl
    obtain ⟨c', hc', hcl⟩ := fill_seq 1 [(0, a.eval x)] 0 (madeCells zv.cells (1 * 1)) rfl (by intro p hp; simp only [List.mem_singleton] at hp; subst hp; simp [hcell]) (by simp [size_madeCells])
    have hc2 : c'.toList = [a.eval x] := by
      rw [hcl]
      simp only [Nat.zero_mul, List.take_zero, List.nil_append, List.flatMap_cons, List.flatMap_nil, hcell, List.length_singleton]
      rw [List.drop_eq_nil_of_le (by simp [size_madeCells])]
      rfl
    subst hlen
    refine .nest (c := c') hr hk h0 (by rw [hc2]; exact .cons hE .nil) (by simp [maxLen]) ?_
    have hsz2 : i.size = 1 := by rw [← hc1]; simp [Program.cellsOf, hi]
    have hc'' : Instr.fill (fun i => some (i, 1)) ((Array.range 1).map fun x => zv.cells[x % zv.cells.size]!) [(0, a.eval x)] = some c' := by simpa [madeCells] using hc'
    simp [execOp, hop, Instr.buildSlice, run_underlying hu, run_sizeOf hi, hc1, newRow, run_zeroValue hi hzv, hparts, hc'']
  rename_i sh hsh
  split at hd <;> first | cases hd; done | skip
  rename_i z hz
  split at hd <;> first | cases hd; done | skip
  rename_i hcnd
  obtain ⟨hlen, hidx, hmax⟩ := hcnd
  split at hd <;> first | cases hd; done | skip
  rename_i xs hxs
  obtain ⟨_, rfl, rfl, rfl⟩ := val_inj hd
  obtain ⟨hp, hcs, i, zv, hi, hzv, hvals, hsz⟩ := zeroRow_some hz
  obtain ⟨hfl, hxl, hsizes⟩ := mapM_rows hv hxs
  have hsz2 : i.size = sh.length := by rw [← hcs]; simp [Program.cellsOf, hi]
  have hpl : parts.toList.length = len := by simpa using hlen
  have hq := fill_seq sh.length (parts.toList.map fun p => (p.1, a.eval p.2)) 0 (madeCells zv.cells (len * sh.length)) (by simp [hpl, List.map_map, Function.comp_def]; simpa using hidx) hsizes (by simp [size_madeCells, hpl])
  obtain ⟨c', hc', hcl⟩ := hq
  have hc2 : c'.toList = flat sh xs := by
    rw [hcl, hfl]
    simp only [Nat.zero_mul, List.take_zero, List.nil_append, Nat.zero_add, List.length_map]
    rw [List.drop_eq_nil_of_le (by simp [size_madeCells, hpl])]
    simp
  have hlx : xs.length = len := by rw [hxl]; exact hpl
  have hmaxl : len ≤ 16777216 := by
    have : len * 1 ≤ len * sh.length := Nat.mul_le_mul_left _ (by omega)
    rw [hcs] at hmax; omega
  refine .row (c := c') hr hk hp hc2 (by rw [hlx]; simp [maxLen]; omega) ?_
  rw [hlx]
  have hne : ¬ (len * sh.length > 2 ^ 24) := by rw [hcs] at hmax; omega
  by_cases h0 : len * sh.length = 0
  · have hc'' : Instr.fill (fun i => some (i * sh.length, sh.length)) #[] (parts.toList.map fun p => (p.1, a.eval p.2)) = some c' := by
      rw [← hc']; congr 1; simp [madeCells, h0, Array.range_zero']
    simp [execOp, hop, Instr.buildSlice, run_underlying hu, run_sizeOf hi, hcs, h0, newRow, hc'', Array.range_zero']
  · simp [execOp, hop, Instr.buildSlice, run_underlying hu, run_sizeOf hi, hcs, h0, newRow, run_zeroValue hi hzv]
    rw [if_neg (by omega)]
    have hc'' : Instr.fill (fun i => some (i * sh.length, sh.length)) ((Array.range (len * sh.length)).map fun x => zv.cells[x % zv.cells.size]!) (parts.toList.map fun p => (p.1, a.eval p.2)) = some c' := hc'
    simp [hc'']

theorem run_bounds {P : Program} {lo hi : Option Operand} {l u : Int} {n cap : Nat} (isSlice : Bool) (hv : ∀ x, VR ρ (ρe x) (a.eval x)) (hl : bndA ρe lo 0 = some l) (hu : bndA ρe hi (n : Int) = some u)
    (h0 : 0 ≤ l) (h1 : l ≤ u) (h2 : u ≤ n) (hc : n ≤ cap) (w : World) :
    (Instr.sliceBounds isSlice n cap (lo.map a.eval) (hi.map a.eval) none).run P w = .ok (l.toNat, u.toNat, cap) w := by
  have hb : ∀ {x : Option Operand} {d z : Int}, bndA ρe x d = some z → (x = none ∧ z = d) ∨ ∃ o k, x = some o ∧ a.eval o = .int k z := by
    intro x d z h
    cases x with
    | none => exact .inl ⟨rfl, (Option.some.inj h).symm⟩
    | some o =>
      simp only [bndA] at h
      split at h <;> first | cases h; done | skip
      rename_i k m e
      obtain rfl := Option.some.inj h
      have := hv o
      rw [e] at this
      exact .inr ⟨o, k, rfl, this.int_inv⟩
  rcases hb hl with ⟨rfl, rfl⟩ | ⟨x, k, rfl, ex⟩ <;> rcases hb hu with ⟨rfl, rfl⟩ | ⟨y, k', rfl, ey⟩
  · simp [Instr.sliceBounds]
  · simp [Instr.sliceBounds, ey, run_sliceBound, (by omega : 0 ≤ u), (by omega : u ≤ (cap : Int))]
  · simp [Instr.sliceBounds, ex, run_sliceBound, h0, (by omega : l ≤ (n : Int))]
  · have eh : (u.toNat : Int) = u := Int.toNat_of_nonneg (by omega)
    simp [Instr.sliceBounds, ex, ey, run_sliceBound, h0, (by omega : 0 ≤ u), (by omega : u ≤ (cap : Int)), eh, h1]

theorem flat_drop (sh : List SK) : ∀ (n : Nat) (xs : List (Row sh)), flat sh (xs.drop n) = (flat sh xs).drop (n * sh.length)
  | 0, xs => by simp
  | n + 1, [] => by simp [flat]
  | n + 1, x :: xs => by
    rw [List.drop_succ_cons, flat_drop sh n xs, flat_cons]
    have e : (n + 1) * sh.length = (Row.vals sh x).length + n * sh.length := by rw [Row.length_vals, Nat.add_mul]; omega
    rw [e, List.drop_length_add_append]
theorem flat_take (sh : List SK) : ∀ (n : Nat) (xs : List (Row sh)), flat sh (xs.take n) = (flat sh xs).take (n * sh.length)
  | 0, xs => by simp [flat]
  | n + 1, [] => by simp [flat]
  | n + 1, x :: xs => by
    rw [List.take_succ_cons, flat_cons, flat_take sh n xs, flat_cons]
    have e : (n + 1) * sh.length = (Row.vals sh x).length + n * sh.length := by rw [Row.length_vals, Nat.add_mul]; omega
    rw [e, List.take_length_add_append]

theorem HB.cut {K : KS} {ρ : Ren} {e : TypeId} {sh : List SK} {xs : List (Row sh)} {a0 : Option Addr} {n c0 : Nat} {l u : Int} (q : HB w K ρ (.ext e sh xs) (.sv (.slice a0 n c0))) (_ : 0 ≤ l) (h1 : l ≤ u) (h2 : u ≤ xs.length) :
    ∃ m, sliced a0 l.toNat u.toNat c0 sh.length = .slice (if c0 = l.toNat then a0 else a0.map (·.add (l.toNat * sh.length))) (cutL xs l u).length m ∧ HB w K ρ (.ext e sh (cutL xs l u)) (.sv (sliced a0 l.toNat u.toNat c0 sh.length)) := by
  obtain ⟨hp, a, c, e1, hc, hcell⟩ := q
  cases e1
  have hlen : (cutL xs l u).length = u.toNat - l.toNat := by simp only [cutL, List.length_drop, List.length_take]; omega
  refine ⟨c0 - l.toNat, by rw [hlen]; rfl, hp, _, c0 - l.toNat, by rw [hlen]; rfl, by rw [hlen]; omega, fun j v hj => ?_⟩
  have hjl := (List.getElem?_eq_some_iff.1 hj).1
  rw [flat_length, hlen] at hjl
  have hlt : l.toNat < u.toNat := by
    apply Nat.lt_of_not_le
    intro hle
    rw [Nat.sub_eq_zero_of_le hle] at hjl; simp at hjl
  simp only [cutL] at hj
  rw [flat_drop, flat_take, List.getElem?_drop, List.getElem?_take] at hj
  split at hj <;> first | cases hj; done | skip
  obtain ⟨ad, e2, e3, e4⟩ := hcell _ v hj
  subst e2
  refine ⟨ad.add (l.toNat * sh.length), by rw [if_neg (by omega)]; rfl, by rw [add_add]; exact e3, by rw [add_block]; exact e4⟩

theorem owns_cut {K : KS} {e : TypeId} {sh : List SK} {xs : List (Row sh)} {a0 : Option Addr} {n c0 : Nat} {l u : Int} (q : Owns w K e sh.length (.slice a0 n c0) xs.length (flat sh xs)) (_ : 0 ≤ l) (h1 : l ≤ u) (h2 : u ≤ xs.length) :
    (∃ a m c, sliced a0 l.toNat u.toNat c0 sh.length = .slice a m c) ∧ Owns w K e sh.length (sliced a0 l.toNat u.toNat c0 sh.length) (cutL xs l u).length (flat sh (cutL xs l u)) ∧ ∀ g, rowBlk (sliced a0 l.toNat u.toNat c0 sh.length) = some g → rowBlk (.slice a0 n c0) = some g := by
  have hlen : (cutL xs l u).length = u.toNat - l.toNat := by simp only [cutL, List.length_drop, List.length_take]; omega
  have hsl : sliced a0 l.toNat u.toNat c0 sh.length = .slice (if c0 = l.toNat then a0 else a0.map (·.add (l.toNat * sh.length))) (u.toNat - l.toNat) (c0 - l.toNat) := rfl
  refine ⟨⟨_, _, _, hsl⟩, ?_⟩
  have nil : ∀ a : Option Addr, u.toNat - l.toNat = 0 → sliced a0 l.toNat u.toNat c0 sh.length = .slice a 0 0 → Owns w K e sh.length (sliced a0 l.toNat u.toNat c0 sh.length) (cutL xs l u).length (flat sh (cutL xs l u)) ∧ ∀ g, rowBlk (sliced a0 l.toNat u.toNat c0 sh.length) = some g → rowBlk (.slice a0 n c0) = some g := by
    intro a h0 e0
    have : cutL xs l u = [] := List.eq_nil_of_length_eq_zero (by omega)
    rw [e0, this]
    exact ⟨Owns.none w K e sh.length a, fun g hg => by cases a <;> simp [rowBlk] at hg⟩
  obtain ⟨hrow, hbo⟩ := q
  rcases hrow with hrow | ⟨h3, h4, a, e1⟩
  case inr =>
    cases e1
    exact nil (some a) (by omega) (by rw [hsl, if_pos (by omega), show u.toNat - l.toNat = 0 by omega, Nat.zero_sub])
  rcases hrow.2 with ⟨e1, h3⟩ | ⟨g, o, cap, cur, e1, hg, hnc, hcm, hcs, htake⟩
  · cases e1
    exact nil none (by omega) (by rw [hsl, if_pos (by omega), show u.toNat - l.toNat = 0 by omega, Nat.zero_sub])
  · cases e1
    by_cases hc : c0 = l.toNat
    · exact nil (some ⟨g, o, none⟩) (by omega) (by rw [hsl, if_pos hc, show u.toNat - l.toNat = 0 by omega, show c0 - l.toNat = 0 by omega])
    have hlc : l.toNat ≤ c0 := by omega
    have hm : l.toNat * sh.length + (c0 - l.toNat) * sh.length = c0 * sh.length := by rw [← Nat.add_mul]; congr 1; omega
    have e2 : sliced (some ⟨g, o, none⟩) l.toNat u.toNat c0 sh.length = .slice (some ⟨g, o + l.toNat * sh.length, none⟩) (u.toNat - l.toNat) (c0 - l.toNat) := by
      rw [hsl, if_neg hc]; simp only [Option.map_some, Addr.add_lit]
    rw [e2]
    have hrb : ∀ g', rowBlk (.slice (some ⟨g, o + l.toNat * sh.length, none⟩) (u.toNat - l.toNat) (c0 - l.toNat)) = some g' → rowBlk (.slice (some ⟨g, o, none⟩) xs.length c0) = some g' := by
      intro g' hg'
      simp only [rowBlk] at hg' ⊢
      split at hg'
      · cases hg'
      · rw [if_neg (by omega)]; exact hg'
    refine ⟨⟨.inl ⟨flat_length _ _, .inr ⟨g, o + l.toNat * sh.length, c0 - l.toNat, cur, by rw [hlen], hg, by rw [hlen]; omega, by omega, by omega, ?_⟩⟩, fun g' hg' => hbo g' (hrb g' hg')⟩, hrb⟩
    have e3 : flat sh (cutL xs l u) = ((flat sh xs).take (u.toNat * sh.length)).drop (l.toNat * sh.length) := by simp only [cutL]; rw [flat_drop, flat_take]
    rw [e3, ← htake, hlen, ← List.drop_drop, List.take_take, Nat.min_eq_left (Nat.mul_le_mul_right _ (by omega)), List.drop_take]
    congr 1
    rw [Nat.sub_mul]

theorem den_slice {t : TypeId} {x : Operand} {lo hi mx : Option Operand} (hop : o.op = .slice t x lo hi mx) (hv : ∀ x, VR ρ (ρe x) (a.eval x)) (hr : HR w B ρ h) (hmask : Mask hm h) (hk : ρ key = none)
    (hd : den E key ρe hm o = .val true v nb u) : OpOK E o a w B ρ h key v nb u := by
  have hx := hv x
  cases mx with
  | some mx =>
    cases hi with
    | none => simp [den, hop] at hd
    | some hi =>
    have hlo : ∀ l : Int, bndA ρe lo 0 = some l → (lo = none ∧ l = 0) ∨ ∃ o k, lo = some o ∧ a.eval o = .int k l := by
      intro l hl
      cases lo with
      | none => exact .inl ⟨rfl, (Option.some.inj hl).symm⟩
      | some o =>
        simp only [bndA] at hl
        split at hl <;> first | cases hl; done | skip
        rename_i k m e
        obtain rfl := Option.some.inj hl
        have := hv o
        rw [e] at this
        exact .inr ⟨o, k, rfl, this.int_inv⟩
    have hsz : ∀ (cap n : Nat) (ku km : IntKind) (l : Int), bndA ρe lo 0 = some l → l = 0 → a.eval hi = .int ku 0 → a.eval mx = .int km 0 → (Instr.sliceBounds true n cap (lo.map a.eval) (some (a.eval hi)) (some (a.eval mx))).run E.P w = .ok (0, 0, 0) w := by
      intro cap n ku km l hl e0 eh em
      subst e0
      rcases hlo 0 hl with ⟨rfl, _⟩ | ⟨o, k, rfl, eo⟩
      · simp [Instr.sliceBounds, eh, em, run_sliceBound]
      · simp [Instr.sliceBounds, eh, em, eo, run_sliceBound]
    have hh := hv hi; have hm2 := hv mx
    simp only [den, hop] at hd
    split at hd <;> first | cases hd; done | skip
    · rename_i e l ku u0 km m hu e1 e2 e3 e4
      split at hd <;> first | cases hd; done | skip
      rename_i hinfo
      obtain ⟨hb, rfl, rfl, rfl⟩ := val_inj hd
      simp only [Bool.and_eq_true, decide_eq_true_eq] at hb
      obtain ⟨z, hz⟩ := Option.isSome_iff_exists.1 hinfo
      rw [e1] at hx; rw [e3, hb.2.1] at hh; rw [e4, hb.2.2] at hm2
      have hx' : a.eval x = .slice none 0 0 := hx
      refine .pure hr (v' := .slice none 0 0) ?_ rfl
      simp [execOp, hop, hx', Instr.sliceAt, Instr.slice, run_underlying hu, hsz 0 0 ku km l e2 hb.1 hh.int_inv hm2.int_inv, run_sizeOf hz]
    · rename_i e k l ku u0 km m hu e1 e2 e3 e4
      split at hd <;> first | cases hd; done | skip
      rename_i hinfo
      cases hkk : hm[k]? with
      | none => rw [hkk] at hd; cases hd
      | some blk =>
        rw [hkk] at hd
        cases blk <;> first | cases hd; done | skip
        rename_i e' sh xs
        obtain ⟨hb, rfl, rfl, rfl⟩ := val_inj hd
        simp only [Bool.and_eq_true, decide_eq_true_eq] at hb
        obtain ⟨z, hz⟩ := Option.isSome_iff_exists.1 hinfo
        rw [e1] at hx; rw [e3, hb.2.1] at hh; rw [e4, hb.2.2] at hm2
        obtain ⟨hk1, aa, n, c, hev⟩ := hx
        have hkh := (hmask.get k _ hkk).resolve_left (by simp)
        rcases hr.blk k _ hkh with e0 | ⟨r, hr', hB⟩
        · cases e0
        rw [hk1] at hr'; obtain rfl := Option.some.inj hr'
        have hp := hB.1
        have hle := Ren.le_set ρ key (.sv (.slice aa 0 0)) hk
        refine ⟨_, .slice aa 0 0, w, ρ.set key (.sv (.slice aa 0 0)), ?_, .inl rfl, hle, fun k' hne => Ren.set_other _ _ _ _ hne, ⟨Ren.set_same _ _ _, _, _, _, rfl⟩, Kp.refl _ _, fun h' hres => ?_⟩
        · simp [execOp, hop, hev, Instr.sliceAt, Instr.slice, run_underlying hu, hsz c n ku km l e2 hb.1 hh.int_inv hm2.int_inv, run_sizeOf hz]
        · refine (hr.new hk hres (show HB w B _ (.rows e sh []) (.sv (.slice aa 0 0)) from ⟨hp, Owns.none w B e sh.length aa⟩) fun g hg => ?_).x
          cases aa <;> simp [ownB, rowBlk] at hg
  | none =>
  simp only [den, hop] at hd
  split at hd <;> first | cases hd; done | skip
  · rename_i s hu e1
    split at hd <;> first | cases hd; done | skip
    rename_i l up hl hup
    obtain ⟨hb, rfl, rfl, rfl⟩ := val_inj hd
    rw [e1] at hx
    simp only [bndOK, Bool.and_eq_true, decide_eq_true_eq] at hb
    refine .pure hr (v' := .string (cutB s l up)) ?_ rfl
    have hrb := run_bounds (P := E.P) false hv hl hup hb.1 hb.2.1 hb.2.2 (Nat.le_refl _) w
    simp [execOp, hop, hx.str_inv, Instr.sliceAt, Instr.slice, run_underlying hu, hrb, cutB]
  · rename_i e hu e1
    split at hd <;> first | cases hd; done | skip
    rename_i hinfo
    split at hd <;> first | cases hd; done | skip
    rename_i l up hl hup
    obtain ⟨hb, rfl, rfl, rfl⟩ := val_inj hd
    rw [e1] at hx
    simp only [bndOK, Bool.and_eq_true, decide_eq_true_eq] at hb
    obtain ⟨z, hz⟩ := Option.isSome_iff_exists.1 hinfo
    refine .pure hr (v' := .slice none 0 0) ?_ rfl
    have hrb := run_bounds (P := E.P) (n := 0) true hv hl hup hb.1 hb.2.1 hb.2.2 (Nat.le_refl _) w
    have hx' : a.eval x = .slice none 0 0 := hx
    have e0 : up.toNat = 0 := by omega
    simp [execOp, hop, hx', Instr.sliceAt, Instr.slice, run_underlying hu, hrb, run_sizeOf hz, e0]
  · rename_i e k hu e1
    rw [e1] at hx
    obtain ⟨hk1, hsl0⟩ := hx
    have main : ∀ (e' : TypeId) (sh : List SK) (xs : List (Row sh)) (l up : Int) (h1 : List AB) (K : KS), (E.P.info? e).isSome ∧ sh.length = E.P.cellsOf e → bndA ρe lo 0 = some l → bndA ρe hi (xs.length : Int) = some up →
        bndOK l up (xs.length : Int) = true → Sub B K → HR w K ρ h1 → HB w K ρ (.ext e' sh xs) (.sv (a.eval x)) → (∀ h', Res h h' key nb u → Placed h1 h' key (.ext e' sh (cutL xs l up))) → v = .sl key → OpOK E o a w B ρ h key v nb u := by
      intro e' sh xs l up h1 K hc hl hup hb hs hq hB hpl hv0
      subst hv0
      simp only [bndOK, Bool.and_eq_true, decide_eq_true_eq] at hb
      obtain ⟨z, hz⟩ := Option.isSome_iff_exists.1 hc.1
      have hB' := hB
      obtain ⟨hp, a0, c0, hev, hcap, hcell⟩ := hB
      rw [hev] at hB'
      obtain ⟨m, hm1, hm2⟩ := hB'.cut hb.1 hb.2.1 hb.2.2
      have hrb := run_bounds (P := E.P) true hv hl hup hb.1 hb.2.1 hb.2.2 hcap w
      have hle := Ren.le_set ρ key (.sv (sliced a0 l.toNat up.toNat c0 sh.length)) hk
      refine ⟨_, _, _, ρ.set key (.sv (sliced a0 l.toNat up.toNat c0 sh.length)), ?_, .inl rfl, hle, fun k' hne => Ren.set_other _ _ _ _ hne, ⟨Ren.set_same _ _ _, _, _, _, hm1⟩, Kp.refl _ _, fun h' hres => ?_⟩
      · simp [execOp, hop, hev, Instr.sliceAt, Instr.slice, run_underlying hu, hrb, run_sizeOf hz, sliced, ← hc.2]
      · exact ⟨K, hs, hq.new hk (hpl h' hres) (hm2.mono hle) fun g hg => by cases hg⟩
    cases hkk : hm[k]? with
    | none => rw [hkk] at hd; cases hd
    | some blk =>
      rw [hkk] at hd
      rcases hmask.get k blk hkk with e0 | hkh
      · subst e0; cases hd
      cases blk <;> first | cases hd; done | skip
      · rename_i e' sh xs
        dsimp only at hd
        split at hd <;> first | cases hd; done | skip
        rename_i hc
        split at hd <;> first | cases hd; done | skip
        rename_i l up hl hup
        obtain ⟨hb, rfl, rfl, rfl⟩ := val_inj hd
        rcases hr.blk k _ hkh with e0 | ⟨r, hr', hB⟩
        · cases e0
        rw [hk1] at hr'; obtain rfl := Option.some.inj hr'
        obtain ⟨aa, n0, c0, hev⟩ := hsl0
        simp only [bndOK, Bool.and_eq_true, decide_eq_true_eq] at hb
        replace hc := hc.2
        obtain ⟨z, hz⟩ := Option.isSome_iff_exists.1 hc.1
        have hB' := hB.2
        rw [hev] at hB'
        obtain ⟨⟨a1, m1, c1, hs1⟩, ho1, hrb1⟩ := owns_cut hB' hb.1 hb.2.1 hb.2.2
        have hn0 : n0 = xs.length ∧ xs.length ≤ c0 := by
          rcases hB'.row with h5 | ⟨h3, _, a4, e4⟩
          · rcases h5.2 with ⟨e4, h6⟩ | ⟨g, o1, cap, cur, e4, _, h7, _⟩
            · cases e4; exact ⟨by omega, by omega⟩
            · cases e4; exact ⟨rfl, h7⟩
          · cases e4; exact ⟨by omega, by omega⟩
        obtain ⟨hn0, hcap⟩ := hn0
        subst hn0
        have hrb := run_bounds (P := E.P) true hv hl hup hb.1 hb.2.1 hb.2.2 hcap w
        have hle := Ren.le_set ρ key (.sv (sliced aa l.toNat up.toNat c0 sh.length)) hk
        refine ⟨_, _, _, ρ.set key (.sv (sliced aa l.toNat up.toNat c0 sh.length)), ?_, .inl rfl, hle, fun k' hne => Ren.set_other _ _ _ _ hne, ⟨Ren.set_same _ _ _, _, _, _, hs1⟩, Kp.refl _ _, fun h' hres => ?_⟩
        · simp [execOp, hop, hev, Instr.sliceAt, Instr.slice, run_underlying hu, hrb, run_sizeOf hz, sliced, ← hc.2]
        · refine ((hr.forget k).new (r := .sv (sliced aa l.toNat up.toNat c0 sh.length)) hk hres (show HB w B _ (.rows e' sh (cutL xs l up)) (.sv _) from ⟨hB.1, ho1⟩) ?_).x
          intro g hg k2 b2 r2 hkk2 hkb hkr ho
          simp only [ownB] at hg
          have hg2 := hrb1 g hg
          by_cases ek : k2 = k
          · subst ek
            simp only [List.getElem?_set, if_true] at hkb
            split at hkb
            · obtain rfl := Option.some.inj hkb; simp [ownB] at ho
            · cases hkb
          · rw [List.getElem?_set_ne (Ne.symm ek)] at hkb
            exact hr.sep k _ k2 b2 _ r2 g (Ne.symm ek) hkh hkb hk1 hkr (by simp only [ownB]; rw [hev]; exact hg2) ho
      · rename_i e' sh xs
        dsimp only at hd
        split at hd <;> first | cases hd; done | skip
        rename_i hc
        split at hd <;> first | cases hd; done | skip
        rename_i l up hl hup
        obtain ⟨hb, rfl, rfl, rfl⟩ := val_inj hd
        rcases hr.blk k _ hkh with e0 | ⟨r, hr', hB⟩
        · cases e0
        rw [hk1] at hr'; obtain rfl := Option.some.inj hr'
        exact main e' sh xs l up h B hc hl hup hb (Sub.refl _) hr hB (fun h' hres => hres) rfl
      · rename_i e' e2 sh sh2 xs
        dsimp only at hd
        split at hd <;> first | cases hd; done | skip
        rename_i hc
        split at hd <;> first | cases hd; done | skip
        rename_i l up hl hup
        obtain ⟨hb, rfl, rfl, rfl⟩ := val_inj hd
        rcases hr.blk k _ hkh with e0 | ⟨r, hr', hB⟩
        · cases e0
        rw [hk1] at hr'; obtain rfl := Option.some.inj hr'
        obtain ⟨aa, n0, c0, hev⟩ := hsl0
        simp only [bndOK, Bool.and_eq_true, decide_eq_true_eq] at hb
        obtain ⟨z, hz⟩ := Option.isSome_iff_exists.1 hc.1
        rw [hev] at hB
        obtain ⟨hn0, hcap, m, hm1, hm2⟩ := hB.cutM hb.1 hb.2.1 hb.2.2
        subst hn0
        have hrb := run_bounds (P := E.P) true hv hl hup hb.1 hb.2.1 hb.2.2 hcap w
        have hle := Ren.le_set ρ key (.sv (sliced aa l.toNat up.toNat c0 (sh.length + 1))) hk
        refine ⟨_, _, _, ρ.set key (.sv (sliced aa l.toNat up.toNat c0 (sh.length + 1))), ?_, .inl rfl, hle, fun k' hne => Ren.set_other _ _ _ _ hne, ⟨Ren.set_same _ _ _, _, _, _, hm1⟩, Kp.refl _ _, fun h' hres => ?_⟩
        · simp [execOp, hop, hev, Instr.sliceAt, Instr.slice, run_underlying hu, hrb, run_sizeOf hz, sliced, ← hc.2]
        · exact (hr.new hk hres (hm2.mono hle) fun g hg => by cases hg).x
end
end Go.Ev
