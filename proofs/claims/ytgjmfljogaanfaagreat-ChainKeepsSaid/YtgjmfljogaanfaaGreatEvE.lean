/- The operations: the machine's do what the abstract ones say. -/
import Derived.Test.YtgjmfljogaanfaaGreatEvD
import Derived.Laws.AppendOwn
namespace Go.Ev
open Go.RowKit

theorem ofLeaf_rel (ρ : Ren) (v : Value) (h : v.oneCell' = true) : LR ρ (AV.ofLeaf v) v := by
  unfold AV.ofLeaf
  split <;> first | rfl | exact h
theorem ofConst_leaf {v : Value} (h : v.oneCell' = true) : AV.ofConst v = AV.ofLeaf v := by
  cases v <;> first | rfl | (simp [Value.oneCell'] at h)
theorem ofConst_rel (ρ : Ren) (v : Value) : VR ρ (AV.ofConst v) v := by
  cases v
  case agg cs =>
    simp only [AV.ofConst]
    split
    · rename_i h
      refine ⟨cs, rfl, ?_⟩
      have := All2.of_map (R := LR ρ) (l := cs.toList) (f := AV.ofLeaf) (g := id) (fun x hx => ofLeaf_rel ρ x (List.all_eq_true.1 h x hx))
      simpa using this
    · trivial
  case tuple vs => trivial
  all_goals (rw [ofConst_leaf rfl]; exact VR.of_LR (ofLeaf_rel ρ _ rfl))
theorem eval_rel {ρ : Ren} {s : St} {a : Act} (ht : ∀ i x, s.tmps[i]? = some x → VR ρ x (a.tmps.getD i undef)) (x : Operand) : VR ρ (s.eval x) (a.eval x) := by
  cases x with
  | tmp t =>
    simp only [St.eval, Act.eval]
    cases h : s.tmps[t]? with
    | none => trivial
    | some v => exact ht t v h
  | const v => exact ofConst_rel ρ v
  | global g => trivial
  | func f =>
    simp only [St.eval]
    split
    · rename_i h
      exact ⟨#[], (fnV_lt h _).symm, .nil⟩
    · trivial

theorem VR.int_inv {ρ : Ren} {k n v} (h : VR ρ (.int k n) v) : v = .int k n := h
theorem VR.bool_inv {ρ : Ren} {b v} (h : VR ρ (.bool b) v) : v = .bool b := h
theorem VR.str_inv {ρ : Ren} {b v} (h : VR ρ (.str b) v) : v = .string b := h

section
variable {E : Env} {o : Oper} {a : Act} {w : World} {B : KS} {ρ : Ren} {h hm : List AB} {key : Nat} {v : AV} {nb : Option AB} {u : Option (Nat × AB)} {ρe : Operand → AV}

theorem val1_eq {x : AV} (hd : val1 x = .val true v nb u) : v = x ∧ nb = none ∧ u = none := by
  cases hd; exact ⟨rfl, rfl, rfl⟩

theorem val_inj {c : Bool} {v0 : AV} {n0 : Option AB} {u0 : Option (Nat × AB)} (hd : Out.val c v0 n0 u0 = .val true v nb u) : c = true ∧ v0 = v ∧ n0 = nb ∧ u0 = u := by
  cases hd; exact ⟨rfl, rfl, rfl, rfl⟩

theorem den_move {x : Operand} (hop : o.op = .move x ∨ o.op = .assign x) (hv : ∀ x, VR ρ (ρe x) (a.eval x)) (hr : HR w B ρ h)
    (hd : den E key ρe hm o = .val true v nb u) : OpOK E o a w B ρ h key v nb u := by
  have hd' : val1 (ρe x) = .val true v nb u := by rcases hop with e | e <;> (simp only [den, e] at hd; exact hd)
  obtain ⟨rfl, rfl, rfl⟩ := val1_eq hd'
  exact .pure hr (by rcases hop with e | e <;> simp [execOp, e]) (hv x)

theorem den_pick {c x y : Operand} (hop : o.op = .pick c x y) (hv : ∀ x, VR ρ (ρe x) (a.eval x)) (hr : HR w B ρ h)
    (hd : den E key ρe hm o = .val true v nb u) : OpOK E o a w B ρ h key v nb u := by
  simp only [den, hop] at hd
  have hc := hv c; have hx := hv x; have hy := hv y
  split at hd
  · rename_i t k m k' n e1 e2 e3
    split at hd <;> first | cases hd; done | skip
    rename_i e; subst e
    obtain ⟨rfl, rfl, rfl⟩ := val1_eq hd
    rw [e1] at hc; rw [e2] at hx; rw [e3] at hy
    refine .pure hr (v' := .int k (bif t then m else n)) ?_ rfl
    simp only [execOp, hop]
    rw [hc.bool_inv, hx.int_inv, hy.int_inv]
    cases t <;> simp [asBool]
  · rename_i t m n e1 e2 e3
    obtain ⟨rfl, rfl, rfl⟩ := val1_eq hd
    rw [e1] at hc; rw [e2] at hx; rw [e3] at hy
    refine .pure hr (v' := .bool (bif t then m else n)) ?_ rfl
    simp only [execOp, hop]
    rw [hc.bool_inv, hx.bool_inv, hy.bool_inv]
    cases t <;> simp [asBool]
  · rename_i t e1 _ _
    rw [e1] at hc
    obtain ⟨rfl, rfl, rfl⟩ := val1_eq hd
    refine .pure hr (v' := bif t then a.eval x else a.eval y) ?_ (by cases t <;> assumption)
    simp only [execOp, hop]
    rw [hc.bool_inv]
    cases t <;> simp [asBool]
  · cases hd

theorem zeroA_some {P : Program} {t : TypeId} {z : AV} (h : zeroA P t = some z) : ∃ i v, P.info? t = some i ∧ i.zero = some v ∧ z = AV.ofConst v := by
  unfold zeroA at h
  cases hi : P.info? t with
  | none => simp [hi] at h
  | some i =>
    cases hz : i.zero with
    | none => simp [hi, hz] at h
    | some v => simp [hi, hz] at h; exact ⟨i, v, rfl, hz, h.symm⟩

theorem den_alloc {e : TypeId} (hop : o.op = .alloc e) (hr : HR w B ρ h) (hk : ρ key = none)
    (hd : den E key ρe hm o = .val true v nb u) : OpOK E o a w B ρ h key v nb u := by
  simp only [den, hop] at hd
  split at hd <;> first | cases hd; done | skip
  rename_i z hj ht hz
  cases hd
  obtain ⟨i, zv, hi, hzv, rfl⟩ := zeroA_some hz
  refine .var (c := zv.cells) (T := e) hr hk ?_ ((ofConst_rel ρ zv).cells' hj ht)
  simp [execOp, hop, Instr.alloc, run_zeroValue hi hzv, newVar, newRow]

theorem den_box {e : TypeId} {x : Operand} (hop : o.op = .box e x) (hv : ∀ x, VR ρ (ρe x) (a.eval x)) (hr : HR w B ρ h) (hk : ρ key = none)
    (hd : den E key ρe hm o = .val true v nb u) : OpOK E o a w B ρ h key v nb u := by
  simp only [den, hop] at hd
  have hx := hv x
  have key_ : ∀ y : AV, ρe x = y → y ≠ .junk → (∀ l, y ≠ .tup l) → .val true (.ptr key 0) (some (.cells y.cells)) none = Out.val true v nb u → OpOK E o a w B ρ h key v nb u := by
    intro y hy hj ht e
    cases e
    rw [hy] at hx
    refine .var (c := (a.eval x).cells) (T := e) hr hk ?_ (hx.cells' hj ht)
    simp [execOp, hop, Instr.box, newVar, newRow]
  split at hd <;> first | cases hd; done | skip
  rename_i hj ht
  exact key_ _ rfl hj ht hd

theorem den_load {t : TypeId} {x : Operand} (hop : o.op = .load t x) (hv : ∀ x, VR ρ (ρe x) (a.eval x)) (hr : HR w B ρ h) (hmask : Mask hm h) (hk : ρ key = none)
    (hd : den E key ρe hm o = .val true v nb u) : OpOK E o a w B ρ h key v nb u := by
  simp only [den, hop] at hd
  split at hd
  case h_2 =>
    split at hd
    case h_2 =>
      split at hd <;> first | cases hd; done | skip
      rename_i cs b hb
      split at hd <;> first | cases hd; done | skip
      rename_i hc
      obtain ⟨_, rfl, rfl, rfl⟩ := val_inj hd
      obtain ⟨ad, e2, sh, sh2, y, uu, hx, rfl, rfl, h0, hE, hlie⟩ := mixA_ok hb (hv x) (hr.mask hmask)
      have hsl : ∃ aa n c, uu = .slice aa n c := by obtain ⟨aa, c, h1, _⟩ := hE; exact ⟨_, _, _, h1⟩
      have hle := Ren.le_set ρ key (.sv uu) hk
      have hset := Ren.set_same ρ key (.sv uu)
      have hu := hc.2
      unfold aggB at hu
      cases hun : E.P.underlying t with
      | none => simp [hun] at hu
      | some d =>
        simp only [hun, Option.map_some, Option.some.injEq] at hu
        obtain ⟨i, hi⟩ := info_of_underlying hun
        have h1 := run_loadCells_list (P := E.P) w ad _ hlie
        have hlen : (Row.vals sh y.1 ++ [uu]).length = E.P.cellsOf t := by rw [hc.1]; simp [Row.length_vals, Row.length_toAVs]
        rw [hlen] at h1
        refine ⟨.value (.agg (Row.vals sh y.1 ++ [uu]).toArray), .agg (Row.vals sh y.1 ++ [uu]).toArray, w, ρ.set key (.sv uu), ?_, .inl rfl, hle, fun k hne => Ren.set_other _ _ _ _ hne, ⟨_, rfl, ?_⟩, Kp.refl _ _, fun h' hres => ?_⟩
        · simp [execOp, hop, Instr.loadAt, hx, Instr.sureAddr, loadVar, run_isAgg hun, hu, run_sizeOf hi, h1]
        · exact (Row.rel _ sh y.1).append (.cons ⟨hset, hsl⟩ .nil)
        · refine (hr.new hk hres (show HB w B _ (.ext e2 sh2 y.2) (.sv uu) from ⟨h0, hE⟩) fun g hg => by cases hg).x
    rename_i b hb
    split at hd <;> first | cases hd; done | skip
    rename_i hc
    obtain ⟨_, rfl, rfl, rfl⟩ := val_inj hd
    obtain ⟨ad, u, e2, sh, xs, hx, hcell, rfl, h0, hE⟩ := nestA_ok hb (hv x) (hr.mask hmask)
    have hsl : ∃ aa n c, u = .slice aa n c := by obtain ⟨aa, c, h1, _⟩ := hE; exact ⟨_, _, _, h1⟩
    have hu := hc.2
    unfold aggB at hu
    cases hun : E.P.underlying t with
    | none => simp [hun] at hu
    | some d =>
      simp only [hun, Option.map_some, Option.some.injEq] at hu
      obtain ⟨i, hi⟩ := info_of_underlying hun
      refine .ext hr hk ?_ hsl (fun ρ' => ⟨h0, hE⟩) rfl
      simp [execOp, hop, Instr.loadAt, hx, Instr.sureAddr, loadVar, run_isAgg hun, hu, hcell]
  rename_i cs hl
  split at hd <;> first | cases hd; done | skip
  rename_i v0 hc
  obtain ⟨rfl, rfl, rfl⟩ := val1_eq hd
  obtain ⟨ad, vs, hx, hlie, hcs, hlen⟩ := loadA_ok hl (hv x) (hr.mask hmask)
  obtain ⟨v', hrun, hv'⟩ := load_ok hc hlen hcs hlie
  refine .pure hr ?_ hv'
  simp [execOp, hop, Instr.loadAt, hx, Instr.sureAddr, hrun]

theorem den_store {t : TypeId} {x y : Operand} (hop : o.op = .store t x y) (hv : ∀ x, VR ρ (ρe x) (a.eval x)) (hr : HR w B ρ h) (hmask : Mask hm h)
    (hd : den E key ρe hm o = .val true v nb u) : OpOK E o a w B ρ h key v nb u := by
  simp only [den, hop] at hd
  split at hd <;> first | cases hd; done | skip
  rename_i hc
  split at hd <;> first | cases hd; done | skip
  rename_i uu hs
  cases hd
  obtain ⟨kk, blk⟩ := uu
  have hcells := (hv y).cells hc.2.1
  obtain ⟨ad, w', hx, hrun, hb, hr'⟩ := storeA_ok (P := E.P) hs (hv x) hr hmask hcells
  obtain ⟨i, hi⟩ := Option.isSome_iff_exists.1 hc.2.2
  have hsz : (a.eval y).cells.size = E.P.cellsOf t := by rw [← Array.length_toList, ← hcells.length]; exact hc.1
  refine ⟨.skip, undef, w', ρ, ?_, .inr ⟨rfl, rfl⟩, Ren.le_refl _, fun _ _ => rfl, ⟨#[], rfl, .nil⟩, hb, fun h' e => by cases e; exact hr'.x⟩
  simp [execOp, hop, Instr.storeAt, hx, Instr.sureAddr, storeVar, run_sizeOf hi, hsz, hrun]

theorem den_nilCheck {x : Operand} (hop : o.op = .nilCheck x) (hv : ∀ x, VR ρ (ρe x) (a.eval x)) (hr : HR w B ρ h)
    (hd : den E key ρe hm o = .val true v nb u) : OpOK E o a w B ρ h key v nb u := by
  simp only [den, hop] at hd
  have hx := hv x
  split at hd <;> first | cases hd; done | skip
  all_goals (rename_i e; obtain ⟨rfl, rfl, rfl⟩ := val1_eq hd; rw [e] at hx)
  · obtain ⟨b, hb, e2⟩ := hx
    exact .pure hr (by simp [execOp, hop, e2]) ⟨b, hb, rfl⟩
  · obtain ⟨ad, n, cp, h1, h2, e2⟩ := hx
    exact .pure hr (by simp [execOp, hop, e2]) ⟨ad, n, cp, h1, h2, rfl⟩
  · obtain ⟨cv, e2, h2⟩ := hx
    obtain ⟨b1, c1, e3⟩ := fnV_is _ cv
    rw [e3] at e2
    exact .pure hr (by simp [execOp, hop, e2]) ⟨cv, e3.symm, h2⟩

theorem intBin_ok {op : BinOp} {k : IntKind} {m n : Int} {c : Bool} {v : AV} (t : TypeId) (w : World) (P : Program) (h : intBin op k m n = some (c, v)) (hc : c = true) :
    ∃ v', (binOp op t (.int k m) (.int k n)).run P w = .ok v' w ∧ VR ρ v v' := by
  cases op <;> simp only [intBin, Option.some.injEq, Prod.mk.injEq, reduceCtorEq] at h <;> obtain ⟨rfl, rfl⟩ := h
  case quo =>
    have hn : n ≠ 0 := by simpa using hc
    exact ⟨_, by simp [binOp_quo, Op.intDiv, hn], rfl⟩
  case rem =>
    have hn : n ≠ 0 := by simpa using hc
    exact ⟨_, by simp [binOp_rem, Op.intDiv, hn], rfl⟩
  case add => exact ⟨_, by rw [binOp_add]; rfl, rfl⟩
  case sub => exact ⟨_, by rw [binOp_sub]; rfl, rfl⟩
  case mul => exact ⟨_, by rw [binOp_mul]; rfl, rfl⟩
  case and => exact ⟨_, by rw [binOp_and, intBits_and]; rfl, rfl⟩
  case or => exact ⟨_, by rw [binOp_or, intBits_or]; rfl, rfl⟩
  case xor => exact ⟨_, by rw [binOp_xor, intBits_xor]; rfl, rfl⟩
  case andNot => exact ⟨_, by rw [binOp_andNot, intBits_andNot]; rfl, rfl⟩
  case eql => exact ⟨_, by rw [binOp_eql]; rfl, rfl⟩
  case neq => exact ⟨_, by rw [binOp_neq]; rfl, rfl⟩
  case lss => exact ⟨_, by rw [binOp_lss]; rfl, rfl⟩
  case leq => exact ⟨_, by rw [binOp_leq]; rfl, rfl⟩
  case gtr => exact ⟨_, by rw [binOp_gtr]; rfl, rfl⟩
  case geq => exact ⟨_, by rw [binOp_geq]; rfl, rfl⟩
theorem shiftBin_ok {op : BinOp} {k k' : IntKind} {m n : Int} {c : Bool} {v : AV} (t : TypeId) (w : World) (P : Program) (h : shiftBin op k m n = some (c, v)) (hc : c = true) :
    ∃ v', (binOp op t (.int k m) (.int k' n)).run P w = .ok v' w ∧ VR ρ v v' := by
  cases op <;> simp only [shiftBin, Option.some.injEq, Prod.mk.injEq, reduceCtorEq] at h <;> obtain ⟨rfl, rfl⟩ := h
  all_goals have hn : ¬ n < 0 := by simpa using hc
  · exact ⟨_, by rw [binOp_shl]; simp [Op.shift, hn], rfl⟩
  · exact ⟨_, by rw [binOp_shr]; simp [Op.shift, hn], rfl⟩
theorem strBin_ok {op : BinOp} {x y : ByteArray} {c : Bool} {v : AV} (t : TypeId) (w : World) (P : Program) (h : binA op (.str x) (.str y) = some (c, v)) (hc : c = true) :
    ∃ v', (binOp op t (.string x) (.string y)).run P w = .ok v' w ∧ VR ρ v v' := by
  cases op <;> simp only [binA, Option.some.injEq, Prod.mk.injEq, reduceCtorEq] at h <;> obtain ⟨rfl, rfl⟩ := h
  case add =>
    have hn : ¬ (((x.size + y.size : Nat) : Int) > 9223372036854775807) := by have := of_decide_eq_true hc; omega
    exact ⟨_, by simp only [binOp, Op.stringOp, IntKind.max_i64, if_neg hn]; rfl, rfl⟩
  all_goals exact ⟨_, by simp only [binOp, Op.stringOp]; rfl, rfl⟩

theorem den_un {op : UnOp} {t : TypeId} {x : Operand} (hop : o.op = .unOp op t x) (hv : ∀ x, VR ρ (ρe x) (a.eval x)) (hr : HR w B ρ h)
    (hd : den E key ρe hm o = .val true v nb u) : OpOK E o a w B ρ h key v nb u := by
  simp only [den, hop] at hd
  have hx := hv x
  split at hd <;> first | cases hd; done | skip
  all_goals (rename_i e; obtain ⟨rfl, rfl, rfl⟩ := val1_eq hd; rw [e] at hx)
  · refine .pure hr (v' := _) ?_ rfl
    simp [execOp, hop, hx.int_inv, Op.unary, Op.intArith]
  · refine .pure hr (v' := _) ?_ rfl
    simp [execOp, hop, hx.bool_inv, Op.unary]
  · refine .pure hr (v' := _) ?_ rfl
    simp [execOp, hop, hx.int_inv, Op.unary, intBits_xor]

theorem den_convert {s t : TypeId} {x : Operand} (hop : o.op = .convert s t x) (hv : ∀ x, VR ρ (ρe x) (a.eval x)) (hr : HR w B ρ h)
    (hd : den E key ρe hm o = .val true v nb u) : OpOK E o a w B ρ h key v nb u := by
  simp only [den, hop] at hd
  have hx := hv x
  split at hd <;> first | cases hd; done | skip
  · rename_i us k k' n e2 e
    split at hd <;> first | cases hd; done | skip
    rename_i hs
    obtain ⟨rfl, rfl, rfl⟩ := val1_eq hd; rw [e] at hx
    obtain ⟨ds, hds⟩ := Option.isSome_iff_exists.1 hs
    refine .pure hr (v' := _) ?_ rfl
    simp [execOp, hop, hx.int_inv, convert, run_underlying hds, run_underlying e2, Conv.intToInt]
  · rename_i e1 e2 e
    obtain ⟨rfl, rfl, rfl⟩ := val1_eq hd; rw [e] at hx
    refine .pure hr (v' := _) ?_ rfl
    simp [execOp, hop, hx.str_inv, convert, run_underlying e1, run_underlying e2]

theorem mapM_ptr {l : List Operand} {cs : List (Nat × Nat)} (hv : ∀ x, VR ρ (ρe x) (a.eval x))
    (h : l.mapM (fun x => ptrOf (ρe x)) = some cs) : All2 (fun x u => PtrR ρ x.1 x.2 u) cs (l.map a.eval) := by
  induction l generalizing cs with
  | nil => simp at h; subst h; exact .nil
  | cons x l ih =>
    simp only [List.mapM_cons, Option.bind_eq_bind, Option.bind_eq_some_iff] at h
    obtain ⟨p, hp, ps, hps, e⟩ := h
    simp only [Option.pure_def, Option.some.injEq] at e
    subst e
    refine .cons ?_ (ih hps)
    have hx := hv x
    unfold ptrOf at hp
    split at hp <;> first | cases hp; done | skip
    rename_i k o' e
    simp only [Option.some.injEq] at hp
    subst hp
    rw [e] at hx; exact hx

theorem den_makeFunc {f : FuncId} {first captured : Array Operand} (hop : o.op = .makeFunc (.func f) first captured) (hv : ∀ x, VR ρ (ρe x) (a.eval x)) (hr : HR w B ρ h)
    (hd : den E key ρe hm o = .val true v nb u) : OpOK E o a w B ρ h key v nb u := by
  simp only [den, hop] at hd
  split at hd
  · rename_i h0
    split at hd <;> first | cases hd; done | skip
    rename_i cs hc
    obtain ⟨rfl, rfl, rfl⟩ := val1_eq hd
    have hf : first = #[] := Array.eq_empty_of_size_eq_zero h0.1
    subst hf
    refine .pure hr (v' := .func (.func f) #[] (captured.map a.eval)) (by simp [execOp, hop, Instr.makeFunc]) ⟨captured.map a.eval, (fnV_lt h0.2 _).symm, ?_⟩
    have := mapM_ptr hv hc
    simpa using this
  · split at hd <;> first | cases hd; done | skip
    rename_i h0
    split at hd <;> first | cases hd; done | skip
    rename_i cs hc
    obtain ⟨rfl, rfl, rfl⟩ := val1_eq hd
    have hf : captured = #[] := Array.eq_empty_of_size_eq_zero h0
    subst hf
    refine .pure hr (v' := .func (.func f) (first.map a.eval) #[]) (by simp [execOp, hop, Instr.makeFunc]) ⟨first.map a.eval, ?_, ?_⟩
    · rw [fnV, if_neg (by omega), Nat.add_sub_cancel]
    · have := mapM_ptr hv hc
      simpa using this

theorem fieldOf_some {P : Program} {s : TypeId} {f : Nat} {fd : Field} (h : fieldOf P s f = some fd) : ∃ fs, P.underlying s = some (.struct fs) ∧ fs[f]? = some fd := by
  unfold fieldOf at h
  split at h <;> first | cases h; done | skip
  rename_i fs e
  exact ⟨fs, e, h⟩
theorem cellsOf_ne {P : Program} {t : TypeId} (h : ¬ P.cellsOf t = 0) : ∃ i, P.info? t = some i := by
  cases hi : P.info? t with
  | none => simp [Program.cellsOf, hi] at h
  | some i => exact ⟨i, rfl⟩

theorem den_fieldAddr {s : TypeId} {x : Operand} {f : Nat} (hop : o.op = .fieldAddr s x f) (hv : ∀ x, VR ρ (ρe x) (a.eval x)) (hr : HR w B ρ h)
    (hd : den E key ρe hm o = .val true v nb u) : OpOK E o a w B ρ h key v nb u := by
  simp only [den, hop] at hd
  have hx := hv x
  split at hd <;> first | cases hd; done | skip
  · rename_i fd k off e1 e2
    split at hd <;> first | cases hd; done | skip
    rename_i h0
    obtain ⟨rfl, rfl, rfl⟩ := val1_eq hd; rw [e2] at hx
    obtain ⟨b, hb, ex⟩ := hx
    obtain ⟨fs, hu, hf⟩ := fieldOf_some e1
    obtain ⟨i, hi⟩ := cellsOf_ne h0
    refine .pure hr (v' := .pointer (some ⟨b, off + fd.offset, none⟩)) ?_ ⟨b, hb, rfl⟩
    simp [execOp, hop, ex, Instr.fieldAt, run_underlying hu, hf, Instr.sureAddr, fieldPlace, run_sizeOf hi, h0, Addr.add_lit]
  · rename_i fd k j sz c e1 e2
    split at hd <;> first | cases hd; done | skip
    rename_i h0
    obtain ⟨rfl, rfl, rfl⟩ := val1_eq hd; rw [e2] at hx
    obtain ⟨ad, n, cp, h1, h2, ex⟩ := hx
    obtain ⟨fs, hu, hf⟩ := fieldOf_some e1
    obtain ⟨i, hi⟩ := cellsOf_ne h0
    refine .pure hr (v' := .pointer (some (ad.add (j * sz + (c + fd.offset))))) ?_ ⟨ad, n, cp, h1, h2, rfl⟩
    simp [execOp, hop, ex, Instr.fieldAt, run_underlying hu, hf, Instr.sureAddr, fieldPlace, run_sizeOf hi, h0, add_add, Nat.add_assoc]

/-- A part of a value. -/
theorem part_ok {P : Program} {t : TypeId} {cs : List AV} {v : AV} {c : Array Value} {off : Nat} {w : World} (hc : ofCells P t ((cs.drop off).take (P.cellsOf t)) = some v)
    (hr : All2 (LR ρ) cs c.toList) : ∃ v', (part t c off).run P w = .ok v' w ∧ VR ρ v v' := by
  unfold ofCells aggB at hc
  cases hu : P.underlying t with
  | none => simp [hu] at hc
  | some d =>
    obtain ⟨i, hi⟩ := info_of_underlying hu
    simp only [hu, Option.map_some] at hc
    cases hd : aggD d with
    | true =>
      simp only [hd, Option.some.injEq] at hc
      subst hc
      refine ⟨.agg (c.extract off (off + P.cellsOf t)), by simp [part, run_isAgg hu, hd, run_sizeOf hi], _, rfl, ?_⟩
      have := (hr.drop off).take (P.cellsOf t)
      have e : (c.extract off (off + P.cellsOf t)).toList = (c.toList.drop off).take (P.cellsOf t) := by simp [Array.toList_extract, List.extract_eq_take_drop]
      rw [e]; exact this
    | false =>
      simp only [hd] at hc
      split at hc <;> first | cases hc; done | skip
      rename_i x hx
      obtain rfl := Option.some.inj hc
      have h0 : cs[off]? = some x := by
        have : ((cs.drop off).take (P.cellsOf t))[0]? = some x := by rw [hx]; rfl
        rw [List.getElem?_take] at this
        split at this
        · rw [List.getElem?_drop] at this; simpa using this
        · cases this
      obtain ⟨y, hy, hxy⟩ := hr.get h0
      refine ⟨y, ?_, VR.of_LR hxy⟩
      have hy' : c[off]? = some y := by simpa using hy
      simp [part, run_isAgg hu, hd, hy']

theorem den_field {s : TypeId} {x : Operand} {f : Nat} (hop : o.op = .field s x f) (hv : ∀ x, VR ρ (ρe x) (a.eval x)) (hr : HR w B ρ h)
    (hd : den E key ρe hm o = .val true v nb u) : OpOK E o a w B ρ h key v nb u := by
  simp only [den, hop] at hd
  have hx := hv x
  split at hd <;> first | cases hd; done | skip
  rename_i fd cs e1 e2
  split at hd <;> first | cases hd; done | skip
  split at hd <;> first | cases hd; done | skip
  rename_i v0 hc
  obtain ⟨rfl, rfl, rfl⟩ := val1_eq hd; rw [e2] at hx
  obtain ⟨c, ex, hcs⟩ := hx
  obtain ⟨fs, hu, hf⟩ := fieldOf_some e1
  obtain ⟨v', hrun, hv'⟩ := part_ok (P := E.P) (w := w) hc hcs
  refine .pure hr ?_ hv'
  simp [execOp, hop, ex, Instr.field, run_underlying hu, hf, asAgg, hrun]

theorem den_index {t : TypeId} {x ix : Operand} (hop : o.op = .index t x ix) (hv : ∀ x, VR ρ (ρe x) (a.eval x)) (hr : HR w B ρ h)
    (hd : den E key ρe hm o = .val true v nb u) : OpOK E o a w B ρ h key v nb u := by
  simp only [den, hop] at hd
  have hx := hv x; have hi := hv ix
  split at hd <;> first | cases hd; done | skip
  · rename_i n e cs k i hu e1 e2
    split at hd <;> first | cases hd; done | skip
    split at hd <;> first | cases hd; done | skip
    rename_i hle v0 hc
    obtain ⟨hb, rfl, rfl, rfl⟩ := val_inj hd
    rw [e1] at hx; rw [e2] at hi
    obtain ⟨c, ex, hcs⟩ := hx
    simp only [Bool.and_eq_true, decide_eq_true_eq] at hb
    obtain ⟨v', hrun, hv'⟩ := part_ok (P := E.P) (w := w) hc hcs
    refine .pure hr ?_ hv'
    have hu0 : ∃ z, E.P.info? e = some z := by
      unfold ofCells aggB at hc
      cases hq : E.P.underlying e with
      | none => simp [hq] at hc
      | some d => exact info_of_underlying hq
    obtain ⟨z, hz⟩ := hu0
    simp [execOp, hop, ex, hi.int_inv, Instr.index, asIntOf, run_underlying hu, hb.1, hb.2, run_sizeOf hz, hrun]
  · rename_i s k i hu e1 e2
    obtain ⟨hb, rfl, rfl, rfl⟩ := val_inj hd
    rw [e1] at hx; rw [e2] at hi
    simp only [Bool.and_eq_true, decide_eq_true_eq] at hb
    have hlt : i.toNat < s.size := by omega
    refine .pure hr (v' := .int .u8 (byteAt s i)) ?_ rfl
    simp [execOp, hop, hx.str_inv, hi.int_inv, Instr.index, asIntOf, run_underlying hu, hb.1, hlt, byteAt]

theorem den_indexAddr {t : TypeId} {x ix : Operand} (hop : o.op = .indexAddr t x ix) (hv : ∀ x, VR ρ (ρe x) (a.eval x)) (hr : HR w B ρ h) (hmask : Mask hm h)
    (hd : den E key ρe hm o = .val true v nb u) : OpOK E o a w B ρ h key v nb u := by
  simp only [den, hop] at hd
  have hx := hv x; have hi := hv ix
  split at hd <;> first | cases hd; done | skip
  · rename_i n e k off ki i hu e1 e2
    split at hd <;> first | cases hd; done | skip
    rename_i hinfo
    obtain ⟨hb, rfl, rfl, rfl⟩ := val_inj hd
    rw [e1] at hx; rw [e2] at hi
    obtain ⟨b, hb', ex⟩ := hx
    obtain ⟨z, hz⟩ := Option.isSome_iff_exists.1 hinfo
    simp only [Bool.and_eq_true, decide_eq_true_eq] at hb
    refine .pure hr (v' := .pointer (some ⟨b, off + i.toNat * E.P.cellsOf e, none⟩)) ?_ ⟨b, hb', rfl⟩
    simp [execOp, hop, ex, hi.int_inv, Instr.indexAt, asIntOf, Instr.sureAddr, run_underlying hu, hb.1, hb.2, run_sizeOf hz, Addr.add_lit]
  · rename_i n e k j sz c ki i hu e1 e2
    split at hd <;> first | cases hd; done | skip
    rename_i hinfo
    obtain ⟨hb, rfl, rfl, rfl⟩ := val_inj hd
    rw [e1] at hx; rw [e2] at hi
    obtain ⟨ad, m, cp, h1, h2, ex⟩ := hx
    obtain ⟨z, hz⟩ := Option.isSome_iff_exists.1 hinfo
    simp only [Bool.and_eq_true, decide_eq_true_eq] at hb
    refine .pure hr (v' := .pointer (some (ad.add (j * sz + (c + i.toNat * E.P.cellsOf e))))) ?_ ⟨ad, m, cp, h1, h2, rfl⟩
    simp [execOp, hop, ex, hi.int_inv, Instr.indexAt, asIntOf, Instr.sureAddr, run_underlying hu, hb.1, hb.2, run_sizeOf hz, add_add, Nat.add_assoc]
  · rename_i e k ki i hu e1 e2
    have main : ∀ (sh : List SK) (n : Nat), sh.length = E.P.cellsOf e → (0 < sh.length) → (∃ ad c, ρ k = some (.sv (.slice ad n c)) ∧ (0 < n → ∃ x, ad = some x)) →
        Out.val (decide (0 ≤ i) && decide (i < (n : Int))) (.elt k i.toNat (E.P.cellsOf e) 0) none none = .val true v nb u → OpOK E o a w B ρ h key v nb u := by
      intro sh n hsh h0 hρ hd
      obtain ⟨hb, rfl, rfl, rfl⟩ := val_inj hd
      rw [e1] at hx; rw [e2] at hi
      simp only [Bool.and_eq_true, decide_eq_true_eq] at hb
      obtain ⟨ad, c, hρ, had⟩ := hρ
      obtain ⟨hk1, _⟩ := hx
      rw [hρ] at hk1
      obtain ⟨x1, rfl⟩ := had (by omega)
      have hev : a.eval x = .slice (some x1) n c := by injection (Option.some.inj hk1) with e; exact e.symm
      obtain ⟨z, hz⟩ := cellsOf_ne (P := E.P) (t := e) (by omega)
      refine .pure hr (v' := .pointer (some (x1.add (i.toNat * E.P.cellsOf e)))) ?_ ⟨x1, n, c, hρ, by omega, rfl⟩
      simp [execOp, hop, hev, hi.int_inv, Instr.indexAt, asIntOf, run_underlying hu, hb.1, hb.2, run_sizeOf hz]
    cases hk : hm[k]? with
    | none => rw [hk] at hd; cases hd
    | some blk =>
      rw [hk] at hd
      cases blk <;> first | cases hd; done | skip
      · rename_i e' sh xs
        replace hd : (if sh.length = E.P.cellsOf e then Out.val (decide (0 ≤ i) && decide (i < (xs.length : Int))) (.elt k i.toNat (E.P.cellsOf e) 0) none none else .none) = .val true v nb u := hd
        split at hd <;> first | cases hd; done | skip
        rename_i hsh
        rcases (hr.mask hmask).blk k _ hk with e0 | ⟨r, hr', hB⟩
        · cases e0
        cases r with
        | blk b => exact hB.elim
        | sv vv =>
          obtain ⟨h0, h12, _⟩ := hB
          refine main sh xs.length hsh h0 ?_ hd
          rcases h12 with ⟨h1, h2⟩ | ⟨e4, _, a4, e3⟩
          case inr => exact ⟨some a4, 0, by rw [hr', e3, e4], fun hp => by omega⟩
          rcases h2 with ⟨e3, e4⟩ | ⟨g, o0, cap, cur, e3, _⟩
          · exact ⟨none, 0, by rw [hr', e3, e4], fun hp => by omega⟩
          · exact ⟨some ⟨g, o0, none⟩, cap, by rw [hr', e3], fun _ => ⟨_, rfl⟩⟩
      · rename_i e' sh xs
        replace hd : (if sh.length = E.P.cellsOf e then Out.val (decide (0 ≤ i) && decide (i < (xs.length : Int))) (.elt k i.toNat (E.P.cellsOf e) 0) none none else .none) = .val true v nb u := hd
        split at hd <;> first | cases hd; done | skip
        rename_i hsh
        rcases (hr.mask hmask).blk k _ hk with e0 | ⟨r, hr', hB⟩
        · cases e0
        cases r with
        | blk b => exact hB.elim
        | sv vv =>
          obtain ⟨h0, a0, c0, e3, _, hcell⟩ := hB
          refine main sh xs.length hsh h0 ⟨a0, c0, by rw [hr', e3], fun hp => ?_⟩ hd
          have hl := flat_length sh xs
          have hpos : 0 < (flat sh xs).length := by rw [hl]; exact Nat.mul_pos hp h0
          obtain ⟨ad, ha, _⟩ := hcell 0 _ (List.getElem?_eq_getElem hpos)
          exact ⟨ad, ha⟩
      · rename_i e' e2' sh xss
        replace hd : (if 1 = E.P.cellsOf e then Out.val (decide (0 ≤ i) && decide (i < (xss.length : Int))) (.elt k i.toNat (E.P.cellsOf e) 0) none none else .none) = .val true v nb u := hd
        split at hd <;> first | cases hd; done | skip
        rename_i hsh
        rcases (hr.mask hmask).blk k _ hk with e0 | ⟨r, hr', hB⟩
        · cases e0
        cases r with
        | blk b => exact hB.elim
        | sv vv =>
          obtain ⟨h0, us, hus, h12, _⟩ := hB
          rw [hus.length] at hd
          refine main [.bool] us.length hsh (by simp) ?_ hd
          rcases h12 with ⟨h1, h2⟩ | ⟨e4, _, a4, e3⟩
          case inr => exact ⟨some a4, 0, by rw [hr', e3, e4], fun hp => by omega⟩
          rcases h2 with ⟨e3, e4⟩ | ⟨g, o0, cap, cur, e3, _⟩
          · exact ⟨none, 0, by rw [hr', e3, e4], fun hp => by omega⟩
          · exact ⟨some ⟨g, o0, none⟩, cap, by rw [hr', e3], fun _ => ⟨_, rfl⟩⟩
      · rename_i e' e2' sh sh2 xs
        replace hd : (if sh.length + 1 = E.P.cellsOf e then Out.val (decide (0 ≤ i) && decide (i < (xs.length : Int))) (.elt k i.toNat (E.P.cellsOf e) 0) none none else .none) = .val true v nb u := hd
        split at hd <;> first | cases hd; done | skip
        rename_i hsh
        rcases (hr.mask hmask).blk k _ hk with e0 | ⟨r, hr', hB⟩
        · cases e0
        cases r with
        | blk b => exact hB.elim
        | sv vv =>
          obtain ⟨h0, us, hus, hO⟩ := hB
          rw [hus.length] at hd
          obtain ⟨ad, cc, e3, had⟩ := kept_addr hus (hO.kept (B' := ⟨fun _ => True, fun _ => True, []⟩) fun _ _ => trivial)
          exact main (.bool :: sh) us.length (by simpa using hsh) (by simp) ⟨ad, cc, by rw [hr', e3], had⟩ hd
      · rename_i e' e2' sh sh2 xs
        replace hd : (if sh.length + 1 = E.P.cellsOf e then Out.val (decide (0 ≤ i) && decide (i < (xs.length : Int))) (.elt k i.toNat (E.P.cellsOf e) 0) none none else .none) = .val true v nb u := hd
        split at hd <;> first | cases hd; done | skip
        rename_i hsh
        rcases (hr.mask hmask).blk k _ hk with e0 | ⟨r, hr', hB⟩
        · cases e0
        cases r with
        | blk b => exact hB.elim
        | sv vv =>
          obtain ⟨h0, us, hus, hO⟩ := hB
          rw [hus.length] at hd
          obtain ⟨ad, cc, e3, had⟩ := kept_addr hus hO
          exact main (.bool :: sh) us.length (by simpa using hsh) (by simp) ⟨ad, cc, by rw [hr', e3], had⟩ hd

theorem den_extract {x : Operand} {i : Nat} (hop : o.op = .extract x i) (hv : ∀ x, VR ρ (ρe x) (a.eval x)) (hr : HR w B ρ h)
    (hd : den E key ρe hm o = .val true v nb u) : OpOK E o a w B ρ h key v nb u := by
  simp only [den, hop] at hd
  have hx := hv x
  split at hd <;> first | cases hd; done | skip
  rename_i vs e
  split at hd <;> first | cases hd; done | skip
  rename_i v0 hvi
  obtain ⟨rfl, rfl, rfl⟩ := val1_eq hd
  rw [e] at hx
  obtain ⟨c, ex, h2⟩ := hx
  obtain ⟨y, hy, hxy⟩ := h2.get hvi
  have hy' : c[i]? = some y := by simpa using hy
  refine .pure hr (v' := y) (by simp [execOp, hop, ex, Instr.extract, hy']) ?_
  cases v
  case tup l => exact hxy.elim
  all_goals exact VR.of_VR1 (fun _ e => by cases e) hxy
end
end Go.Ev
