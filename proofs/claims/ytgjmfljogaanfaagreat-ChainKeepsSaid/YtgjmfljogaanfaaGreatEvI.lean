/- Regions that draw their order: whatever order the edges allow, the abstract state at the end is the text's. -/
import Derived.Test.YtgjmfljogaanfaaGreatEvH
namespace Go.Ev
open Go.RowKit

theorem mapM_congr' {α β : Type _} {f g : α → Option β} : ∀ {l : List α}, (∀ x, x ∈ l → f x = g x) → l.mapM f = l.mapM g
  | [], _ => rfl
  | x :: l, h => by
    rw [List.mapM_cons, List.mapM_cons, h x (by simp), mapM_congr' (fun y hy => h y (by simp [hy]))]

theorem den_congr {E : Env} {key : Nat} {ρ ρ' : Operand → AV} {h h' : List AB} {o : Oper} (h1 : ∀ x, x ∈ o.op.operands.toList → ρ x = ρ' x) (h2 : memR E o = true → h = h') :
    den E key ρ h o = den E key ρ' h' o := by
  cases hop : o.op
  case build t ps =>
    have e : (ps.toList.map fun p => (p.1, ρ p.2)) = ps.toList.map fun p => (p.1, ρ' p.2) := List.map_congr_left fun p hp => by
      rw [h1 p.2 (by rw [hop]; simp only [Op.operands]; exact List.mem_map_of_mem hp)]
    simp only [den, hop, e]
  case buildSlice t n ps =>
    have e : ∀ sh, (ps.toList.mapM fun p => if (ρ p.2).solid then Row.ofAVs sh (ρ p.2).cells else none) = (ps.toList.mapM fun p => if (ρ' p.2).solid then Row.ofAVs sh (ρ' p.2).cells else none) := fun sh => mapM_congr' fun p hp => by
      rw [h1 p.2 (by rw [hop]; simp only [Op.operands]; exact List.mem_map_of_mem hp)]
    have hmem : ∀ p ∈ ps.toList, ρ p.2 = ρ' p.2 := fun p hp => h1 p.2 (by rw [hop]; simp only [Op.operands]; exact List.mem_map_of_mem hp)
    simp only [den, hop, e]
    cases hu : E.P.underlying t with
    | none => rfl
    | some d =>
      cases d <;> try rfl
      rename_i el
      dsimp only
      cases hs : shape E.P el with
      | some sh => rfl
      | none =>
        dsimp only
        have mixes : (match mixT E.P el, ps.toList with
            | some (sh, e2, sh2), [(0, x)] => if n = 1 then match mixRow sh e2 sh2 h (ρ x) with | some r => Out.val true (AV.sl key) (some (AB.mix el e2 sh sh2 [r])) none | none => Out.none else Out.none
            | _, _ => Out.none) = (match mixT E.P el, ps.toList with
            | some (sh, e2, sh2), [(0, x)] => if n = 1 then match mixRow sh e2 sh2 h' (ρ' x) with | some r => Out.val true (AV.sl key) (some (AB.mix el e2 sh sh2 [r])) none | none => Out.none else Out.none
            | _, _ => Out.none) := by
          cases hn : mixT E.P el with
          | none => rfl
          | some q =>
            have hh : h = h' := h2 (by simp [memR, hop, hu, hn])
            subst hh
            obtain ⟨sh, e2, sh2⟩ := q
            generalize ps.toList = l at hmem
            match l, hmem with
            | [], _ => rfl
            | [(0, x)], hmem =>
              have := hmem (0, x) (by simp)
              dsimp only at this
              change (if n = 1 then match mixRow sh e2 sh2 h (ρ x) with | some r => Out.val true (AV.sl key) (some (AB.mix el e2 sh sh2 [r])) none | none => Out.none else Out.none) = (if n = 1 then match mixRow sh e2 sh2 h (ρ' x) with | some r => Out.val true (AV.sl key) (some (AB.mix el e2 sh sh2 [r])) none | none => Out.none else Out.none)
              rw [this]
            | [(_ + 1, _)], _ => rfl
            | (0, _) :: _ :: _, _ => rfl
            | (_ + 1, _) :: _ :: _, _ => rfl
        cases hn : nestT E.P el with
        | none => exact mixes
        | some q =>
          have hh : h = h' := h2 (by simp [memR, hop, hu, hn])
          subst hh
          obtain ⟨e2, sh⟩ := q
          generalize ps.toList = l at hmem mixes
          match l, hmem with
          | [], _ => exact mixes
          | [(0, x)], hmem =>
            have := hmem (0, x) (by simp)
            dsimp only at this
            change (if n = 1 then match extOf e2 sh h (ρ x) with | some xs => Out.val true (AV.sl key) (some (AB.nest el e2 sh [xs])) none | none => Out.none else Out.none) = (if n = 1 then match extOf e2 sh h (ρ' x) with | some xs => Out.val true (AV.sl key) (some (AB.nest el e2 sh [xs])) none | none => Out.none else Out.none)
            rw [this]
          | [(_ + 1, _)], _ => exact mixes
          | (0, _) :: _ :: _, _ => exact mixes
          | (_ + 1, _) :: _ :: _, _ => exact mixes
  case call c =>
    have e : c.args.toList.map ρ = c.args.toList.map ρ' := List.map_congr_left fun p hp => h1 p (by rw [hop]; simp only [Op.operands, Call.operands, Array.toList_append, List.mem_append]; exact .inr hp)
    cases hc : c.callee with
    | builtin b =>
      by_cases hm : memR E o = true
      · simp only [den, hop, hc, e, h2 hm]
      · have hb : b = .min ∨ b = .max := by
          simp only [memR, hop, hc] at hm
          cases b <;> simp_all
        rcases hb with rfl | rfl
        all_goals
          simp only [den, hop, hc, e]
          generalize c.args.toList.map ρ' = l
          cases l with
          | nil => rfl
          | cons x t => cases x <;> rfl
    | value f =>
      have hf := h1 f (by rw [hop]; simp [Op.operands, Call.operands, hc])
      have hm : memR E o = true := by simp [memR, hop, hc]
      simp only [den, hop, hc, e, hf, h2 hm]
    | invoke r m => simp only [den, hop, hc]
  case makeFunc f first cap =>
    cases f with
    | func f =>
      have e : (cap.toList.mapM (fun x => ptrOf (ρ x))) = cap.toList.mapM (fun x => ptrOf (ρ' x)) := mapM_congr' fun p hp => by
        rw [h1 p (by rw [hop]; simp only [Op.operands, Array.toList_append, List.mem_append]; exact .inr hp)]
      have e2 : (first.toList.mapM (fun x => ptrOf (ρ x))) = first.toList.mapM (fun x => ptrOf (ρ' x)) := mapM_congr' fun p hp => by
        rw [h1 p (by rw [hop]; simp only [Op.operands, Array.toList_append, List.mem_append]; exact .inl hp)]
      simp only [den, hop, e, e2]
    | _ => simp only [den, hop]
  case load t x => simp only [den, hop, h1 x (by simp [hop, Op.operands]), h2 (by simp [memR, hop])]
  case store t x y => simp only [den, hop, h1 x (by simp [hop, Op.operands]), h1 y (by simp [hop, Op.operands]), h2 (by simp [memR, hop])]
  case indexAddr t x y => simp only [den, hop, h1 x (by simp [hop, Op.operands]), h1 y (by simp [hop, Op.operands]), h2 (by simp [memR, hop])]
  case move x => simp only [den, hop, h1 x (by simp [hop, Op.operands])]
  case assign x => simp only [den, hop, h1 x (by simp [hop, Op.operands])]
  case pick c x y => simp only [den, hop, h1 c (by simp [hop, Op.operands]), h1 x (by simp [hop, Op.operands]), h1 y (by simp [hop, Op.operands])]
  case box t x => simp only [den, hop, h1 x (by simp [hop, Op.operands])]
  case nilCheck x => simp only [den, hop, h1 x (by simp [hop, Op.operands])]
  case binOp op t x y t2 => simp only [den, hop, h1 x (by simp [hop, Op.operands]), h1 y (by simp [hop, Op.operands])]
  case unOp op t x => simp only [den, hop, h1 x (by simp [hop, Op.operands])]
  case convert s t x => simp only [den, hop, h1 x (by simp [hop, Op.operands])]
  case fieldAddr s x f => simp only [den, hop, h1 x (by simp [hop, Op.operands])]
  case field s x f => simp only [den, hop, h1 x (by simp [hop, Op.operands])]
  case index t x y => simp only [den, hop, h1 x (by simp [hop, Op.operands]), h1 y (by simp [hop, Op.operands])]
  case makeSlice t x y => simp only [den, hop, h1 x (by simp [hop, Op.operands]), h1 y (by simp [hop, Op.operands])]
  case extract x i => simp only [den, hop, h1 x (by simp [hop, Op.operands])]
  case slice t x lo hi mx =>
    have hb : ∀ (y : Option Operand) (d : Int), (∀ z, y = some z → ρ z = ρ' z) → bndA ρ y d = bndA ρ' y d := by
      intro y d hy
      cases y with
      | none => rfl
      | some z => simp only [bndA, hy z rfl]
    have e1 := fun d => hb lo d (fun z hz => h1 z (by subst hz; simp [hop, Op.operands]))
    have e2 := fun d => hb hi d (fun z hz => h1 z (by subst hz; simp [hop, Op.operands]))
    have ex := h1 x (by simp [hop, Op.operands])
    have eh := h2 (by simp [memR, hop])
    subst eh
    cases mx with
    | some m =>
      cases hi with
      | none => simp only [den, hop]
      | some z => simp only [den, hop, ex, e1, h1 z (by simp [hop, Op.operands]), h1 m (by simp [hop, Op.operands])]
    | none => simp only [den, hop, ex, e1, e2]
  all_goals simp only [den, hop]

/-- What is updated was there, and only by what writes. -/
theorem den_upd {E : Env} {key : Nat} {ρ : Operand → AV} {h : List AB} {o : Oper} {c : Bool} {v : AV} {nb : Option AB} {k : Nat} {b : AB} (hd : den E key ρ h o = .val c v nb (some (k, b))) :
    memE E o = true ∧ ∃ b0, h[k]? = some b0 ∧ b0 ≠ .gone := by
  cases hop : o.op
  case store t x y =>
    refine ⟨by simp [memE, memW, hop], ?_⟩
    simp only [den, hop] at hd
    split at hd <;> first | cases hd; done | skip
    split at hd <;> first | cases hd; done | skip
    rename_i u hs
    cases hd
    cases hx : ρ x <;> rw [hx] at hs <;> simp only [storeA, reduceCtorEq] at hs
    · rename_i k' off
      cases hk : h[k']? with
      | none => rw [hk] at hs; cases hs
      | some b0 =>
        rw [hk] at hs
        cases b0 <;> first | cases hs; done | skip
        dsimp only at hs
        split at hs <;> first | cases hs; done | skip
        cases hs
        exact ⟨_, hk, by simp⟩
    · rename_i k' i sz cc
      cases hk : h[k']? with
      | none => rw [hk] at hs; cases hs
      | some b0 =>
        rw [hk] at hs
        cases b0 <;> first | cases hs; done | skip
        dsimp only at hs
        split at hs <;> first | cases hs; done | skip
        split at hs <;> first | cases hs; done | skip
        cases hs
        exact ⟨_, hk, by simp⟩
  case slice t x lo hi mx =>
    cases mx with
    | none =>
      simp only [den, hop] at hd
      repeat' (split at hd)
      all_goals cases hd
      rename_i hc _ _ _ _ _ _ _ hk
      exact ⟨by simp only [memE, Bool.or_eq_true]; exact .inl (.inr hc.1), _, hk, by simp⟩
    | some m =>
      exfalso
      cases hi with
      | none => simp only [den, hop, reduceCtorEq] at hd
      | some z =>
        simp only [den, hop] at hd
        repeat' (split at hd)
        all_goals cases hd
  case call cc =>
    simp only [den, hop] at hd
    cases hc : cc.callee with
    | builtin bi =>
      rw [hc] at hd
      dsimp only at hd
      split at hd
      case h_4 =>
        refine ⟨by simp [memE, memW, hop, hc], ?_⟩
        rename_i k' x hargs
        cases hk : h[k']? with
        | none => rw [hk] at hd; cases hd
        | some b0 =>
          rw [hk] at hd
          cases b0 <;> first | cases hd; done | skip
          all_goals
            dsimp only at hd
            split at hd <;> first | cases hd; done | skip
            split at hd <;> first | cases hd; done | skip
            cases hd
            exact ⟨_, hk, by simp⟩
      all_goals
        exfalso
        repeat' (split at hd)
        all_goals first | cases hd; done | (simp only [val1] at hd; cases hd; done) | skip
    | value f =>
      rw [hc] at hd
      exfalso
      dsimp only at hd
      repeat' (split at hd)
      all_goals first | cases hd; done | skip
    | invoke r m => rw [hc] at hd; cases hd
  case makeFunc f first cap =>
    exfalso
    cases f <;> simp only [den, hop] at hd <;> first | cases hd; done | skip
    repeat' (split at hd)
    all_goals first | cases hd; done | (simp only [val1] at hd; cases hd; done) | skip
  all_goals
    exfalso
    simp only [den, hop] at hd
    repeat' (split at hd)
    all_goals first | cases hd; done | (simp only [val1] at hd; cases hd; done) | skip

theorem storeA_key {h : List AB} {addr : AV} {vs : List AV} {k : Nat} {b : AB} (hs : storeA h addr vs = some (k, b)) : rootKey addr = some k := by
  cases addr <;> simp only [storeA, reduceCtorEq] at hs
  · split at hs <;> first | cases hs; done | skip
    split at hs <;> first | cases hs; done | skip
    cases hs; rfl
  · split at hs <;> first | cases hs; done | skip
    split at hs <;> first | cases hs; done | skip
    split at hs <;> first | cases hs; done | skip
    cases hs; rfl
theorem keyOp_slice {o : Oper} {t : TypeId} {x : Operand} {lo hi mx : Option Operand} {a : Operand} (hop : o.op = .slice t x lo hi mx) (ha : keyOp o = some a) : mx = none ∧ a = x := by
  cases mx with
  | none => simp only [keyOp, hop, Option.some.injEq] at ha; exact ⟨rfl, ha.symm⟩
  | some m => simp only [keyOp, hop, reduceCtorEq] at ha
theorem addrOp_slice {o : Oper} {t : TypeId} {x : Operand} {lo hi mx : Option Operand} {a : Operand} (hop : o.op = .slice t x lo hi mx) (ha : addrOp o = some a) : mx = none ∧ a = x := by
  cases mx with
  | none => simp only [addrOp, hop, Option.some.injEq] at ha; exact ⟨rfl, ha.symm⟩
  | some m => simp only [addrOp, hop, reduceCtorEq] at ha
theorem den_upd_key {E : Env} {key : Nat} {ρ : Operand → AV} {h : List AB} {o : Oper} {c : Bool} {v : AV} {nb : Option AB} {k k' : Nat} {b : AB} {a : Operand} (hd : den E key ρ h o = .val c v nb (some (k, b))) (ha : keyOp o = some a) (hk : rootKey (ρ a) = some k') : k = k' := by
  cases hop : o.op
  case slice t x lo hi mx =>
    obtain ⟨rfl, rfl⟩ := keyOp_slice hop ha
    simp only [den, hop] at hd
    repeat' (split at hd)
    all_goals first | cases hd; done | (cases hd; rename_i hx _ _ _ _ _; simp_all [rootKey]; done) | (cases hd; simp_all [rootKey]; done)
  case indexAddr t x ix =>
    simp only [den, hop] at hd
    repeat' (split at hd)
    all_goals (cases hd; done)
  all_goals simp only [keyOp, hop, reduceCtorEq, Option.some.injEq] at ha
  · subst ha
    simp only [den, hop] at hd
    repeat' (split at hd)
    all_goals first | cases hd; done | (simp only [val1] at hd; cases hd; done)
  · subst ha
    simp only [den, hop] at hd
    split at hd <;> first | cases hd; done | skip
    split at hd <;> first | cases hd; done | skip
    rename_i u hs
    cases hd
    have := storeA_key hs
    rw [this] at hk
    exact Option.some.inj hk
  · rename_i cc
    split at ha <;> first | cases ha; done | skip
    rename_i hc
    simp only [den, hop, hc] at hd
    have hm : (cc.args.toList.map ρ).head? = some (ρ a) := by rw [List.head?_map, ha]; rfl
    generalize cc.args.toList.map ρ = l at hd hm
    split at hd
    all_goals first | contradiction | skip
    all_goals
      simp only [List.head?_cons, Option.some.injEq] at hm
      rw [← hm] at hk
      first
        | (simp only [rootKey, Option.some.injEq] at hk
           subst hk
           repeat' (split at hd)
           all_goals first | cases hd; done | (cases hd; rfl))
        | (simp only [rootKey, reduceCtorEq] at hk; done)
        | (repeat' (split at hd)
           all_goals first | cases hd; done | (simp only [val1] at hd; cases hd; done))
theorem loadA_congr {h h' : List AB} {addr : AV} {n k : Nat} (hk : rootKey addr = some k) (he : h[k]? = h'[k]?) : loadA h addr n = loadA h' addr n := by
  cases addr <;> simp only [rootKey, reduceCtorEq, Option.some.injEq] at hk <;> (subst hk; simp only [loadA, he])
theorem nestA_congr {h h' : List AB} {addr : AV} {k : Nat} (hk : rootKey addr = some k) (he : h[k]? = h'[k]?) : nestA h addr = nestA h' addr := by
  cases addr <;> simp only [rootKey, reduceCtorEq, Option.some.injEq] at hk <;> (subst hk; simp only [nestA, he])
theorem mixA_congr {h h' : List AB} {addr : AV} {k : Nat} (hk : rootKey addr = some k) (he : h[k]? = h'[k]?) : mixA h addr = mixA h' addr := by
  cases addr <;> simp only [rootKey, reduceCtorEq, Option.some.injEq] at hk <;> (subst hk; simp only [mixA, he])
theorem storeA_congr {h h' : List AB} {addr : AV} {vs : List AV} {k : Nat} (hk : rootKey addr = some k) (he : h[k]? = h'[k]?) : storeA h addr vs = storeA h' addr vs := by
  cases addr <;> simp only [rootKey, reduceCtorEq, Option.some.injEq] at hk <;> (subst hk; simp only [storeA, he])
theorem den_addr {E : Env} {key : Nat} {ρ : Operand → AV} {h h' : List AB} {o : Oper} {a : Operand} {k : Nat} (ha : addrOp o = some a) (hk : rootKey (ρ a) = some k) (he : h[k]? = h'[k]?) : den E key ρ h o = den E key ρ h' o := by
  cases hop : o.op
  case slice t x lo hi mx =>
    obtain ⟨rfl, rfl⟩ := addrOp_slice hop ha
    cases hx : ρ a <;> simp only [hx, rootKey, reduceCtorEq, Option.some.injEq] at hk
    case sl q =>
      subst hk
      simp only [den, hop, hx]
      cases hu : E.P.underlying t with
      | none => rfl
      | some d => cases d <;> first | rfl | simp only [he]
    all_goals
      simp only [den, hop, hx]
      cases hu : E.P.underlying t with
      | none => rfl
      | some d => cases d <;> rfl
  case indexAddr t x ix =>
    simp only [addrOp, hop, Option.some.injEq] at ha
    subst ha
    simp only [den, hop]
    cases hu : E.P.underlying t with
    | none => rfl
    | some d =>
      cases d <;> first | rfl | skip
      all_goals (cases hx : ρ x <;> first | rfl | skip)
      all_goals (cases hi : ρ ix <;> first | rfl | skip)
      all_goals (simp only [hx, rootKey, Option.some.injEq] at hk; subst hk; simp only [he])
  all_goals simp only [addrOp, hop, reduceCtorEq, Option.some.injEq] at ha
  · subst ha; simp only [den, hop, loadA_congr hk he, nestA_congr hk he, mixA_congr hk he]
  · subst ha; simp only [den, hop, storeA_congr hk he]
theorem keyOp_addr {o : Oper} {a : Operand} (h : addrOp o = some a) : keyOp o = some a := by
  cases hop : o.op
  case slice t x lo hi mx =>
    obtain ⟨rfl, rfl⟩ := addrOp_slice hop h
    simp [keyOp, hop]
  case indexAddr t x ix =>
    simp only [addrOp, hop, Option.some.injEq] at h
    subst h
    simp [keyOp, hop]
  all_goals (simp only [addrOp, hop, reduceCtorEq, Option.some.injEq] at h)
  all_goals (subst h; simp [keyOp, hop])
theorem keyOp_mem {o : Oper} {a : Operand} (h : keyOp o = some a) : a ∈ o.op.operands.toList := by
  cases hop : o.op
  case slice t x lo hi mx =>
    obtain ⟨rfl, rfl⟩ := keyOp_slice hop h
    simp [Op.operands]
  case indexAddr t x ix =>
    simp only [keyOp, hop, Option.some.injEq] at h
    subst h
    simp [Op.operands]
  all_goals simp only [keyOp, hop, reduceCtorEq, Option.some.injEq] at h
  · subst h; simp [Op.operands]
  · subst h; simp [Op.operands]
  · rename_i c
    split at h <;> first | cases h; done | skip
    rename_i hc
    simp only [Op.operands, Call.operands, Array.toList_append, List.mem_append]
    exact .inr (List.mem_of_mem_head? h)
theorem den_not_call {E : Env} {key : Nat} {ρ : Operand → AV} {h : List AB} {o : Oper} {a : Operand} (ha : addrOp o = some a) {g : FuncId} {as : List AV} {T : Type} {m : Option T} {v : T → AV} {nb : T → List AB} {up : T → List (Nat × AB)} : den E key ρ h o ≠ .call g as T m v nb up := by
  intro e
  cases hop : o.op
  case slice t x lo hi mx =>
    obtain ⟨rfl, rfl⟩ := addrOp_slice hop ha
    simp only [den, hop] at e
    repeat' (split at e)
    all_goals (cases e; done)
  case indexAddr t x ix =>
    simp only [den, hop] at e
    repeat' (split at e)
    all_goals (cases e; done)
  all_goals simp only [addrOp, hop, reduceCtorEq, Option.some.injEq] at ha
  · simp only [den, hop] at e
    repeat' (split at e)
    all_goals first | cases e; done | (simp only [val1] at e; cases e; done)
  · simp only [den, hop] at e
    split at e <;> first | cases e; done | skip
    split at e <;> first | cases e; done | skip
theorem fold_get {k : Nat} : ∀ (ups : List (Nat × AB)) (h : List AB), (∀ p, p ∈ ups → p.1 ≠ k) → (ups.foldl (fun h u => h.set u.1 u.2) h)[k]? = h[k]?
  | [], _, _ => rfl
  | p :: ups, h, hp => by
    rw [List.foldl_cons, fold_get ups _ fun q hq => hp q (by simp [hq]), List.getElem?_set_ne (hp p (by simp))]

/-- What one step of a drawn region does: a slot, its value, the blocks that turn. -/
structure Dl where
  dst : Option Nat
  v : AV
  ups : List (Nat × AB)
def applyD (st : St) (d : Dl) : St := ⟨putDst st.tmps d.dst d.v, d.ups.foldl (fun h u => h.set u.1 u.2) st.h⟩
def keyed (key : Nat) : List AB → List (Nat × AB)
  | [] => []
  | b :: t => (key, b) :: keyed (key + 1) t
theorem keyed_mem {key : Nat} : ∀ {bs : List AB} {p : Nat × AB}, p ∈ keyed key bs → key ≤ p.1 ∧ p.1 < key + bs.length
  | b :: t, p, h => by
    simp only [keyed, List.mem_cons] at h
    rcases h with rfl | h
    · simp
    · have := keyed_mem h; simp only [List.length_cons]; omega
theorem keyed_fold (key : Nat) : ∀ (bs : List AB) (h : List AB), (keyed key bs).foldl (fun h u => h.set u.1 u.2) h = setNbs h key bs
  | [], _ => rfl
  | b :: t, h => by simp only [keyed, List.foldl_cons, setNbs]; exact keyed_fold _ t _
def dlt (E : Env) (ops : Array Oper) (cl : List Nat) (an : List (Option Nat)) (base : Nat) (i : Nat) (st : St) : Option Dl :=
  match ops[i]? with
  | none => some ⟨none, .junk, []⟩
  | some o =>
    match guardA ops st.tmps o with
    | none => none
    | some g =>
    bif g then
      match den E (base + 12 * i) st.eval (maskFrom base (cl.getD i 0) 0 st.h) o with
      | .val c v nb u => bif c then (if (locOK ops base o u && keyOK an i st.eval o) = true then some ⟨o.dst, v, u.toList ++ keyed (base + 12 * i) nb.toList⟩ else none) else none
      | .call _ _ _ m v nb up => m.bind fun r => if (nb r).length ≤ 12 ∧ (up r).all (fun u => memE E o && thereA (maskFrom base (cl.getD i 0) 0 st.h) u.1) = true then some ⟨o.dst, v r, up r ++ keyed (base + 12 * i) (nb r)⟩ else none
      | _ => none
    else some ⟨o.dst, .tup [], []⟩
theorem stepD_dlt (E : Env) (ops : Array Oper) (cl : List Nat) (an : List (Option Nat)) (base : Nat) (i : Nat) (st : St) : stepD E ops cl an base i st = (dlt E ops cl an base i st).map (applyD st) := by
  unfold stepD dlt
  cases ops[i]? with
  | none => rfl
  | some o =>
    dsimp only
    cases guardA ops st.tmps o with
    | none => rfl
    | some g =>
      dsimp only
      cases g with
      | false => rfl
      | true =>
        dsimp only [cond_true]
        cases den E (base + 12 * i) st.eval (maskFrom base (cl.getD i 0) 0 st.h) o with
        | none => rfl
        | enter g a => rfl
        | val c v nb u =>
          cases c with
          | false => rfl
          | true =>
            dsimp only [cond_true]
            split
            · cases u <;> cases nb <;> rfl
            · rfl
        | call g a T m v nb up =>
          dsimp only
          cases m with
          | none => rfl
          | some r =>
            simp only [Option.bind_some]
            split
            · simp only [Option.map_some, applyD, List.foldl_append, keyed_fold, applyU]
            · rfl

theorem mask_length (base pred : Nat) : ∀ (i : Nat) (h : List AB), (maskFrom base pred i h).length = h.length
  | _, [] => rfl
  | i, b :: t => by simp [maskFrom, mask_length base pred (i + 1) t]
theorem mask_get (base pred : Nat) : ∀ (i : Nat) (h : List AB) (k : Nat), (maskFrom base pred i h)[k]? = (h[k]?).map fun b => if i + k < base || bitAt pred ((i + k - base) / 12) then b else .gone
  | _, [], _ => by simp [maskFrom]
  | i, b :: t, 0 => by simp [maskFrom]
  | i, b :: t, k + 1 => by
    simp only [maskFrom, List.getElem?_cons_succ]
    rw [mask_get base pred (i + 1) t k]
    have : i + 1 + k = i + (k + 1) := by omega
    rw [this]
theorem mask_ok (base pred : Nat) (h : List AB) : Mask (maskFrom base pred 0 h) h :=
  ⟨mask_length _ _ _ _, fun k b hk => by
    rw [mask_get, Option.map_eq_some_iff] at hk
    obtain ⟨b0, h0, rfl⟩ := hk
    split
    · exact .inr h0
    · exact .inl rfl⟩
theorem mask_set_hidden {base pred : Nat} {h : List AB} {k : Nat} {b : AB} (hb : base ≤ k) (hp : bitAt pred ((k - base) / 12) = false) : maskFrom base pred 0 (h.set k b) = maskFrom base pred 0 h := by
  apply List.ext_getElem?
  intro j
  rw [mask_get, mask_get]
  by_cases e : k = j
  · subst e
    have h1 : ¬ (0 + k < base) := by omega
    have h2 : 0 + k - base = k - base := by omega
    rw [h2]
    simp only [h1, decide_false, Bool.false_or, hp, Bool.false_eq_true, if_false]
    by_cases hlt : k < h.length
    · rw [List.getElem?_set_self hlt, List.getElem?_eq_getElem hlt]; rfl
    · rw [List.getElem?_eq_none (by simp; omega), List.getElem?_eq_none (by omega)]
  · rw [List.getElem?_set_ne e]
theorem mask_fold_hidden {base pred : Nat} : ∀ {ups : List (Nat × AB)} {h : List AB}, (∀ p, p ∈ ups → base ≤ p.1 ∧ bitAt pred ((p.1 - base) / 12) = false) → maskFrom base pred 0 (ups.foldl (fun h u => h.set u.1 u.2) h) = maskFrom base pred 0 h
  | [], _, _ => rfl
  | p :: ups, h, hp => by
    rw [List.foldl_cons, mask_fold_hidden (fun q hq => hp q (by simp [hq])), mask_set_hidden (hp p (by simp)).1 (hp p (by simp)).2]

theorem mask_fold_at {base pred k : Nat} : ∀ {ups : List (Nat × AB)} {h : List AB}, (∀ p, p ∈ ups → (base ≤ p.1 ∧ bitAt pred ((p.1 - base) / 12) = false) ∨ p.1 ≠ k) → (maskFrom base pred 0 (ups.foldl (fun h u => h.set u.1 u.2) h))[k]? = (maskFrom base pred 0 h)[k]?
  | [], _, _ => rfl
  | p :: ups, h, hp => by
    rw [List.foldl_cons, mask_fold_at (fun q hq => hp q (by simp [hq]))]
    rcases hp p (by simp) with ⟨h1, h2⟩ | h1
    · rw [mask_set_hidden h1 h2]
    · rw [mask_get, mask_get, List.getElem?_set_ne h1]

/-- Two operations neither of which comes before the other by the edges. -/
structure Indep (E : Env) (ops : Array Oper) (cl : List Nat) (an : List (Option Nat)) (i j : Nat) : Prop where
  ne : i ≠ j
  bij : bitAt (cl.getD j 0) i = false
  bji : bitAt (cl.getD i 0) j = false
  apart : ∀ o p, ops[i]? = some o → ops[j]? = some p → apartOK E ops cl an i j o p = true
theorem apartOK_spec {E : Env} {ops : Array Oper} {cl : List Nat} {an : List (Option Nat)} {i j : Nat} {o p : Oper} (h : apartOK E ops cl an i j o p = true) :
    (∀ d, o.dst = some d → d ∉ readsT ops p ∧ p.dst ≠ some d) ∧ (∀ d, p.dst = some d → d ∉ readsT ops o) ∧ (memE E o = true → memR E p = false ∨ hidOf ops cl o j = true ∨ sepOf an i j o p = true) ∧ (memE E p = true → memR E o = false ∨ hidOf ops cl p i = true ∨ sepOf an j i p o = true) := by
  unfold apartOK at h
  simp only [Bool.and_eq_true, Bool.or_eq_true, Bool.not_eq_true', Bool.and_eq_false_iff, List.all_eq_true] at h
  obtain ⟨⟨⟨h1, h2⟩, h3⟩, h4⟩ := h
  refine ⟨fun d hd => ?_, fun d hd => ?_, fun hw => ?_, fun hw => ?_⟩
  · have := h1 d (by simp [hd])
    refine ⟨by simpa using this.1, fun e => ?_⟩
    have h5 := this.2
    rw [e] at h5; simp at h5
  · simpa using h2 d (by simp [hd])
  · rcases h3 with ((e | e) | e) | e
    · rw [hw] at e; cases e
    · exact .inl e
    · exact .inr (.inl e)
    · exact .inr (.inr e)
  · rcases h4 with ((e | e) | e) | e
    · exact .inl e
    · rw [hw] at e; cases e
    · exact .inr (.inl e)
    · exact .inr (.inr e)
theorem Indep.symm {E : Env} {ops : Array Oper} {cl : List Nat} {an : List (Option Nat)} {i j : Nat} (h : Indep E ops cl an i j) : Indep E ops cl an j i := by
  refine ⟨h.ne.symm, h.bji, h.bij, fun o p ho hp => ?_⟩
  obtain ⟨h1, h2, h3, h4⟩ := apartOK_spec (h.apart p o hp ho)
  unfold apartOK
  simp only [Bool.and_eq_true, Bool.or_eq_true, Bool.not_eq_true', Bool.and_eq_false_iff, List.all_eq_true, Option.mem_toList]
  refine ⟨⟨⟨fun d hd => ⟨?_, ?_⟩, fun d hd => ?_⟩, ?_⟩, ?_⟩
  · simpa using h2 d hd
  · have hne : p.dst ≠ some d := fun e => (h1 d e).2 hd
    cases hp' : p.dst with
    | none => rfl
    | some d' => simp; intro e; exact hne (by rw [hp', e])
  · simpa using (h1 d hd).1
  · cases hw : memE E o with
    | false => exact .inl (.inl (.inl rfl))
    | true => exact (h4 hw).elim (fun e => .inl (.inl (.inr e))) fun e => e.elim (fun e => .inl (.inr e)) fun e => .inr e
  · cases hw : memE E p with
    | false => exact .inl (.inl (.inr rfl))
    | true => exact (h3 hw).elim (fun e => .inl (.inl (.inl e))) fun e => e.elim (fun e => .inl (.inr e)) fun e => .inr e

section
variable {E : Env} {ops : Array Oper} {cl : List Nat} {an : List (Option Nat)} {base : Nat} {i j : Nat} {st : St}

theorem memE_of_W {o : Oper} (h : memW o = true) : memE E o = true := by simp [memE, h]
/-- Where a step writes: among what it was given, and at its own two places. -/
theorem dlt_ups {d : Dl} (h : dlt E ops cl an base i st = some d) : (∀ o, ops[i]? = some o → d.dst = o.dst) ∧ (ops[i]? = none → d.dst = none) ∧
    ∀ p, p ∈ d.ups → (base + 12 * i ≤ p.1 ∧ p.1 < base + 12 * i + 12) ∨ (∃ o, ops[i]? = some o ∧ memE E o = true ∧ (∃ b0, (maskFrom base (cl.getD i 0) 0 st.h)[p.1]? = some b0 ∧ b0 ≠ .gone) ∧ (∀ q, locOf ops o = some q → base + 12 * q ≤ p.1 ∧ p.1 < base + 12 * q + 12) ∧ ∀ k a, an.getD i none = some k → keyOp o = some a → p.1 = k) := by
  unfold dlt at h
  cases ho : ops[i]? with
  | none => rw [ho] at h; cases h; exact ⟨fun o e => (by cases e), fun _ => rfl, fun p hp => (by cases hp)⟩
  | some o =>
    rw [ho] at h
    dsimp only at h
    cases hg : guardA ops st.tmps o with
    | none => rw [hg] at h; cases h
    | some g =>
      rw [hg] at h
      dsimp only at h
      cases g with
      | false => cases h; exact ⟨fun o' e => (by cases e; rfl), fun e => (by cases e), fun p hp => (by cases hp)⟩
      | true =>
        dsimp only [cond_true] at h
        cases hd : den E (base + 12 * i) st.eval (maskFrom base (cl.getD i 0) 0 st.h) o with
        | none => rw [hd] at h; cases h
        | enter g a => rw [hd] at h; cases h
        | val c v nb u =>
          rw [hd] at h
          dsimp only at h
          cases c with
          | false => cases h
          | true =>
            dsimp only [cond_true] at h
            split at h <;> first | cases h; done | skip
            rename_i hloc
            cases h
            refine ⟨fun o' e => (by cases e; rfl), fun e => (by cases e), fun p hp => ?_⟩
            simp only [List.mem_append] at hp
            rcases hp with hp | hp
            · cases u with
              | none => cases hp
              | some u =>
                simp only [Option.toList_some, List.mem_singleton] at hp
                subst hp
                obtain ⟨k, b⟩ := p
                rw [Bool.and_eq_true] at hloc
                refine .inr ⟨o, rfl, (den_upd hd).1, (den_upd hd).2, fun q hq => ?_, fun k' a' hk ha => ?_⟩
                · have := hloc.1
                  simp only [locOK, hq, Bool.and_eq_true, decide_eq_true_eq] at this
                  exact this
                · have := hloc.2
                  simp only [keyOK, hk, ha, decide_eq_true_eq] at this
                  exact den_upd_key hd ha this
            · have := keyed_mem hp
              cases nb <;> simp only [Option.toList_none, Option.toList_some, List.length_nil, List.length_cons] at this <;> exact .inl (by omega)
        | call g a T m v nb up =>
          rw [hd] at h
          dsimp only at h
          rw [Option.bind_eq_some_iff] at h
          obtain ⟨r, _, h⟩ := h
          split at h <;> first | cases h; done | skip
          rename_i hl
          cases h
          refine ⟨fun o' e => (by cases e; rfl), fun e => (by cases e), fun p hp => ?_⟩
          simp only [List.mem_append] at hp
          rcases hp with hp | hp
          · have h2 := List.all_eq_true.1 hl.2 p hp
            simp only [Bool.and_eq_true] at h2
            refine .inr ⟨o, rfl, h2.1, ?_⟩
            have h3 := h2.2
            unfold thereA at h3
            split at h3 <;> first | cases h3; done | skip
            rename_i b0 hne heq
            refine ⟨⟨b0, heq, fun e => hne (by rw [← e])⟩, fun q hq => ?_, fun k' a' hk ha => ?_⟩
            · obtain ⟨c, f, g0, cap, hop, _⟩ := den_callee (.inl ⟨T, m, v, nb, up, hd⟩)
              simp [locOf, hop] at hq
            · obtain ⟨c, f, g0, cap, hop, hc, _⟩ := den_callee (.inl ⟨T, m, v, nb, up, hd⟩)
              simp [keyOp, hop, hc] at ha
          · have := keyed_mem hp
            exact .inl (by omega)

/-- A step doesn't see what an independent one has done. -/
theorem dlt_indep (hi : Indep E ops cl an i j) {d : Dl} (h : dlt E ops cl an base i st = some d) : dlt E ops cl an base j (applyD st d) = dlt E ops cl an base j st := by
  obtain ⟨hdst, hdn, hups⟩ := dlt_ups h
  unfold dlt
  cases hj : ops[j]? with
  | none => rfl
  | some p =>
    dsimp only
    -- slots
    have hslot : ∀ t, t ∈ readsT ops p → (applyD st d).tmps[t]? = st.tmps[t]? := by
      intro t ht
      simp only [applyD]
      cases hd : d.dst with
      | none => rfl
      | some q =>
        cases ho : ops[i]? with
        | none => rw [hdn ho] at hd; cases hd
        | some o =>
          have hdo := hdst o ho
          rw [hd] at hdo
          have := ((apartOK_spec (hi.apart o p ho hj)).1 q hdo.symm).1
          have hne : q ≠ t := fun e => this (e ▸ ht)
          simp only [putDst]
          rw [List.getElem?_set_ne hne]
    have hg : guardA ops (applyD st d).tmps p = guardA ops st.tmps p := by
      unfold guardA
      cases hgd : p.guard with
      | none => rfl
      | some jw =>
        obtain ⟨q, want⟩ := jw
        dsimp only
        cases hq : (ops[q]?).bind (·.dst) with
        | none => rfl
        | some s =>
          dsimp only
          rw [hslot s (by simp [readsT, hgd, hq])]
    rw [hg]
    cases guardA ops st.tmps p with
    | none => rfl
    | some g =>
      dsimp only
      cases g with
      | false => rfl
      | true =>
        dsimp only [cond_true]
        have hρ : ∀ x, x ∈ p.op.operands.toList → (applyD st d).eval x = st.eval x := fun x hx => by
          cases x with
          | tmp t =>
            simp only [St.eval]
            rw [hslot t (by simp only [readsT, List.mem_append]; exact .inl (List.mem_filterMap.2 ⟨_, hx, rfl⟩))]
          | _ => rfl
        have hkeyOK : keyOK an j (applyD st d).eval p = keyOK an j st.eval p := by
          unfold keyOK
          cases an.getD j none with
          | none => rfl
          | some k =>
            cases ha : keyOp p with
            | none => rfl
            | some a => dsimp only; rw [hρ a (keyOp_mem ha)]
        rw [hkeyOK]
        rcases Classical.em (∃ o, ops[i]? = some o ∧ sepOf an i j o p = true) with ⟨o, ho, hsep⟩ | hno
        · -- another block
          unfold sepOf at hsep
          split at hsep <;> first | cases hsep; done | skip
          rename_i k k' x y h1 h2 h3 h4
          have hne := of_decide_eq_true hsep
          have hnc : ∀ g a T m v nb up hh ev, den E (base + 12 * j) ev hh p ≠ .call g a T m v nb up := by
            intro g a T m v nb up hh ev e
            exact den_not_call h4 e
          by_cases hk : rootKey (st.eval y) = some k'
          · have hd1 : den E (base + 12 * j) (applyD st d).eval (maskFrom base (cl.getD j 0) 0 (applyD st d).h) p = den E (base + 12 * j) st.eval (maskFrom base (cl.getD j 0) 0 st.h) p := by
              have e1 : den E (base + 12 * j) (applyD st d).eval (maskFrom base (cl.getD j 0) 0 (applyD st d).h) p = den E (base + 12 * j) st.eval (maskFrom base (cl.getD j 0) 0 (applyD st d).h) p := den_congr hρ (fun _ => rfl)
              rw [e1]
              refine den_addr h4 hk ?_
              simp only [applyD]
              refine mask_fold_at fun q hq => ?_
              rcases hups q hq with ⟨g1, g2⟩ | ⟨o', ho', _, _, _, hkk⟩
              · refine .inl ⟨by omega, ?_⟩
                have : (q.1 - base) / 12 = i := by omega
                rw [this]; exact hi.bij
              · rw [ho] at ho'; obtain rfl := Option.some.inj ho'
                exact .inr (by rw [hkk k x h1 h3]; exact hne)
            rw [hd1]
            cases hdd : den E (base + 12 * j) st.eval (maskFrom base (cl.getD j 0) 0 st.h) p with
            | call g a T m v nb up => exact absurd hdd (hnc g a T m v nb up _ _)
            | _ => rfl
          · have hkf : keyOK an j st.eval p = false := by simp only [keyOK, h2, keyOp_addr h4]; exact decide_eq_false hk
            rw [hkf]
            have : ∀ ev hh, (match den E (base + 12 * j) ev hh p with
                | .val c v nb u => bif c then (if (locOK ops base p u && false) = true then some (⟨p.dst, v, u.toList ++ keyed (base + 12 * j) nb.toList⟩ : Dl) else none) else none
                | .call _ _ _ m v nb up => m.bind fun r => if (nb r).length ≤ 12 ∧ (up r).all (fun u => memE E p && thereA hh u.1) = true then some ⟨p.dst, v r, up r ++ keyed (base + 12 * j) (nb r)⟩ else none
                | _ => none) = none := by
              intro ev hh
              cases hdd : den E (base + 12 * j) ev hh p with
              | call g a T m v nb up => exact absurd hdd (hnc g a T m v nb up _ _)
              | val c v nb u => cases c <;> simp
              | _ => rfl
            exact (this _ _).trans (this _ _).symm
        · have hmask : memR E p = true → maskFrom base (cl.getD j 0) 0 (applyD st d).h = maskFrom base (cl.getD j 0) 0 st.h := fun hm => by
            simp only [applyD]
            refine mask_fold_hidden fun q hq => ?_
            rcases hups q hq with ⟨h1, h2⟩ | ⟨o, ho, hw, _, hloc⟩
            · refine ⟨by omega, ?_⟩
              have : (q.1 - base) / 12 = i := by omega
              rw [this]; exact hi.bij
            · rcases (apartOK_spec (hi.apart o p ho hj)).2.2.1 hw with this | this
              · rw [this] at hm; cases hm
              · rcases this with this | this
                · unfold hidOf at this
                  cases hq : locOf ops o with
                  | none => rw [hq] at this; cases this
                  | some x =>
                    rw [hq] at this
                    have h3 := hloc.1 x hq
                    have h4 : (q.1 - base) / 12 = x := by omega
                    exact ⟨by omega, by rw [h4]; simpa using this⟩
                · exact absurd ⟨o, ho, this⟩ hno
          have hden : den E (base + 12 * j) (applyD st d).eval (maskFrom base (cl.getD j 0) 0 (applyD st d).h) p = den E (base + 12 * j) st.eval (maskFrom base (cl.getD j 0) 0 st.h) p := by
            refine den_congr (fun x hx => ?_) (fun hm => ?_)
            · cases x with
              | tmp t =>
                simp only [St.eval]
                rw [hslot t (by simp only [readsT, List.mem_append]; exact .inl (List.mem_filterMap.2 ⟨_, hx, rfl⟩))]
              | _ => rfl
            · exact hmask hm
          rw [hden]
          cases hdd : den E (base + 12 * j) st.eval (maskFrom base (cl.getD j 0) 0 st.h) p with
          | call g a T m v nb up =>
            have hm : memR E p = true := by
              obtain ⟨c, f, g0, cap, hop, hc, _⟩ := den_callee (.inl ⟨T, m, v, nb, up, hdd⟩)
              simp [memR, hop, hc]
            rw [hmask hm]
          | _ => rfl

theorem foldl_set_comm {us vs : List (Nat × AB)} (hd : ∀ p, p ∈ us → ∀ q, q ∈ vs → p.1 ≠ q.1) (h : List AB) :
    vs.foldl (fun h u => h.set u.1 u.2) (us.foldl (fun h u => h.set u.1 u.2) h) = us.foldl (fun h u => h.set u.1 u.2) (vs.foldl (fun h u => h.set u.1 u.2) h) := by
  induction us generalizing h with
  | nil => rfl
  | cons p us ih =>
    simp only [List.foldl_cons]
    rw [ih (fun q hq => hd q (by simp [hq]))]
    congr 1
    have h1 : ∀ q, q ∈ vs → p.1 ≠ q.1 := hd p (by simp)
    clear ih hd
    induction vs generalizing h with
    | nil => rfl
    | cons q vs ih =>
      simp only [List.foldl_cons]
      rw [← ih (h.set q.1 q.2) (fun r hr => h1 r (by simp [hr])), List.set_comm _ _ (h1 q (by simp))]

theorem step_comm (hi : Indep E ops cl an i j) : (stepD E ops cl an base i st).bind (stepD E ops cl an base j) = (stepD E ops cl an base j st).bind (stepD E ops cl an base i) := by
  simp only [stepD_dlt]
  cases hdi : dlt E ops cl an base i st with
  | none =>
    simp only [Option.map_none, Option.bind_none]
    cases hdj : dlt E ops cl an base j st with
    | none => rfl
    | some dj => simp only [Option.map_some, Option.bind_some, stepD_dlt, dlt_indep hi.symm hdj, hdi, Option.map_none]
  | some di =>
    simp only [Option.map_some, Option.bind_some, stepD_dlt, dlt_indep hi hdi]
    cases hdj : dlt E ops cl an base j st with
    | none => rfl
    | some dj =>
      simp only [Option.map_some, Option.bind_some, stepD_dlt, dlt_indep hi.symm hdj, hdi]
      congr 1
      obtain ⟨hdi1, hdi2, hui⟩ := dlt_ups hdi
      obtain ⟨hdj1, hdj2, huj⟩ := dlt_ups hdj
      have hin := hi.ne
      simp only [applyD]
      congr 1
      · -- slots
        cases hx : di.dst with
        | none => rfl
        | some x =>
          cases hy : dj.dst with
          | none => rfl
          | some y =>
            simp only [putDst]
            cases ho : ops[i]? with
            | none => rw [hdi2 ho] at hx; cases hx
            | some o =>
              cases hp : ops[j]? with
              | none => rw [hdj2 hp] at hy; cases hy
              | some p =>
                have h1 := hdi1 o ho; have h2 := hdj1 p hp
                rw [hx] at h1; rw [hy] at h2
                have hne := ((apartOK_spec (hi.apart o p ho hp)).1 x h1.symm).2
                have : x ≠ y := fun e => hne (by rw [← h2, e])
                rw [List.set_comm _ _ this]
      · refine foldl_set_comm (fun p hp q hq e => ?_) st.h
        have hid : ∀ (a b : Nat), bitAt (cl.getD a 0) b = false → ∀ k : Nat, base + 12 * b ≤ k → k < base + 12 * b + 12 → ∀ b0, (maskFrom base (cl.getD a 0) 0 st.h)[k]? = some b0 → b0 = .gone := by
          intro a b hb k h1 h2 b0 hk
          rw [mask_get, Option.map_eq_some_iff] at hk
          obtain ⟨b1, _, e1⟩ := hk
          have e2 : (0 + k - base) / 12 = b := by omega
          have e3 : ¬ (0 + k < base) := by omega
          rw [e2, hb] at e1
          simp only [e3, decide_false, Bool.or_self, Bool.false_eq_true, if_false] at e1
          exact e1.symm
        rcases hui p hp with ⟨a1, a2⟩ | ⟨o, ho, hw, ⟨b0, hb0, hng⟩, hloc⟩
        · rcases huj q hq with ⟨c1, c2⟩ | ⟨o', ho', hw', ⟨b0', hb0', hng'⟩, _⟩
          · omega
          · exact hng' (hid j i hi.bij q.1 (by omega) (by omega) b0' hb0')
        · rcases huj q hq with ⟨c1, c2⟩ | ⟨o', ho', hw', ⟨b0', hb0', hng'⟩, hloc'⟩
          · exact hng (hid i j hi.bji p.1 (by omega) (by omega) b0 hb0)
          · have hr := (apartOK_spec (hi.apart o o' ho ho')).2.2.1 hw
            have hwr : memE E o' = true → memR E o' = true := by
              intro h
              unfold memE at h
              rw [Bool.or_eq_true, Bool.or_eq_true] at h
              rcases h with (h | h) | h
              · unfold memW at h; unfold memR
                split at h <;> simp_all
                split at h <;> simp_all
              · simp only [Bool.and_eq_true] at h
                replace h := h.2
                unfold movS at h
                split at h <;> first | cases h; done | skip
                rename_i hop
                unfold memR; rw [hop]
              · unfold memR
                split at h <;> first | cases h; done | skip
                rename_i c hop
                split at h <;> first | cases h; done | skip
                rename_i f hc
                rw [hop]; dsimp only; rw [hc]
            rcases hr with hr | hr
            · rw [hwr hw'] at hr; cases hr
            · rcases hr with hr | hr
              · unfold hidOf at hr
                cases hqq : locOf ops o with
                | none => rw [hqq] at hr; cases hr
                | some x =>
                  rw [hqq] at hr
                  have h3 := hloc.1 x hqq
                  exact hng' (hid j x (by simpa using hr) q.1 (by omega) (by omega) b0' hb0')
              · unfold sepOf at hr
                split at hr <;> first | cases hr; done | skip
                rename_i k k' x y g1 g2 g3 g4
                have g5 := of_decide_eq_true hr
                rw [hloc.2 k x g1 g3, hloc'.2 k' y g2 (keyOp_addr g4)] at e
                exact g5 e
end

def runL (f : Nat → St → Option St) : List Nat → St → Option St
  | [], st => some st
  | i :: t, st => (f i st).bind (runL f t)
theorem runL_append (f : Nat → St → Option St) : ∀ (l m : List Nat) (st : St), runL f (l ++ m) st = (runL f l st).bind (runL f m)
  | [], _, _ => rfl
  | i :: l, m, st => by
    simp only [List.cons_append, runL]
    cases f i st with
    | none => rfl
    | some s => exact runL_append f l m s
theorem runL_move {f : Nat → St → Option St} {x : Nat} : ∀ {A : List Nat} (B : List Nat) (st : St), (∀ a, a ∈ A → ∀ s, (f x s).bind (f a) = (f a s).bind (f x)) → runL f (x :: (A ++ B)) st = runL f (A ++ x :: B) st
  | [], _, _, _ => rfl
  | a :: A, B, st, h => by
    have h1 := h a (by simp) st
    have e1 : runL f (x :: (a :: A ++ B)) st = ((f x st).bind (f a)).bind (runL f (A ++ B)) := by
      simp only [List.cons_append, runL]
      cases f x st <;> rfl
    rw [e1, h1]
    have e2 : ((f a st).bind (f x)).bind (runL f (A ++ B)) = (f a st).bind (runL f (x :: (A ++ B))) := by cases f a st <;> rfl
    rw [e2]
    simp only [List.cons_append]
    show _ = (f a st).bind (runL f (A ++ x :: B))
    cases f a st with
    | none => rfl
    | some s => exact runL_move B s (fun b hb => h b (by simp [hb]))
theorem runL_part {f : Nat → St → Option St} (p : Nat → Bool) : ∀ (l : List Nat) (st : St), l.Pairwise (fun a b => p a = false → p b = true → ∀ s, (f a s).bind (f b) = (f b s).bind (f a)) →
    runL f l st = runL f (l.filter p ++ l.filter (fun x => !p x)) st
  | [], _, _ => rfl
  | x :: l, st, h => by
    rw [List.pairwise_cons] at h
    obtain ⟨h1, h2⟩ := h
    have ih := fun s => runL_part p l s h2
    cases hp : p x with
    | true =>
      simp only [List.filter_cons, hp, if_true, Bool.not_true, Bool.false_eq_true, if_false, List.cons_append, runL]
      cases f x st with
      | none => rfl
      | some s => exact ih s
    | false =>
      simp only [List.filter_cons, hp, Bool.false_eq_true, if_false, Bool.not_false, if_true]
      rw [← runL_move (A := l.filter p) (l.filter fun x => !p x) st (fun a ha s => h1 a (List.mem_filter.1 ha).1 hp (List.mem_filter.1 ha).2 s)]
      simp only [runL]
      cases f x st with
      | none => rfl
      | some s => exact ih s

theorem evOpsD_run {R : Type} {E : Env} {ops : Array Oper} {cl : List Nat} {an : List (Option Nat)} {base : Nat} {k : St → Option R} : ∀ (l : List Nat) (st : St), evOpsD E ops cl an base k l st = (runL (stepD E ops cl an base) l st).bind k
  | [], _ => rfl
  | i :: l, st => by
    have ih := fun s => evOpsD_run (E := E) (ops := ops) (cl := cl) (an := an) (base := base) (k := k) l s
    simp only [evOpsD, runL, stepD]
    cases ops[i]? with
    | none => exact ih st
    | some o =>
      dsimp only
      cases guardA ops st.tmps o with
      | none => rfl
      | some g =>
        dsimp only
        cases g with
        | false => exact ih _
        | true =>
          dsimp only [cond_true]
          cases den E (base + 12 * i) st.eval (maskFrom base (cl.getD i 0) 0 st.h) o with
          | none => rfl
          | enter g a => rfl
          | val c v nb u =>
            cases c with
            | false => rfl
            | true =>
              dsimp only [cond_true]
              split
              · exact ih _
              · rfl
          | call g a T m v nb up =>
            dsimp only
            cases m with
            | none => rfl
            | some r =>
              simp only [Option.bind_some]
              split
              · exact ih _
              · rfl

section
variable {E : Env} {ops : Array Oper} {cl : List Nat} {an : List (Option Nat)} {base : Nat}

/-- A set of operations with all that comes before them. -/
def Down (ops : Array Oper) (S : Nat → Bool) : Prop := ∀ b o, ops[b]? = some o → S b = true → ∀ e, e ∈ o.after.toList → Region.binds .any e = true → S e.on = true
theorem clos_down (hc : closOK ops cl = true) {S : Nat → Bool} (hS : Down ops S) : ∀ (b : Nat), b < ops.size → S b = true → ∀ i, i < ops.size → bitAt (cl.getD b 0) i = true → S i = true ∧ i < b := by
  intro b
  induction b using Nat.strongRecOn with
  | _ b ih =>
    intro hb hSb i hi hbit
    simp only [closOK, List.all_eq_true, List.mem_range] at hc
    have := hc b hb i hi
    rw [hbit] at this
    simp only [Bool.not_true, Bool.false_or] at this
    cases ho : ops[b]? with
    | none => rw [ho] at this; cases this
    | some o =>
      rw [ho] at this
      simp only [List.any_eq_true, Bool.and_eq_true, decide_eq_true_eq, Bool.or_eq_true, beq_iff_eq] at this
      obtain ⟨e, he, ⟨hbind, hlt⟩, hor⟩ := this
      have hSe := hS b o ho hSb e he hbind
      rcases hor with rfl | hbit'
      · exact ⟨hSe, hlt⟩
      · have := ih e.on hlt (by omega) hSe i hi hbit'
        exact ⟨this.1, by omega⟩
theorem clos_lt (hc : closOK ops cl = true) {b i : Nat} (hb : b < ops.size) (hi : i < ops.size) (hbit : bitAt (cl.getD b 0) i = true) : i < b :=
  (clos_down hc (S := fun _ => true) (fun _ _ _ _ _ _ _ => rfl) b hb rfl i hi hbit).2

/-- What is not in a closed set is independent of what stands behind it and is in. -/
theorem indep_of (hd : drawOK E ops cl an = true) (hc : closOK ops cl = true) {S : Nat → Bool} (hS : Down ops S) {a b : Nat} (hab : a < b) (hb : b < ops.size) (hna : S a = false) (hSb : S b = true) : Indep E ops cl an a b := by
  have h1 : bitAt (cl.getD b 0) a = false := by
    cases h : bitAt (cl.getD b 0) a with
    | false => rfl
    | true => have := (clos_down hc hS b hb hSb a (by omega) h).1; rw [hna] at this; cases this
  refine ⟨by omega, h1, ?_, fun o p ho hp => ?_⟩
  · cases h : bitAt (cl.getD a 0) b with
    | false => rfl
    | true => have := clos_lt hc (by omega) hb h; omega
  · simp only [drawOK, List.all_eq_true, List.mem_range] at hd
    have := hd b hb a hab
    rw [h1, ho, hp] at this
    simpa using this

theorem filter_congr' {p q : Nat → Bool} {l : List Nat} (h : ∀ x, x ∈ l → p x = q x) : l.filter p = l.filter q := List.filter_congr h

theorem filter_one : ∀ {n i : Nat}, i < n → (List.range n).filter (fun x => x == i) = [i]
  | n + 1, i, h => by
    rw [List.range_succ, List.filter_append]
    by_cases e : i = n
    · subst e
      have : (List.range i).filter (fun x => x == i) = [] := List.filter_eq_nil_iff.2 fun x hx => by have := List.mem_range.1 hx; simp; omega
      rw [this]; simp
    · rw [filter_one (by omega)]
      have : (n == i) = false := by simp; omega
      simp [this]
/-- One more operation, of which all that comes before is done. -/
theorem step_more (hd : drawOK E ops cl an = true) (hc : closOK ops cl = true) {S : Nat → Bool} (hS : Down ops S) {i : Nat} (hi : i < ops.size) (hni : S i = false) (hS' : Down ops (fun x => S x || x == i)) {st0 st stN : St}
    (hrun : runL (stepD E ops cl an base) ((List.range ops.size).filter S) st0 = some st) (hfull : runL (stepD E ops cl an base) (List.range ops.size) st0 = some stN) :
    ∃ st1, stepD E ops cl an base i st = some st1 ∧ runL (stepD E ops cl an base) ((List.range ops.size).filter (fun x => S x || x == i)) st0 = some st1 := by
  have hpw : ∀ (T : Nat → Bool), Down ops T → (List.range ops.size).Pairwise (fun a b => T a = false → T b = true → ∀ s, (stepD E ops cl an base a s).bind (stepD E ops cl an base b) = (stepD E ops cl an base b s).bind (stepD E ops cl an base a)) := by
    intro T hT
    refine List.Pairwise.imp_of_mem ?_ List.pairwise_lt_range
    intro a b ha hb hab h1 h2 s
    exact step_comm (indep_of hd hc hT hab (List.mem_range.1 hb) h1 h2)
  have e1 := runL_part (fun x => S x || x == i) (List.range ops.size) st0 (hpw _ hS')
  rw [hfull, runL_append] at e1
  cases hs : runL (stepD E ops cl an base) ((List.range ops.size).filter (fun x => S x || x == i)) st0 with
  | none => rw [hs] at e1; cases e1
  | some st1 =>
    refine ⟨st1, ?_, rfl⟩
    have e2 := runL_part S ((List.range ops.size).filter (fun x => S x || x == i)) st0 ((hpw S hS).sublist List.filter_sublist)
    rw [hs, List.filter_filter, List.filter_filter] at e2
    have f1 : (List.range ops.size).filter (fun x => S x && (S x || x == i)) = (List.range ops.size).filter S := filter_congr' fun x _ => by cases S x <;> simp
    have f2 : (List.range ops.size).filter (fun x => !S x && (S x || x == i)) = [i] := by
      have f3 : (List.range ops.size).filter (fun x => !S x && (S x || x == i)) = (List.range ops.size).filter (fun x => x == i) := filter_congr' fun x _ => by
        by_cases hx : x = i
        · subst hx; simp [hni]
        · have : (x == i) = false := by simpa using hx
          rw [this]; cases S x <;> rfl
      rw [f3]
      exact filter_one hi
    rw [f1, f2, runL_append, hrun] at e2
    simp only [Option.bind_some, runL] at e2
    cases hst : stepD E ops cl an base i st with
    | none => rw [hst] at e2; cases e2
    | some s => rw [hst] at e2; simp only [Option.bind_some, Option.some.injEq] at e2; rw [e2]

theorem setNbs_length : ∀ (bs : List AB) (key : Nat) (h : List AB), (setNbs h key bs).length = h.length
  | [], _, _ => rfl
  | b :: t, key, h => by simp only [setNbs]; rw [setNbs_length t (key + 1) (h.set key b)]; simp
theorem setNbs_other : ∀ (bs : List AB) (key : Nat) (h : List AB) (k : Nat), (∀ j, j < bs.length → k ≠ key + j) → (setNbs h key bs)[k]? = h[k]?
  | [], _, _, _, _ => rfl
  | b :: t, key, h, k, hk => by
    simp only [setNbs]
    rw [setNbs_other t (key + 1) (h.set key b) k (fun j hj => by have := hk (j + 1) (by simp; omega); omega)]
    have := hk 0 (by simp)
    rw [List.getElem?_set_ne (by omega)]
theorem setNbs_here : ∀ (bs : List AB) (key : Nat) (h : List AB), key + bs.length ≤ h.length → ∀ j b, bs[j]? = some b → (setNbs h key bs)[key + j]? = some b
  | [], _, _, _, j, b, hb => by simp at hb
  | b0 :: t, key, h, hl, 0, b, hb => by
    simp at hb; subst hb
    simp only [setNbs, Nat.add_zero]
    rw [setNbs_other t (key + 1) (h.set key b0) key (fun j hj => by omega), List.getElem?_set_self (by simp at hl; omega)]
  | b0 :: t, key, h, hl, j + 1, b, hb => by
    simp only [setNbs]
    have := setNbs_here t (key + 1) (h.set key b0) (by simp at hl ⊢; omega) j b (by simpa using hb)
    rwa [show key + 1 + j = key + (j + 1) by omega] at this
theorem setNbs_placed (bs : List AB) (key : Nat) (h : List AB) (hl : key + bs.length ≤ h.length) : PlacedL h (setNbs h key bs) key bs ∧ (setNbs h key bs).length = h.length :=
  ⟨⟨setNbs_here bs key h hl, fun k hk => setNbs_other bs key h k hk, by rw [setNbs_length]; exact Nat.le_refl _⟩, setNbs_length bs key h⟩

/-- A step in whatever order: what the machine does. -/
theorem stepD_wp {E : Env} (hE : EnvOK E) {ops : Array Oper} {cl : List Nat} {an : List (Option Nat)} {base : Nat} {B : KS} {W : World} {st st1 : St} {ρ : Ren} {a : Act} {w : World} {i : Nat} {K : Act → World → Prop} {Q : Exit → Act → World → Prop}
    (hs : stepD E ops cl an base i st = some st1) (hi : i < ops.size) (hr : Rel B W ρ st a w) (hlen : base + 12 * i + 12 ≤ st.h.length) (hk0 : ∀ j, j < 12 → ρ (base + 12 * i + j) = none)
    (hn : ∀ ρ' a' w', ρ.le ρ' → (∀ k, (∀ j, j < 12 → k ≠ base + 12 * i + j) → ρ' k = ρ k) → Rel B W ρ' st1 a' w' → st1.h.length = st.h.length → K a' w') : wpOp E.P ops Q i K a w := by
  unfold stepD at hs
  unfold wpOp
  cases ho : ops[i]? with
  | none => rw [Array.getElem?_eq_none_iff] at ho; omega
  | some o =>
    rw [ho] at hs
    dsimp only at hs ⊢
    cases hg : guardA ops st.tmps o with
    | none => rw [hg] at hs; cases hs
    | some g =>
      rw [hg] at hs
      dsimp only at hs
      rw [guardA_ok hr hg]
      cases g with
      | false =>
        cases hs
        exact hn ρ _ w (Ren.le_refl ρ) (fun _ _ => rfl) hr.skip rfl
      | true =>
        simp only [if_true]
        refine .inl ?_
        dsimp only [cond_true] at hs
        cases hd : den E (base + 12 * i) st.eval (maskFrom base (cl.getD i 0) 0 st.h) o with
        | none => rw [hd] at hs; cases hs
        | enter g a => rw [hd] at hs; cases hs
        | val c v nb u =>
          rw [hd] at hs
          dsimp only at hs
          cases c with
          | false => cases hs
          | true =>
            dsimp only [cond_true] at hs
            split at hs <;> first | cases hs; done | skip
            cases hs
            have hul : (updH st.h u).length = st.h.length := by cases u <;> simp [updH]
            refine op_val hd hr (mask_ok _ _ _) (hk0 0 (by omega)) (setNb (updH st.h u) (base + 12 * i) nb) ?_ (fun ρ' a' w' hle hoth hr' => hn ρ' a' w' hle (fun k h1 => hoth k (h1 0 (by omega))) hr' (by cases nb <;> simp [setNb, hul]))
            cases nb with
            | none => rfl
            | some b => exact Placed.set _ _ _ (by rw [hul]; omega)
        | call g args T m v nb up =>
          rw [hd] at hs
          dsimp only at hs
          rw [Option.bind_eq_some_iff] at hs
          obtain ⟨x, hx, hs⟩ := hs
          split at hs <;> first | cases hs; done | skip
          rename_i hle3
          have hle2 := hle3.1
          cases hs
          have hpl : ∀ hh : List AB, hh.length = st.h.length → PlacedL hh (setNbs hh (base + 12 * i) (nb x)) (base + 12 * i) (nb x) ∧ (setNbs hh (base + 12 * i) (nb x)).length = hh.length := by
            intro hh hhl
            exact setNbs_placed (nb x) (base + 12 * i) hh (by omega)
          replace hpl := hpl (applyU st.h (up x)) (applyU_length _ _)
          have hal : (applyU st.h (up x)).length = st.h.length := applyU_length _ _
          refine op_call hE hd hx hr (mask_ok _ _ _) (fun j hj => ?_) _ hpl.1 (fun ρ' a' w' hle hoth hr' => hn ρ' a' w' hle (fun k h1 => hoth k (fun j hj => ?_)) hr' (hpl.2.trans hal))
          · exact hk0 j (by omega)
          · exact h1 j (by omega)

theorem drawn_any {E : Env} (hE : EnvOK E) {ops : Array Oper} {cl : List Nat} {an : List (Option Nat)} {base : Nat} {B : KS} {W : World} {st0 stN : St} {Q : Exit → Act → World → Prop} (hd : drawOK E ops cl an = true) (hc : closOK ops cl = true) (he : edgesOK ops = true)
    (hfull : runL (stepD E ops cl an base) (List.range ops.size) st0 = some stN) (hlen0 : base + 12 * ops.size ≤ st0.h.length) (ρ0 : Ren)
    (hQ : ∀ ρ' a' w', ρ0.le ρ' → Rel B W ρ' stN a' w' → Q .normal a' w') :
    ∀ (fuel : Nat) (listed : Array Bool) (st : St) (ρ : Ren) (a : Act) (w : World), listed.size = ops.size → Down ops (fun i => listed.getD i false) →
      runL (stepD E ops cl an base) ((List.range ops.size).filter (fun i => listed.getD i false)) st0 = some st → Rel B W ρ st a w → ρ0.le ρ → st.h.length = st0.h.length →
      (∀ i, i < ops.size → listed.getD i false = false → ∀ q, q < 12 → ρ (base + 12 * i + q) = none) →
      ((List.range ops.size).filter (fun i => !listed.getD i false)).length ≤ fuel → wpAny E.P .any ops Q fuel listed a w := by
  -- nothing is ready where all is done, and only there
  have hready : ∀ (listed : Array Bool), listed.size = ops.size → Region.ready .any ops listed = [] → ∀ i, i < ops.size → listed.getD i false = true := by
    intro listed hsz hnil i
    induction i using Nat.strongRecOn with
    | _ i ih =>
      intro hi
      cases hl : listed.getD i false with
      | true => rfl
      | false =>
        exfalso
        have hmem : i ∈ Region.ready .any ops listed := by
          unfold Region.ready
          refine List.mem_filter.2 ⟨List.mem_range.2 hi, ?_⟩
          have hlt : i < listed.size := by omega
          have h1 : listed.getD i true = false := by simpa [Array.getD, hlt] using hl
          rw [h1]
          have ho : ops[i]? = some ops[i] := by simp [hi]
          rw [ho]
          simp only [Bool.not_false, Bool.true_and, Option.map_some, Option.getD_some]
          simp only [edgesOK, List.all_eq_true, List.mem_range] at he
          have h2 := he i hi
          rw [ho] at h2
          simp only [List.all_eq_true, Bool.or_eq_true, Bool.not_eq_true', decide_eq_true_eq] at h2
          rw [← Array.all_toList, List.all_eq_true]
          intro e hee
          rcases h2 e hee with h3 | h3
          · simp [h3]
          · simp [ih e.on h3 (by omega)]
        rw [hnil] at hmem; cases hmem
  have hdone : ∀ (listed : Array Bool) (st : St), listed.size = ops.size → Region.ready .any ops listed = [] → runL (stepD E ops cl an base) ((List.range ops.size).filter (fun i => listed.getD i false)) st0 = some st → st = stN := by
    intro listed st hsz hnil hrun
    have : (List.range ops.size).filter (fun i => listed.getD i false) = List.range ops.size := List.filter_eq_self.2 fun i hi => hready listed hsz hnil i (List.mem_range.1 hi)
    rw [this, hfull] at hrun
    exact (Option.some.inj hrun).symm
  intro fuel
  induction fuel with
  | zero =>
    intro listed st ρ a w hsz hdown hrun hr hle hlen hfr hcount
    have hnil : Region.ready .any ops listed = [] := by
      apply List.eq_nil_iff_forall_not_mem.2
      intro i hi
      have hi' := List.mem_filter.1 hi
      have hlt := List.mem_range.1 hi'.1
      have : i ∈ (List.range ops.size).filter (fun i => !listed.getD i false) := by
        refine List.mem_filter.2 ⟨hi'.1, ?_⟩
        have h1 := hi'.2
        simp only [Bool.and_eq_true, Bool.not_eq_true'] at h1
        have hl : i < listed.size := by omega
        have h2 := h1.1
        rw [Array.getD_eq_getD_getElem?, Array.getElem?_eq_getElem hl] at h2 ⊢
        simpa using h2
      have h0 : (List.range ops.size).filter (fun i => !listed.getD i false) = [] := List.eq_nil_of_length_eq_zero (by omega)
      rw [h0] at this; cases this
    obtain rfl := hdone listed st hsz hnil hrun
    exact ⟨hnil, hQ ρ a w hle hr⟩
  | succ fuel ih =>
    intro listed st ρ a w hsz hdown hrun hr hle hlen hfr hcount
    refine ⟨fun hnil => ?_, fun i hi => ?_⟩
    · obtain rfl := hdone listed st hsz hnil hrun
      exact hQ ρ a w hle hr
    · have hi' := List.mem_filter.1 hi
      have hlt := List.mem_range.1 hi'.1
      have h1 := hi'.2
      simp only [Bool.and_eq_true, Bool.not_eq_true'] at h1
      have hl : i < listed.size := by omega
      have hni : listed.getD i false = false := by
        have h2 := h1.1
        rw [Array.getD_eq_getD_getElem?, Array.getElem?_eq_getElem hl] at h2 ⊢
        simpa using h2
      have hset : ∀ j, (listed.setIfInBounds i true).getD j false = (listed.getD j false || j == i) := by
        intro j
        by_cases e : j = i
        · subst e; simp [Array.getD, hl]
        · have hb : (j == i) = false := by simpa using e
          rw [hb, Bool.or_false]
          rw [Array.getD_eq_getD_getElem?, Array.getD_eq_getD_getElem?, Array.getElem?_setIfInBounds_ne (Ne.symm e)]
      have hdown' : Down ops (fun x => listed.getD x false || x == i) := by
        intro b o ho hb e hee hbind
        simp only [Bool.or_eq_true, beq_iff_eq] at hb ⊢
        rcases hb with hb | rfl
        · exact .inl (hdown b o ho hb e hee hbind)
        · have h2 := h1.2
          rw [ho] at h2
          simp only [Option.map_some, Option.getD_some] at h2
          rw [← Array.all_toList, List.all_eq_true] at h2
          have h3 := h2 e hee
          rw [hbind] at h3
          exact .inl (by simpa using h3)
      obtain ⟨st1, hst1, hrun1⟩ := step_more hd hc hdown hlt hni hdown' hrun hfull
      have hf := hfr i hlt hni
      refine stepD_wp hE hst1 hlt hr (by omega) hf fun ρ' a' w' hle' hoth hr' hlen' => ?_
      refine ih _ st1 ρ' a' w' (by simp [hsz]) ?_ ?_ hr' (Ren.le_trans hle hle') (by omega) ?_ ?_
      · intro b o ho hb e hee hbind
        dsimp only at hb ⊢
        rw [hset] at hb ⊢
        exact hdown' b o ho hb e hee hbind
      · rw [← hrun1]; congr 1
        exact filter_congr' fun x _ => hset x
      · intro j hj hjn
        rw [hset] at hjn
        simp only [Bool.or_eq_false_iff, beq_eq_false_iff_ne] at hjn
        have := hfr j hj hjn.1
        have hne := hjn.2
        intro q hq
        rw [hoth _ (fun q' hq' => by omega)]
        exact this q hq
      · have hc' : ((List.range ops.size).filter (fun j => !(listed.setIfInBounds i true).getD j false)).length < ((List.range ops.size).filter (fun j => !listed.getD j false)).length := by
          have e1 : (List.range ops.size).filter (fun j => !(listed.setIfInBounds i true).getD j false) = ((List.range ops.size).filter (fun j => !listed.getD j false)).filter (fun j => !(j == i)) := by
            rw [List.filter_filter]
            exact filter_congr' fun x _ => by rw [hset, Bool.not_or, Bool.and_comm]
          rw [e1]
          have hmem : i ∈ (List.range ops.size).filter (fun j => !listed.getD j false) := List.mem_filter.2 ⟨hi'.1, by simp [hni]⟩
          exact List.length_filter_lt_length_iff_exists.2 ⟨i, hmem, by simp⟩
        omega

/-- A REGION THAT DRAWS ITS ORDER. -/
theorem drawn_sound {R : Type} {E : Env} (hE : EnvOK E) {ops : Array Oper} {an : List (Option Nat)} {B : KS} {W : World} {st : St} {r : R} {k : St → Option R} {ρ : Ren} {a : Act} {w : World} {Q : Exit → Act → World → Prop}
    (hd : drawOK E ops (closureOf ops.toList) an = true) (he : edgesOK ops = true) (hc : closOK ops (closureOf ops.toList) = true)
    (h : evOpsD E ops (closureOf ops.toList) an st.h.length k (List.range ops.size) ⟨st.tmps, st.h ++ List.replicate (12 * ops.size) .gone⟩ = some r) (hr : Rel B W ρ st a w)
    (hQ : ∀ st', k st' = some r → ∀ ρ' a' w', ρ.le ρ' → Rel B W ρ' st' a' w' → Q .normal a' w') : wpAny E.P .any ops Q ops.size (Array.replicate ops.size false) a { w with drawn := w.drawn + 1 } := by
  rw [evOpsD_run, Option.bind_eq_some_iff] at h
  obtain ⟨stN, hfull, hk⟩ := h
  have hr0 : Rel B W ρ ⟨st.tmps, st.h ++ List.replicate (12 * ops.size) .gone⟩ a w.drew := by
    refine ⟨hr.len, hr.tmps, ?_, hr.below.trans (below_drew B w), hr.defers⟩
    obtain ⟨K, hs, hq⟩ := hr.heap
    have q := hq.drew
    refine ⟨K, hs, ?_⟩
    have hget : ∀ (j : Nat) (b : AB), (st.h ++ List.replicate (12 * ops.size) AB.gone)[j]? = some b → st.h[j]? = some b ∨ b = .gone := by
      intro j b hj
      rw [List.getElem?_append] at hj
      split at hj
      · exact .inl hj
      · rw [List.getElem?_replicate] at hj
        split at hj
        · exact .inr (Option.some.inj hj).symm
        · cases hj
    refine ⟨fun j b hj => ?_, fun k1 b1 k2 b2 r1 r2 g hne h1 h2 hr1 hr2 ho1 ho2 => ?_, fun j hj => q.fresh j (by simp at hj; omega), q.base⟩
    · rcases hget j b hj with h1 | h1
      · exact q.blk j b h1
      · exact .inl h1
    · rcases hget k1 b1 h1 with e1 | e1
      · rcases hget k2 b2 h2 with e2 | e2
        · exact q.sep k1 b1 k2 b2 r1 r2 g hne e1 e2 hr1 hr2 ho1 ho2
        · subst e2; simp [ownB] at ho2
      · subst e1; simp [ownB] at ho1
  have hrep : ∀ i, (Array.replicate ops.size false).getD i false = false := by
    intro i; by_cases hi : i < ops.size <;> simp [Array.getD, hi]
  refine drawn_any hE hd hc he hfull (by simp) ρ (fun ρ' a' w' hle hr' => hQ stN hk ρ' a' w' hle hr') ops.size _ _ ρ a w.drew (by simp) ?_ ?_ hr0 (Ren.le_refl ρ) rfl ?_ ?_
  · intro b o ho hb e hee hbind
    dsimp only at hb; rw [hrep] at hb; cases hb
  · have : (List.range ops.size).filter (fun i => (Array.replicate ops.size false).getD i false) = [] := List.filter_eq_nil_iff.2 fun x _ => by rw [hrep]; simp
    rw [this]; rfl
  · intro i hi _
    exact fun q _ => hr.heap.fresh _ (by omega)
  · exact Nat.le_trans (List.length_filter_le _ _) (by simp)
end
end Go.Ev
