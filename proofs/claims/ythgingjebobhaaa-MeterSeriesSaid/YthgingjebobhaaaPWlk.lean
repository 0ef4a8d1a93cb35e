import Derived.Test.YthgingjebobhaaaPSer
import Derived.RegionTactic
import Derived.RegionCalls
import Derived.Deep.RegionWith
import Derived.Deep.CutBlock
import Derived.Deep.CutRange
import Derived.ChangeAlike
import Derived.StillTailTactics
namespace Go.Proofs.Ythgingjebobhaaa
open Go.RowKit Go.Shelf Go.Ev
theorem Fc_round (ro : Option Nat) : (Fc ro).round = ro := rfl
theorem Fc_fn (ro : Option Nat) (f : FuncId) : (Fc ro).fn f = True := rfl
attribute [local go_sem] Oper.semAt_some Fc_round Fc_fn

theorem outC_full (s m n f : Nat) (h : f < n) : (outC s m n n).toArray[f]? = some (rowOf (s + 5 + f) m) := by
  rw [List.getElem?_toArray, outC, List.getElem?_append_left (by simpa using h), List.getElem?_map, List.getElem?_range h]
  rfl

/-- One entry counted. -/
def serStep (xs : List Int) (wd : Int) (m : Nat) (M : List (List Int)) (z : Row sh6) : List (List Int) :=
  if z.2.1 = 3 ∧ 0 ≤ z.1 ∧ z.1.tdiv wd < m then
    M.set z.2.2.1.toNat ((M.getD z.2.2.1.toNat []).set (z.1.tdiv wd).toNat (wrap64 ((M.getD z.2.2.1.toNat []).getD (z.1.tdiv wd).toNat 0 + clI (xs.getD z.2.2.1.toNat 0) 1 65536)))
  else M
def rowC (r : List Int) : Array Value := (r.map (Value.int .i64)).toArray

/-- The world between two rounds of the range. -/
structure L2 (s m n : Nat) (W : World) (M : List (List Int)) (A : World) : Prop where
  kp : Kp (KX fun b => b < s + 5 ∨ s + 5 + n ≤ b ∧ b < s + 5 + n + 2) W A
  len : M.length = n
  rows : ∀ i r, M[i]? = some r → r.length = m ∧ A.heap[s + 5 + i]? = some (.cells (rowC r) 2 (0, 0))

theorem L2.world {s m n : Nat} {W A A' : World} {M : List (List Int)} (h : L2 s m n W M A) (hW : s + 5 + n + 2 ≤ W.heap.size) (hk : Kp (KX fun b => b < W.heap.size) A A') : L2 s m n W M A' :=
  ⟨h.kp.trans (hk.mono fun b hb => hb.elim (fun h2 => .inl (by have h3 : b < s + 5 ∨ s + 5 + n ≤ b ∧ b < s + 5 + n + 2 := h2; show b < W.heap.size; omega)) False.elim), h.len, fun i r hi => by
    obtain ⟨h1, h2⟩ := h.rows i r hi
    have h3 := (List.getElem?_eq_some_iff.1 hi).1
    rw [h.len] at h3
    exact ⟨h1, (hk.block _ (.inl (show s + 5 + i < W.heap.size by omega))).trans h2⟩⟩

theorem L2.store {s m n f : Nat} {W A : World} {M : List (List Int)} (h : L2 s m n W M A) (hf : f < n) {rr : List Int} (hrr : M[f]? = some rr) (kk : Nat) (v : Int) :
    L2 s m n W (M.set f (rr.set kk v)) (A.drew.setCell ⟨s + 5 + f, kk, none⟩ (.int .i64 v)) ∧ Kp (KX fun b => b ≠ s + 5 + f) A (A.drew.setCell ⟨s + 5 + f, kk, none⟩ (.int .i64 v)) := by
  have hk : Kp (KX fun b => b ≠ s + 5 + f) A (A.drew.setCell ⟨s + 5 + f, kk, none⟩ (.int .i64 v)) :=
    ⟨rfl, rfl, rfl, by rw [World.size_setCell]; exact Nat.le_refl _, fun b hb => hb.elim (fun h => set_other (A := A.drew) rfl h) False.elim⟩
  refine ⟨⟨h.kp.trans (hk.mono fun b hb => hb.elim (fun h2 => .inl (by have h3 : b < s + 5 ∨ s + 5 + n ≤ b ∧ b < s + 5 + n + 2 := h2; show b ≠ s + 5 + f; omega)) False.elim), by rw [List.length_set]; exact h.len, fun i r hi => ?_⟩, hk⟩
  obtain ⟨h1, h2⟩ := h.rows f rr hrr
  rw [List.getElem?_set] at hi
  split at hi
  · rename_i e
    subst e
    split at hi
    · cases hi
      refine ⟨by rw [List.length_set]; exact h1, ?_⟩
      have := set_same (A := A.drew) (b := s + 5 + f) (j := kk) (v := .int .i64 v) h2
      rw [this, rowC, List.map_set]
    · cases hi
  · rename_i e
    obtain ⟨h3, h4⟩ := h.rows i r hi
    exact ⟨h3, set_other h4 (by omega)⟩

set_option maxRecDepth 100000 in
set_option maxHeartbeats 4000000 in
theorem size_calls (b off n cap f : Nat) (v : Int) (hf : f < n) (w : World) (hc : w.cell? ⟨b, off + f, none⟩ = some (.int .i64 v)) :
    Calls Try.prog 10 #[.slice (some ⟨b, off, none⟩) n cap, .int .i64 (f : Int)] w fun e w' => e = .returned (.int .i64 (clI v 1 65536)) ∧ w' = w := by
  go_enter Try.func10, Try.ntmps10
  go_wp2_with (go_at_call 8; refine (clamp_calls _ _ _ _).mono ?_; rintro e w1 ⟨rfl, rfl⟩)
  go_ret
  exact ⟨rfl, rfl⟩

theorem wrap_small {q : Int} (hq : q ≤ 9223372036854775807) (kk : Nat) (h : (kk : Int) ≤ q) : wrap64 (kk : Int) = kk := by
  have g6 : (0 : Int) ≤ kk := Int.natCast_nonneg kk
  simp only [wrap64]
  omega
theorem metOf_in {zs : List (Row sh6)} {n : Int} {j : Nat} {q : Row sh6} (h : (metOf zs n)[j]? = some q) : ∃ i : Nat, zs[i]? = some q := by
  have h1 := List.mem_of_getElem? h
  simp only [metOf, List.mem_filter] at h1
  exact List.getElem?_of_mem h1.1
theorem metOf_mem {zs : List (Row sh6)} {n : Int} {j : Nat} {q : Row sh6} (h : (metOf zs n)[j]? = some q) : 0 ≤ q.2.2.1 ∧ q.2.2.1 < n := by
  have h1 := List.mem_of_getElem? h
  simp only [metOf, List.mem_filter, metP, Bool.and_eq_true, decide_eq_true_eq] at h1
  exact h1.2.2

theorem fin_world (w : World) (o1 : Obj) (a : Int) {b u v : Int} (h1 : b = a) (h2 : u = v) : (((w.alloc o1).alloc (.cells #[.int .i64 a] 2)).alloc (.cells #[.int .i64 u] 3)).drew = (((w.alloc o1).alloc (.cells #[.int .i64 b] 2)).alloc (.cells #[.int .i64 v] 3)).drew := by
  rw [h1, h2]
set_option maxRecDepth 100000 in
set_option maxHeartbeats 40000000 in
theorem series_walk (la ma : Option Addr) (lc mc : Nat) (xs : List Int) (zs : List (Row sh6)) (n : Nat) (hxl : xs.length = n) (hn : n ≤ 1000) (hzl : zs.length ≤ 1000000000) (width many : Int) (w : World)
    (hz : ∀ k z, zs[k]? = some z → ∃ b off, la = some ⟨b, off, none⟩ ∧ b < w.heap.size ∧ w.cell? ⟨b, off + k * 6, none⟩ = some (.int .i64 z.1) ∧ w.cell? ⟨b, off + k * 6 + 1, none⟩ = some (.int .i64 z.2.1) ∧ w.cell? ⟨b, off + k * 6 + 2, none⟩ = some (.int .i64 z.2.2.1) ∧ w.cell? ⟨b, off + k * 6 + 3, none⟩ = some (.int .i64 z.2.2.2.1) ∧ w.cell? ⟨b, off + k * 6 + 4, none⟩ = some (.int .i64 z.2.2.2.2.1) ∧ w.cell? ⟨b, off + k * 6 + 5, none⟩ = some (.int .i64 z.2.2.2.2.2))
    (hzr : ∀ (k : Nat) (z : Row sh6), zs[k]? = some z → z.1 ≤ 9223372036854775807)
    (hx : ∀ i v, xs[i]? = some v → ∃ b off, ma = some ⟨b, off, none⟩ ∧ b < w.heap.size ∧ w.cell? ⟨b, off + i, none⟩ = some (.int .i64 v)) :
    Calls Try.prog 4 #[.slice la zs.length lc, .slice ma n mc, .int .i64 width, .int .i64 many] w fun e w' => ∃ M, M = (metOf zs n).foldl (serStep xs (clI width 1 1099511627776) (mI many)) (List.replicate n (List.replicate (mI many) 0)) ∧ e = .returned (.slice (some ⟨w.heap.size + 3, 0, none⟩) n n) ∧ M.length = n ∧
      w'.heap[w.heap.size + 3]? = some (.cells (outC w.heap.size (mI many) n n).toArray 23 (0, 0)) ∧ (∀ i r, M[i]? = some r → r.length = mI many ∧ w'.heap[w.heap.size + 5 + i]? = some (.cells (rowC r) 2 (0, 0))) ∧ Below w.heap.size w w' := by
  have hm : mI many ≤ 1000 := by simp only [mI]; omega
  obtain ⟨m, em⟩ : ∃ m, m = mI many := ⟨_, rfl⟩
  obtain ⟨wd, ewd⟩ : ∃ wd, wd = clI width 1 1099511627776 := ⟨_, rfl⟩
  have hwd : 1 ≤ wd := by rw [ewd]; simp only [clI]; omega
  rw [← em, ← ewd]
  rw [← em] at hm
  have k25 := mk25 n hn
  have k23 := mk23 m hm
  refine (callsIn_wide (n := 0)).1 (callsIn_of_wp_marks (F := Fc none) Try.func4 rfl trivial (Fc_of_wp ?_) rfl)
  simp only [Try.ntmps4, List.size_toArray, List.length_cons, List.length_nil, Nat.reduceAdd, Nat.reduceSub, Array.replicate_succ, Array.replicate_zero, List.push_toArray, List.append_toArray, List.nil_append, List.cons_append]
  go_wp2
  go_cut [] from 13 to 17 (fun wx => wx = (((w.alloc (.cells #[.slice ma n mc] 23)).alloc (.cells #[.int .i64 wd] 2)).alloc (.cells #[.int .i64 (m : Int)] 3)).drew)
  case first =>
    clear hz hx hzr k25 k23 hxl hn hzl
    rcases (by omega : many ≤ 0 ∨ (0 < many ∧ many ≤ 1000) ∨ 1000 < many) with hc | ⟨hc, hd⟩ | hc
    · go_region_with (go_at_call 8; refine (clamp_calls _ _ _ _).mono ?_; rintro e w1 ⟨rfl, rfl⟩)
      all_goals (go_wp2_with fail; go_meet)
      all_goals exact fin_world w _ _ ewd (by rw [em]; simp only [mI]; omega)
    · go_region_with (go_at_call 8; refine (clamp_calls _ _ _ _).mono ?_; rintro e w1 ⟨rfl, rfl⟩)
      all_goals (go_wp2_with fail; go_meet)
      all_goals exact fin_world w _ _ ewd (by rw [em]; simp only [mI]; omega)
    · go_region_with (go_at_call 8; refine (clamp_calls _ _ _ _).mono ?_; rintro e w1 ⟨rfl, rfl⟩)
      all_goals (go_wp2_with fail; go_meet)
      all_goals exact fin_world w _ _ ewd (by rw [em]; simp only [mI]; omega)
  case rest =>
    obtain rfl := hcut
    clear em ewd
    go_wp2
    go_loopw [23] (fun i wr => ∃ k : Nat, k ≤ n ∧ i = .int .i64 k ∧ L1 w ma n mc wd m k wr) (fun i _ => n - (intOf i).toNat)
    case atStart => exact ⟨0, Nat.zero_le _, rfl, L1.start w ma n mc _ m⟩
    case round =>
      obtain ⟨k, hk, rfl, hL⟩ := hrel
      by_cases hlt : k < n
      · have c1 : wr.cell? ⟨w.heap.size + 4, 0, none⟩ = some (.slice (some ⟨w.heap.size + 3, 0, none⟩) n n) := by rw [cell_of_heap hL.var]; rfl
        have c2 : wr.cell? ⟨w.heap.size + 2, 0, none⟩ = some (.int .i64 (m : Int)) := by rw [cell_of_heap hL.man]; rfl
        have c3 : wr.cell? ⟨w.heap.size + 3, k, none⟩ = some (.slice none 0 0) := by rw [cell_of_heap hL.out]; exact outC_at _ _ _ _ hlt
        have c4 : wr.frozen? ⟨w.heap.size + 3, k, none⟩ = false := frozen_of_heap hL.out _
        have d1 : ∀ o : Obj, (wr.alloc o).cell? ⟨w.heap.size + 4, 0, none⟩ = some (.slice (some ⟨w.heap.size + 3, 0, none⟩) n n) := fun o => by rw [cell_of_heap (at_old hL.var)]; rfl
        have d2 : ∀ o : Obj, (wr.alloc o).cell? ⟨w.heap.size + 2, 0, none⟩ = some (.int .i64 (m : Int)) := fun o => by rw [cell_of_heap (at_old hL.man)]; rfl
        have d3 : ∀ o : Obj, (wr.alloc o).cell? ⟨w.heap.size + 3, k, none⟩ = some (.slice none 0 0) := fun o => by rw [cell_of_heap (at_old hL.out)]; exact outC_at _ _ _ _ hlt
        have d4 : ∀ o : Obj, (wr.alloc o).frozen? ⟨w.heap.size + 3, k, none⟩ = false := fun o => frozen_of_heap (at_old hL.out) _
        go_wp2
        go_region
        go_wp2
        have hs := hL.step hlt
        exact ⟨⟨k + 1, hlt, rfl, hs⟩, by simp [intOf]; omega⟩
      · obtain rfl : k = n := by omega
        have c5 : wr.cell? ⟨w.heap.size, 0, none⟩ = some (.slice ma k mc) := by rw [cell_of_heap hL.mss]; rfl
        go_wp2
        obtain ⟨W, hW⟩ : ∃ W, W = ((wr.alloc (.cells #[.slice la zs.length lc] 22)).alloc (.cells #[.int .i64 (k : Int)] 3)) := ⟨_, rfl⟩
        have hs2 : W.heap.size = w.heap.size + 5 + k + 2 := by rw [hW, World.size_alloc, World.size_alloc, hL.size]
        have hKW : ∀ b, b < wr.heap.size → W.heap[b]? = wr.heap[b]? := fun b hb => by
          rw [hW, Below.heap_alloc _ _ b (by rw [World.size_alloc]; omega), Below.heap_alloc _ _ b hb]
        have hba : W.heap[w.heap.size + 5 + k]? = some (.cells #[.slice la zs.length lc] 22 (0, 0)) := by
          rw [hW]; exact at_old (at_new hL.size.symm)
        have hbb : W.heap[w.heap.size + 5 + k + 1]? = some (.cells #[.int .i64 (k : Int)] 3 (0, 0)) := by
          rw [hW]; exact at_new (by rw [World.size_alloc, hL.size])
        have hWk : Kp (Old wr) wr W := by
          rw [hW]
          exact (below_alloc wr _).trans ((below_alloc _ _).mono fun b hb => Old.all_iff.2 (by have := Old.all_iff.1 hb; rw [World.size_alloc]; omega))
        have hWw : Kp (Old w) w W := (Kp.of_below hL.below).trans (hWk.mono fun b hb => Old.all_iff.2 (by have := Old.all_iff.1 hb; rw [hL.size]; omega))
        have lss : ∀ {b o}, wr.heap[b]? = some o → W.heap[b]? = some o := fun h => (hKW _ (lt_of_heap h)).trans h
        have hL2 : L2 w.heap.size m k W (List.replicate k (List.replicate m 0)) W := ⟨Kp.refl _ _, by simp, fun i r hi => by
          rw [List.getElem?_replicate] at hi
          split at hi
          · cases hi
            exact ⟨by simp, by rw [lss (hL.rows i (by assumption))]; simp [rowC, zeros]⟩
          · cases hi⟩
        have e5 : w.heap.size + 5 + k = wr.heap.size := hL.size.symm
        rw [← hW]
        refine wp_range (gf := 14) (cv := #[.pointer (some ⟨w.heap.size + 5 + k, 0, none⟩), .pointer (some ⟨w.heap.size + 5 + k + 1, 0, none⟩)]) (by simp [Act.eval, e5]) Try.func14 rfl (by decide)
          (KX fun b => b < w.heap.size ∨ w.heap.size + 5 + k ≤ b ∧ b < w.heap.size + 5 + k + 2) (fun b hb => by have h2 : b < w.heap.size ∨ w.heap.size + 5 + k ≤ b ∧ b < w.heap.size + 5 + k + 2 := hb; omega)
          (items := (metOf zs k).map fun z => (Row.vals sh6 z).toArray) ?_
          (fun j A => L2 w.heap.size m k W (((metOf zs k).take j).foldl (serStep xs wd m) (List.replicate k (List.replicate m 0))) A) hL2 ?_ ?_ ?_
        · exact fun l J V0 => of1_hit hzl _ W (fun j z hj => by
            obtain ⟨b, off, h1, h2, h3⟩ := hz j z hj
            refine ⟨b, off, h1, .inl h2, ?_⟩
            simp only [World.cell?_of_block (a := ⟨b, _, none⟩) (hWw.block b (Old.all_iff.2 h2))]
            exact h3) (Or.inr ⟨by omega, by omega⟩) (Or.inr ⟨by omega, by omega⟩) (by rw [cell_of_heap hba]; rfl) (by rw [cell_of_heap hbb]; rfl) (fun b hb => by have h2 : b < w.heap.size ∨ w.heap.size + 5 + k ≤ b ∧ b < w.heap.size + 5 + k + 2 := hb; omega) l J V0
        · exact fun j A A' h hk => h.world (by omega) hk
        · intro j z A hj hI hA
          rw [List.getElem?_map] at hj
          obtain ⟨q, hq, rfl⟩ := Option.map_eq_some_iff.1 hj
          clear hj
          have hin := metOf_mem hq
          have hwk : ∀ kk : Nat, (kk : Int) ≤ q.1 → wrap64 (kk : Int) = kk := by
            obtain ⟨i, hi⟩ := metOf_in hq
            exact wrap_small (hzr i q hi)
          obtain ⟨(q0 : Int), (q1 : Int), (q2 : Int), (q3 : Int), (q4 : Int), (q5 : Int)⟩ := q
          dsimp only at hin hwk
          obtain ⟨f, rfl⟩ := Int.eq_ofNat_of_zero_le hin.1
          have hf : f < k := Int.ofNat_lt.1 hin.2
          clear hin
          obtain ⟨M, hM⟩ : ∃ M, M = ((metOf zs k).take j).foldl (serStep xs wd m) (List.replicate k (List.replicate m 0)) := ⟨_, rfl⟩
          have hM1 : ((metOf zs k).take (j + 1)).foldl (serStep xs wd m) (List.replicate k (List.replicate m 0)) = serStep xs wd m M (q0, q1, (f : Int), q3, q4, q5) := by
            rw [List.take_add_one, hq, List.foldl_append, ← hM]; rfl
          rw [← hM] at hI
          rw [hM1]
          have hv : (Row.vals sh6 (q0, q1, (f : Int), q3, q4, q5)).toArray = #[.int .i64 q0, .int .i64 q1, .int .i64 (f : Int), .int .i64 q3, .int .i64 q4, .int .i64 q5] := rfl
          rw [hv]
          obtain ⟨T, hT⟩ : ∃ T, T = W.heap.size + 1 := ⟨_, rfl⟩
          have kA : ∀ {b : Nat} {o : Obj}, b < w.heap.size + 5 → W.heap[b]? = some o → A.heap[b]? = some o := fun h1 h2 => (hI.kp.block _ (.inl (.inl h1))).trans h2
          have a0 := kA (by omega) (lss hL.mss)
          have a1 := kA (by omega) (lss hL.wid)
          have a2 := kA (by omega) (lss hL.man)
          have a3 := kA (by omega) (lss hL.out)
          have a4 := kA (by omega) (lss hL.var)
          have hxf : ∃ v b off, xs[f]? = some v ∧ ma = some ⟨b, off, none⟩ ∧ b < w.heap.size ∧ A.cell? ⟨b, off + f, none⟩ = some (.int .i64 v) := by
            have hxv : f < xs.length := by omega
            obtain ⟨b, off, h1, h2, h3⟩ := hx f _ (List.getElem?_eq_getElem hxv)
            exact ⟨_, b, off, List.getElem?_eq_getElem hxv, h1, h2, (World.cell?_of_block ((hI.kp.block _ (.inl (.inl (by show b < _; omega)))).trans (hWw.block _ (Old.all_iff.2 h2)))).trans h3⟩
          rw [← hT]
          have hTA : T < A.heap.size := by omega
          have hTb : w.heap.size + 5 + k + 2 < T := by omega
          clear k23 k25 hzr hz hx hq hzl hxl hn hT hM hM1 hW hba hbb hWk hWw lss hL2 hKW e5 c5 hL hv kA hA
          simp only [List.setIfInBounds_toArray, List.set_cons_succ, List.set_cons_zero, Array.getD_eq_getD_getElem?, List.getElem?_toArray, List.getElem?_cons_succ, List.getElem?_cons_zero, Option.getD_some]
          gi_wp2
          refine ⟨below_alloc _ _, fun r => ?_⟩
          obtain ⟨o, ho⟩ : ∃ o, o = Obj.cells #[.int .i64 q0, .int .i64 q1, .int .i64 (f : Int), .int .i64 q3, .int .i64 q4, .int .i64 q5] 37 := ⟨_, rfl⟩
          obtain ⟨w2, hw2⟩ : ∃ w2, w2 = (A.alloc o).putObj T r := ⟨_, rfl⟩
          have hk2 : Kp (KX fun b => b ≠ T) (A.alloc o) w2 := by rw [hw2]; exact Kp.putObj _ fun h => h.elim (fun h => h rfl) False.elim
          have hk3 : Kp (KX fun b => b ≠ T ∧ b < A.heap.size) A w2 := ((below_alloc A o).mono fun b hb => hb.elim (fun h => .inl (show b < A.heap.size from And.right h)) False.elim).trans (hk2.mono fun b hb => hb.elim (fun h => .inl (show b ≠ T from And.left h)) False.elim)
          have hWA : W.heap.size ≤ A.heap.size := hI.kp.size
          have hIw : L2 w.heap.size m k W M w2 := hI.world (by omega) (hk3.mono fun b hb => hb.elim (fun h => .inl ⟨by have h4 : b < W.heap.size := h; omega, by have h4 : b < W.heap.size := h; omega⟩) False.elim)
          have en : w2.heap[A.heap.size]? = some (.cells #[.int .i64 q0, .int .i64 q1, .int .i64 (f : Int), .int .i64 q3, .int .i64 q4, .int .i64 q5] 37 (0, 0)) := by
            rw [hk2.block _ (.inl (show A.heap.size ≠ T by omega)), ho]; exact at_new rfl
          have kB : ∀ {b : Nat} {x : Obj}, b < w.heap.size + 5 → A.heap[b]? = some x → w2.heap[b]? = some x := fun h1 h2 => (hk3.block _ (.inl ⟨by omega, by omega⟩)).trans h2
          have e0 : w2.cell? ⟨A.heap.size, 0, none⟩ = some (.int .i64 q0) := by rw [cell_of_heap en]; rfl
          have e1 : w2.cell? ⟨A.heap.size, 1, none⟩ = some (.int .i64 q1) := by rw [cell_of_heap en]; rfl
          have e2 : w2.cell? ⟨A.heap.size, 2, none⟩ = some (.int .i64 (f : Int)) := by rw [cell_of_heap en]; rfl
          have c0 : w2.cell? ⟨w.heap.size, 0, none⟩ = some (.slice ma k mc) := by rw [cell_of_heap (kB (by omega) a0)]; rfl
          have c1 : w2.cell? ⟨w.heap.size + 1, 0, none⟩ = some (.int .i64 wd) := by rw [cell_of_heap (kB (by omega) a1)]; rfl
          have c2 : w2.cell? ⟨w.heap.size + 2, 0, none⟩ = some (.int .i64 (m : Int)) := by rw [cell_of_heap (kB (by omega) a2)]; rfl
          have c3 : w2.cell? ⟨w.heap.size + 3, f, none⟩ = some (rowOf (w.heap.size + 5 + f) m) := by rw [cell_of_heap (kB (by omega) a3)]; exact outC_full _ _ _ _ hf
          have c4 : w2.cell? ⟨w.heap.size + 4, 0, none⟩ = some (.slice (some ⟨w.heap.size + 3, 0, none⟩) k k) := by rw [cell_of_heap (kB (by omega) a4)]; rfl
          obtain ⟨v, bx, ox, hxv, rfl, hbx, hxc⟩ := hxf
          have c6 : w2.cell? ⟨bx, ox + f, none⟩ = some (.int .i64 v) := (World.cell?_of_block (hk3.block _ (.inl ⟨by show bx ≠ T; omega, by show bx < A.heap.size; omega⟩))).trans hxc
          rw [← ho, ← hw2]
          obtain ⟨R, hR⟩ : ∃ R : World → Prop, R = fun w3 => L2 w.heap.size m k W (serStep xs wd m M (q0, q1, (f : Int), q3, q4, q5)) w3 ∧ Kp (KX fun b => (b < w.heap.size ∨ w.heap.size + 5 + k ≤ b ∧ b < w.heap.size + 5 + k + 2) ∨ W.heap.size ≤ b ∧ b < W.heap.size + 2) w2 w3 := ⟨_, rfl⟩
          rw [show (Exit.then (fun x w3 => L2 w.heap.size m k W (serStep xs wd m M (q0, q1, (f : Int), q3, q4, q5)) w3 ∧ Kp (KX fun b => (b < w.heap.size ∨ w.heap.size + 5 + k ≤ b ∧ b < w.heap.size + 5 + k + 2) ∨ W.heap.size ≤ b ∧ b < W.heap.size + 2) w2 w3) (fun _ _ _ => False) : Exit → Act → World → Prop) = Exit.then (fun _ w3 => R w3) (fun _ _ _ => False) by rw [hR]]
          have fin0 : ¬ (q1 = 3 ∧ 0 ≤ q0 ∧ q0.tdiv wd < m) → R w2 := fun h => by
            rw [hR]
            refine ⟨?_, Kp.refl _ _⟩
            rw [serStep, if_neg h]
            exact hIw
          have fin1 : ∀ kk : Nat, q1 = 3 → 0 ≤ q0 → q0.tdiv wd = (kk : Int) → kk < m → ∃ u, w2.cell? ⟨w.heap.size + 5 + f, kk, none⟩ = some (.int .i64 u) ∧ w2.frozen? ⟨w.heap.size + 5 + f, kk, none⟩ = false ∧ R ((w2.drew).setCell ⟨w.heap.size + 5 + f, kk, none⟩ (.int .i64 (wrap64 (u + clI v 1 65536)))) := fun kk h1 h2 h3 h4 => by
            have hfM : f < M.length := by rw [hIw.len]; exact hf
            obtain ⟨rr, hrr⟩ : ∃ rr, M[f]? = some rr := ⟨_, List.getElem?_eq_getElem hfM⟩
            obtain ⟨hrl, hrh⟩ := hIw.rows f rr hrr
            obtain ⟨g1, g2⟩ := hIw.store hf hrr kk (wrap64 (rr.getD kk 0 + clI v 1 65536))
            refine ⟨rr.getD kk 0, ?_, frozen_of_heap hrh _, ?_⟩
            · rw [cell_of_heap hrh, rowC, List.getElem?_toArray, List.getElem?_map, List.getD_eq_getElem?_getD, List.getElem?_eq_getElem (by omega)]; rfl
            · rw [hR]
              refine ⟨?_, g2.mono fun b hb => hb.elim (fun h => .inl (show b ≠ w.heap.size + 5 + f from ?_)) False.elim⟩
              · rw [serStep, if_pos ⟨h1, h2, (by rw [h3]; exact Int.ofNat_lt.2 h4)⟩]
                dsimp only
                rw [h3, Int.toNat_natCast, Int.toNat_natCast, List.getD_eq_getElem?_getD (l := M), hrr, List.getD_eq_getElem?_getD (l := xs), hxv]
                exact g1
              · have h5 : (b < w.heap.size ∨ w.heap.size + 5 + k ≤ b ∧ b < w.heap.size + 5 + k + 2) ∨ W.heap.size ≤ b ∧ b < W.heap.size + 2 := h
                omega
          clear hI hIw hk2 hk3 en kB a0 a1 a2 a3 a4 hxc hw2 ho hR hs2 hWA hTA hTb
          by_cases g1 : q1 = 3
          · subst g1
            by_cases g2 : 0 ≤ q0
            · have g4 : 0 ≤ q0.tdiv wd := Int.tdiv_nonneg g2 (by omega)
              obtain ⟨kk, ekk⟩ := Int.eq_ofNat_of_zero_le g4
              have hkk : wrap64 (kk : Int) = kk := by
                have g5 : q0.tdiv wd ≤ q0 := Int.tdiv_le_self _ g2
                rw [ekk] at g5
                exact hwk kk g5
              clear g4 hwk
              by_cases g3 : kk < m
              · obtain ⟨u, f1, f2, f3⟩ := fin1 kk rfl g2 ekk g3
                clear fin0 fin1
                gi_wp2
                refine wpIn_still_tail 14 (by kernel_rfl) (by kernel_rfl) (by kernel_rfl) ?_
                obtain ⟨w5, hw5⟩ : ∃ w5, w5 = w2.drew := ⟨_, rfl⟩
                have e2 : w5.cell? ⟨A.heap.size, 2, none⟩ = some (.int .i64 (f : Int)) := by rw [hw5]; exact e2
                have c0 : w5.cell? ⟨w.heap.size, 0, none⟩ = some (.slice (some ⟨bx, ox, none⟩) k mc) := by rw [hw5]; exact c0
                have c3 : w5.cell? ⟨w.heap.size + 3, f, none⟩ = some (.slice (some ⟨w.heap.size + 5 + f, 0, none⟩) m m) := by rw [hw5]; exact c3
                have c4 : w5.cell? ⟨w.heap.size + 4, 0, none⟩ = some (.slice (some ⟨w.heap.size + 3, 0, none⟩) k k) := by rw [hw5]; exact c4
                have c6 : w5.cell? ⟨bx, ox + f, none⟩ = some (.int .i64 v) := by rw [hw5]; exact c6
                have f1 : w5.cell? ⟨w.heap.size + 5 + f, kk, none⟩ = some (.int .i64 u) := by rw [hw5]; exact f1
                have f2 : w5.frozen? ⟨w.heap.size + 5 + f, kk, none⟩ = false := by rw [hw5]; exact f2
                have hcall := size_calls bx ox k mc f v hf w5 c6
                rw [← hw5] at f3 ⊢
                clear hw5 ekk
                simp only [List.take_succ_cons, List.take_zero, List.drop_succ_cons, List.drop_zero]
                repeat still_step
                still_call hcall
                repeat still_step
                refine wpStill_nil ?_
                go_wp2
                exact ⟨fun e => (by cases e), f3⟩
              · have f0 := fin0 fun h => g3 (by have h2 := h.2.2; rw [ekk] at h2; exact Int.ofNat_lt.1 h2)
                clear fin0 fin1
                gi_wp2
                exact f0
            · have f0 := fin0 fun h => g2 h.2.1
              clear fin0 fin1
              gi_wp2
              exact f0
          · have f0 := fin0 fun h => g1 h.1
            clear fin0 fin1
            gi_wp2
            exact f0
        · intro W3 hI hd
          have hvar : W3.cell? ⟨w.heap.size + 4, 0, none⟩ = some (.slice (some ⟨w.heap.size + 3, 0, none⟩) k k) := by
            rw [cell_of_heap ((hI.kp.block _ (.inl (.inl (by omega)))).trans (lss hL.var))]; rfl
          go_wp2
          refine leaves_one hd fun w' hk => ⟨.slice (some ⟨w.heap.size + 3, 0, none⟩) k k, (by simp [results, Try.f4, go_sem]), ?_⟩
          have kW : ∀ {b : Nat} {x : Obj}, b < w.heap.size + 5 + k → W3.heap[b]? = some x → w'.heap[b]? = some x := fun h1 h2 => (hk.block _ (.inl (show _ ≠ W.heap.size by omega))).trans h2
          rw [List.length_map, List.take_length] at hI
          refine ⟨_, rfl, rfl, hI.len, kW (by omega) ((hI.kp.block _ (.inl (.inl (by omega)))).trans (lss hL.out)), fun i r hi => ?_, ?_⟩
          · obtain ⟨h1, h2⟩ := hI.rows i r hi
            have h3 := (List.getElem?_eq_some_iff.1 hi).1
            rw [hI.len] at h3
            exact ⟨h1, kW (by omega) h2⟩
          · refine Kp.below ((hWw.trans (hI.kp.mono fun b hb => .inl (.inl ?_))).trans (hk.mono fun b hb => .inl (show b ≠ W.heap.size from ?_)))
            · have := Old.all_iff.1 hb; omega
            · have := Old.all_iff.1 hb; omega
end Go.Proofs.Ythgingjebobhaaa
