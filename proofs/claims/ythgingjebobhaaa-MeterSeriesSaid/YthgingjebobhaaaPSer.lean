import Derived.Test.YthgingjebobhaaaPRng
import Derived.RegionTactic
import Derived.RegionCalls
import Derived.Deep.RegionWith
import Derived.Deep.CutBlock
import Derived.Deep.CutRange
import Derived.ChangeAlike
namespace Go.Proofs.Ythgingjebobhaaa
open Go.RowKit Go.Shelf Go.Ev
def clI (a lo hi : Int) : Int := max (min a hi) lo
def mI (many : Int) : Nat := (max 0 (min many 1000)).toNat

def rowOf (b m : Nat) : Value := .slice (some ⟨b, 0, none⟩) m m
def outC (s m n k : Nat) : List Value := (List.range k).map (fun i => rowOf (s + 5 + i) m) ++ List.replicate (n - k) (.slice none 0 0)
def zeros (m : Nat) : List Value := List.replicate m (.int .i64 0)
theorem mk25 (n : Nat) (hn : n ≤ 1000) (w : World) : (Instr.makeSlice 25 (.int .i64 (n : Int)) (.int .i64 (n : Int))).run Try.prog w = .ok (.slice (some ⟨w.heap.size, 0, none⟩) n n) (w.alloc (.cells (List.replicate n (.slice none 0 0)).toArray 23)) := by
  obtain ⟨i, hi⟩ : ∃ i, Try.prog.info? 23 = some i := ⟨_, rfl⟩
  have hz : i.zero = some (.slice none 0 0) := by have e : Try.prog.info? 23 = some _ := rfl; rw [hi] at e; cases e; rfl
  have hs : i.size = 1 := by have e : Try.prog.info? 23 = some _ := rfl; rw [hi] at e; cases e; rfl
  have hb : i.bytes = 24 := by have e : Try.prog.info? 23 = some _ := rfl; rw [hi] at e; cases e; rfl
  rw [run_makeSlice w 25 23 i _ (by kernel_rfl) hi hz .i64 .i64 n n (by omega) (Int.le_refl _) (by rw [hs]; simp; omega) (by rw [hb]; omega) (by omega)]
  have e : (madeCells (Value.slice none 0 0).cells (((n : Nat) : Int).toNat * i.size)) = (List.replicate n (.slice none 0 0)).toArray := by
    apply Array.ext'
    rw [hs, Int.toNat_natCast, Nat.mul_one]
    exact toList_madeCells_one _ n
  rw [e]
  rfl
theorem mk23 (n : Nat) (hn : n ≤ 1000) (w : World) : (Instr.makeSlice 23 (.int .i64 (n : Int)) (.int .i64 (n : Int))).run Try.prog w = .ok (.slice (some ⟨w.heap.size, 0, none⟩) n n) (w.alloc (.cells (zeros n).toArray 2)) := by
  obtain ⟨i, hi⟩ : ∃ i, Try.prog.info? 2 = some i := ⟨_, rfl⟩
  have hz : i.zero = some (.int .i64 0) := by have e : Try.prog.info? 2 = some _ := rfl; rw [hi] at e; cases e; rfl
  have hs : i.size = 1 := by have e : Try.prog.info? 2 = some _ := rfl; rw [hi] at e; cases e; rfl
  have hb : i.bytes = 8 := by have e : Try.prog.info? 2 = some _ := rfl; rw [hi] at e; cases e; rfl
  rw [run_makeSlice w 23 2 i _ (by kernel_rfl) hi hz .i64 .i64 n n (by omega) (Int.le_refl _) (by rw [hs]; simp; omega) (by rw [hb]; omega) (by omega)]
  have e : (madeCells (Value.int .i64 0).cells (((n : Nat) : Int).toNat * i.size)) = (zeros n).toArray := by
    apply Array.ext'
    rw [hs, Int.toNat_natCast, Nat.mul_one]
    exact toList_madeCells_one _ n
  rw [e]
  rfl
set_option maxRecDepth 100000 in
set_option maxHeartbeats 4000000 in
theorem clamp_calls (a lo hi : Int) (w : World) : Calls Try.prog 8 #[.int .i64 a, .int .i64 lo, .int .i64 hi] w fun e w' => e = .returned (.int .i64 (clI a lo hi)) ∧ w' = w := by
  go_enter Try.func8, Try.ntmps8
  go_wp2
  all_goals
    go_ret
    refine ⟨?_, rfl⟩
    rename_i h1
    simp only [Array.getD_eq_getD_getElem?, List.getElem?_toArray, List.getElem?_cons_succ, List.getElem?_cons_zero, Option.getD_some, Ending.returned.injEq, Value.int.injEq, true_and, clI]
    first
      | (rw [if_pos h] at h1; omega)
      | (rw [if_neg (by omega)] at h1; omega)

/-- The world between two rounds of the first loop. -/
structure L1 (w : World) (ma : Option Addr) (n mc : Nat) (wd : Int) (m k : Nat) (A : World) : Prop where
  size : A.heap.size = w.heap.size + 5 + k
  mss : A.heap[w.heap.size]? = some (.cells #[.slice ma n mc] 23 (0, 0))
  wid : A.heap[w.heap.size + 1]? = some (.cells #[.int .i64 wd] 2 (0, 0))
  man : A.heap[w.heap.size + 2]? = some (.cells #[.int .i64 (m : Int)] 3 (0, 0))
  out : A.heap[w.heap.size + 3]? = some (.cells (outC w.heap.size m n k).toArray 23 (0, 0))
  var : A.heap[w.heap.size + 4]? = some (.cells #[.slice (some ⟨w.heap.size + 3, 0, none⟩) n n] 25 (0, 0))
  rows : ∀ i, i < k → A.heap[w.heap.size + 5 + i]? = some (.cells (zeros m).toArray 2 (0, 0))
  below : Below w.heap.size w A

theorem at_new {A : World} {o : Obj} {j : Nat} (h : j = A.heap.size) : (A.alloc o).heap[j]? = some o := by subst h; exact World.alloc_heap_new A o
theorem at_old {A : World} {o x : Obj} {j : Nat} (h : A.heap[j]? = some x) : (A.alloc o).heap[j]? = some x := (Below.heap_alloc A o j (lt_of_heap h)).trans h
theorem L1.start (w : World) (ma : Option Addr) (n mc : Nat) (wd : Int) (m : Nat) : L1 w ma n mc wd m 0 ((((((w.alloc (.cells #[.slice ma n mc] 23)).alloc (.cells #[.int .i64 wd] 2)).alloc (.cells #[.int .i64 (m : Int)] 3)).drew).alloc (.cells (List.replicate n (.slice none 0 0)).toArray 23)).alloc (.cells #[.slice (some ⟨w.heap.size + 3, 0, none⟩) n n] 25)) := by
  obtain ⟨w1, h1⟩ : ∃ w1, w1 = w.alloc (.cells #[.slice ma n mc] 23) := ⟨_, rfl⟩
  obtain ⟨w2, h2⟩ : ∃ w2, w2 = w1.alloc (.cells #[.int .i64 wd] 2) := ⟨_, rfl⟩
  obtain ⟨w3, h3⟩ : ∃ w3, w3 = (w2.alloc (.cells #[.int .i64 (m : Int)] 3)).drew := ⟨_, rfl⟩
  obtain ⟨w4, h4⟩ : ∃ w4, w4 = w3.alloc (.cells (List.replicate n (.slice none 0 0)).toArray 23) := ⟨_, rfl⟩
  obtain ⟨w5, h5⟩ : ∃ w5, w5 = w4.alloc (.cells #[.slice (some ⟨w.heap.size + 3, 0, none⟩) n n] 25) := ⟨_, rfl⟩
  have s1 : w1.heap.size = w.heap.size + 1 := by rw [h1, World.size_alloc]
  have s2 : w2.heap.size = w.heap.size + 2 := by rw [h2, World.size_alloc, s1]
  have s3 : w3.heap.size = w.heap.size + 3 := by rw [h3]; show (w2.alloc _).heap.size = _; rw [World.size_alloc, s2]
  have s4 : w4.heap.size = w.heap.size + 4 := by rw [h4, World.size_alloc, s3]
  have s5 : w5.heap.size = w.heap.size + 5 := by rw [h5, World.size_alloc, s4]
  have b1 := (Below.refl w.heap.size w).alloc (Nat.le_refl _) (.cells #[.slice ma n mc] 23)
  rw [← h1] at b1
  have b2 := b1.alloc b1.size (.cells #[.int .i64 wd] 2)
  rw [← h2] at b2
  have b3 := (b2.alloc b2.size (.cells #[.int .i64 (m : Int)] 3)).drew
  rw [← h3] at b3
  have b4 := b3.alloc b3.size (.cells (List.replicate n (.slice none 0 0)).toArray 23)
  rw [← h4] at b4
  have b5 := b4.alloc b4.size (.cells #[.slice (some ⟨w.heap.size + 3, 0, none⟩) n n] 25)
  rw [← h5] at b5
  have e0 : w1.heap[w.heap.size]? = some (.cells #[.slice ma n mc] 23) := by rw [h1]; exact at_new rfl
  have e1 : w2.heap[w.heap.size + 1]? = some (.cells #[.int .i64 wd] 2) := by rw [h2]; exact at_new s1.symm
  have e2 : w3.heap[w.heap.size + 2]? = some (.cells #[.int .i64 (m : Int)] 3) := by rw [h3]; exact at_new s2.symm
  have e3 : w4.heap[w.heap.size + 3]? = some (.cells (List.replicate n (.slice none 0 0)).toArray 23) := by rw [h4]; exact at_new s3.symm
  have e4 : w5.heap[w.heap.size + 4]? = some (.cells #[.slice (some ⟨w.heap.size + 3, 0, none⟩) n n] 25) := by rw [h5]; exact at_new s4.symm
  have f1 : w2.heap[w.heap.size]? = some (.cells #[.slice ma n mc] 23) := by rw [h2]; exact at_old e0
  have f2 : w3.heap[w.heap.size]? = some (.cells #[.slice ma n mc] 23) := by rw [h3]; exact at_old f1
  have f3 : w4.heap[w.heap.size]? = some (.cells #[.slice ma n mc] 23) := by rw [h4]; exact at_old f2
  have f4 : w5.heap[w.heap.size]? = some (.cells #[.slice ma n mc] 23) := by rw [h5]; exact at_old f3
  have g2 : w3.heap[w.heap.size + 1]? = some (.cells #[.int .i64 wd] 2) := by rw [h3]; exact at_old e1
  have g3 : w4.heap[w.heap.size + 1]? = some (.cells #[.int .i64 wd] 2) := by rw [h4]; exact at_old g2
  have g4 : w5.heap[w.heap.size + 1]? = some (.cells #[.int .i64 wd] 2) := by rw [h5]; exact at_old g3
  have i3 : w4.heap[w.heap.size + 2]? = some (.cells #[.int .i64 (m : Int)] 3) := by rw [h4]; exact at_old e2
  have i4 : w5.heap[w.heap.size + 2]? = some (.cells #[.int .i64 (m : Int)] 3) := by rw [h5]; exact at_old i3
  have j4 : w5.heap[w.heap.size + 3]? = some (.cells (List.replicate n (.slice none 0 0)).toArray 23) := by rw [h5]; exact at_old e3
  rw [← h1, ← h2, ← h3, ← h4, ← h5]
  exact ⟨s5, f4, g4, i4, by rw [j4]; simp [outC], e4, fun i hi => by omega, b5⟩
theorem cell_of_heap {A : World} {b : Nat} {c : Array Value} {T : TypeId} (h : A.heap[b]? = some (.cells c T (0, 0))) (j : Nat) : A.cell? ⟨b, j, none⟩ = c[j]? := by simp [World.cell?, h]
theorem frozen_of_heap {A : World} {b : Nat} {c : Array Value} {T : TypeId} (h : A.heap[b]? = some (.cells c T (0, 0))) (j : Nat) : A.frozen? ⟨b, j, none⟩ = false := by simp [World.frozen?, h]
theorem outC_at (s m n k : Nat) (h : k < n) : (outC s m n k).toArray[k]? = some (.slice none 0 0) := by
  rw [List.getElem?_toArray, outC, List.getElem?_append_right (by simp), List.length_map, List.length_range, Nat.sub_self, List.getElem?_replicate, if_pos (by omega)]
theorem outC_set (s m n k : Nat) (h : k < n) : (outC s m n k).set k (rowOf (s + 5 + k) m) = outC s m n (k + 1) := by
  obtain ⟨j, hj⟩ : ∃ j, n - k = j + 1 := ⟨n - k - 1, by omega⟩
  simp only [outC]
  rw [List.set_append_right _ _ (by simp), List.length_map, List.length_range, Nat.sub_self, hj, List.replicate_succ, List.set_cons_zero, List.range_succ, List.map_append, show n - (k + 1) = j by omega]
  simp

theorem set_same {A : World} {b j : Nat} {c : List Value} {T : TypeId} {v : Value} (h : A.heap[b]? = some (.cells c.toArray T (0, 0))) : (A.setCell ⟨b, j, none⟩ v).heap[b]? = some (.cells (c.set j v).toArray T (0, 0)) := by
  simp [World.setCell, Array.getElem?_modify, h]
theorem set_other {A : World} {b j i : Nat} {v : Value} {x : Option Obj} (h : A.heap[i]? = x) (hne : i ≠ b) : (A.setCell ⟨b, j, none⟩ v).heap[i]? = x := (Below.heap_setCell A _ v i hne).trans h
theorem L1.step {w : World} {ma : Option Addr} {n mc : Nat} {wd : Int} {m k : Nat} {A : World} (h : L1 w ma n mc wd m k A) (hk : k < n) :
    L1 w ma n mc wd m (k + 1) (((A.alloc (.cells (zeros m).toArray 2)).setCell ⟨w.heap.size + 3, k, none⟩ (.slice (some ⟨A.heap.size, 0, none⟩) m m)).drew) := by
  obtain ⟨A1, h1⟩ : ∃ A1, A1 = A.alloc (.cells (zeros m).toArray 2) := ⟨_, rfl⟩
  have s1 : A1.heap.size = w.heap.size + 5 + (k + 1) := by rw [h1, World.size_alloc, h.size]; omega
  have nw : A1.heap[w.heap.size + 5 + k]? = some (.cells (zeros m).toArray 2 (0, 0)) := by rw [h1]; exact at_new h.size.symm
  have hrow : Value.slice (some ⟨A.heap.size, 0, none⟩) m m = rowOf (w.heap.size + 5 + k) m := by rw [h.size]; rfl
  have b1 : Below w.heap.size w A1 := by rw [h1]; exact h.below.alloc h.below.size _
  have o0 := at_old (o := .cells (zeros m).toArray 2) h.mss
  have o1 := at_old (o := .cells (zeros m).toArray 2) h.wid
  have o2 := at_old (o := .cells (zeros m).toArray 2) h.man
  have o3 := at_old (o := .cells (zeros m).toArray 2) h.out
  have o4 := at_old (o := .cells (zeros m).toArray 2) h.var
  have or := fun i hi => at_old (o := .cells (zeros m).toArray 2) (h.rows i hi)
  rw [← h1] at o0 o1 o2 o3 o4 or
  rw [← h1, hrow]
  refine ⟨?_, set_other o0 (by omega), set_other o1 (by omega), set_other o2 (by omega), ?_, set_other o4 (by omega), fun i hi => ?_, ?_⟩
  · show (A1.setCell _ _).heap.size = _
    rw [World.size_setCell, s1]
  · show (A1.setCell _ _).heap[w.heap.size + 3]? = _
    rw [set_same o3, outC_set _ _ _ _ hk]
  · by_cases e : i < k
    · exact set_other (or i e) (by omega)
    · obtain rfl : i = k := by omega
      exact set_other nw (by omega)
  · exact (b1.setCell (by simp) _).drew

theorem of1_hit {ba bb cap : Nat} {n : Int} {la : Option Addr} {zs : List (Row sh6)} (hlen : zs.length ≤ 1000000000) (K : KS) (W : World)
    (hz : ∀ k z, zs[k]? = some z → ∃ b off, la = some ⟨b, off, none⟩ ∧ K.k b ∧ W.cell? ⟨b, off + k * 6, none⟩ = some (.int .i64 z.1) ∧ W.cell? ⟨b, off + k * 6 + 1, none⟩ = some (.int .i64 z.2.1) ∧ W.cell? ⟨b, off + k * 6 + 2, none⟩ = some (.int .i64 z.2.2.1) ∧ W.cell? ⟨b, off + k * 6 + 3, none⟩ = some (.int .i64 z.2.2.2.1) ∧ W.cell? ⟨b, off + k * 6 + 4, none⟩ = some (.int .i64 z.2.2.2.2.1) ∧ W.cell? ⟨b, off + k * 6 + 5, none⟩ = some (.int .i64 z.2.2.2.2.2))
    (hKa : K.k ba) (hKb : K.k bb) (hcb : W.cell? ⟨ba, 0, none⟩ = some (.slice la zs.length cap)) (hcn : W.cell? ⟨bb, 0, none⟩ = some (.int .i64 n)) (hlt : ∀ b, K.k b → b < W.heap.size)
    (l : Nat) (J : Nat → World → Prop) (V0 : World) (hkeep : KeepK K W V0) (hab : ∀ k A B, J k A → Kp (Old A) A B → J k B)
    (hY : ∀ (k : Nat) (x : Array Value) (A : World), ((metOf zs n).map fun z => (Row.vals sh6 z).toArray)[k]? = some x → J k A → YieldAt Fence.wide 3 Try.prog l #[.agg x] A fun e A' => e = .returned (.bool true) ∧ J (k + 1) A' ∧ KeepK K A A') (h0 : J 0 V0) :
    CallsIn Fence.wide 4 Try.prog 14 (#[.func (.yield l) #[] #[]] ++ #[.pointer (some ⟨ba, 0, none⟩), .pointer (some ⟨bb, 0, none⟩)]) V0 fun e V0' => (∃ v, e = .returned v) ∧ J ((metOf zs n).map fun z => (Row.vals sh6 z).toArray).length V0' := by
  have cc : ∀ b j, K.k b → V0.cell? ⟨b, j, none⟩ = W.cell? ⟨b, j, none⟩ := fun b j hb => World.cell?_of_block (hkeep b hb)
  rw [List.length_map]
  cases zs with
  | nil => exact Pure.of1_empty l ba bb la cap J V0 ((cc _ _ hKa).trans hcb) h0
  | cons z0 zt =>
    obtain ⟨b, off, rfl, hb, _⟩ := hz 0 z0 rfl
    refine Pure.of1_in l ba bb b off cap n (z0 :: zt) hlen J K V0 (fun k z hk => ?_) hKb ((cc _ _ hKa).trans hcb) ((cc _ _ hKb).trans hcn) (fun x hx => ?_) hab (fun k x A hx hJ => hY k _ A (by rw [List.getElem?_map, hx]; rfl) hJ) h0
    · obtain ⟨b', off', e, _, h1, h2, h3, h4, h5, h6⟩ := hz k z hk
      cases e
      simp only [cc _ _ hb]
      exact ⟨hb, h1, h2, h3, h4, h5, h6⟩
    · have h2 := hlt x hx
      have h3 := hkeep x hx
      rw [Array.getElem?_eq_getElem h2] at h3
      exact lt_of_heap h3
end Go.Proofs.Ythgingjebobhaaa
