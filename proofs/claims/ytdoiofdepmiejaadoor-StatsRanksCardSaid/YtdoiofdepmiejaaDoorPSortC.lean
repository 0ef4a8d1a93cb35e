/- Numbers in order: the contract of the library's sort. -/
import Derived.Test.YtdoiofdepmiejaaDoorEvR
import Derived.Test.YtdoiofdepmiejaaDoorPSortL
namespace Go.Proofs.YtdoiofdepmiejaaDoor
open Go.Ev Go.RowKit Go.Sort

def insI (x : Int) : List Int → List Int
  | [] => [x]
  | y :: l => bif decide (x ≤ y) then x :: y :: l else y :: insI x l
def isort : List Int → List Int
  | [] => []
  | x :: l => insI x (isort l)
theorem insI_perm (x : Int) : ∀ l : List Int, (insI x l).Perm (x :: l)
  | [] => .refl _
  | y :: l => by
    unfold insI
    cases decide (x ≤ y) with
    | true => exact .refl _
    | false => exact ((insI_perm x l).cons y).trans (.swap x y l)
theorem isort_perm : ∀ l : List Int, (isort l).Perm l
  | [] => .refl _
  | x :: l => (insI_perm x _).trans ((isort_perm l).cons x)
theorem isort_length (l : List Int) : (isort l).length = l.length := (isort_perm l).length_eq
theorem insI_sorted (x : Int) : ∀ l : List Int, l.Pairwise (· ≤ ·) → (insI x l).Pairwise (· ≤ ·)
  | [], _ => by simp [insI]
  | y :: l, h => by
    unfold insI
    have hy := List.pairwise_cons.1 h
    cases hc : decide (x ≤ y) with
    | true =>
      have hxy : x ≤ y := of_decide_eq_true hc
      refine List.pairwise_cons.2 ⟨fun z hz => ?_, h⟩
      simp only [List.mem_cons] at hz
      rcases hz with rfl | hz
      · exact hxy
      · exact Int.le_trans hxy (hy.1 z hz)
    | false =>
      have hxy : ¬ x ≤ y := of_decide_eq_false hc
      refine List.pairwise_cons.2 ⟨fun z hz => ?_, insI_sorted x l hy.2⟩
      have := (insI_perm x l).subset hz
      simp only [List.mem_cons] at this
      rcases this with rfl | hz
      · omega
      · exact hy.1 z hz
theorem isort_sorted : ∀ l : List Int, (isort l).Pairwise (· ≤ ·)
  | [] => .nil
  | x :: l => insI_sorted x _ (isort_sorted l)
theorem eq_of_sorted : ∀ {l m : List Int}, l.Perm m → l.Pairwise (· ≤ ·) → m.Pairwise (· ≤ ·) → l = m
  | [], m, h, _, _ => h.symm.eq_nil.symm ▸ rfl
  | x :: l, [], h, _, _ => h.eq_nil
  | x :: l, y :: m, h, h1, h2 => by
    have a := List.pairwise_cons.1 h1
    have b := List.pairwise_cons.1 h2
    have hxy : x = y := by
      have e1 : x ∈ y :: m := h.subset (by simp)
      have e2 : y ∈ x :: l := h.symm.subset (by simp)
      simp only [List.mem_cons] at e1 e2
      rcases e1 with e1 | e1
      · exact e1
      · rcases e2 with e2 | e2
        · exact e2.symm
        · have := a.1 y e2; have := b.1 x e1; omega
    subst hxy
    rw [eq_of_sorted (List.perm_cons x |>.1 h) a.2 b.2]
theorem isort_eq (l : List Int) : l.mergeSort (fun x y => decide (x ≤ y)) = isort l := by
  refine eq_of_sorted ((List.mergeSort_perm l _).trans (isort_perm l).symm) ?_ (isort_sorted l)
  have := List.pairwise_mergeSort (le := fun x y : Int => decide (x ≤ y)) (fun a b c h1 h2 => by simp only [decide_eq_true_eq] at *; omega) (fun a b => by simp only [Bool.or_eq_true, decide_eq_true_eq]; omega) l
  exact this.imp fun h => of_decide_eq_true h

abbrev sh1 : List SK := [.int .i64]
theorem flat1 (xs : List Int) : flat sh1 xs = xs.map (Value.int .i64) := by
  induction xs with
  | nil => rfl
  | cons x l ih => rw [flat_cons, ih]; rfl

def sortT (_N : Nat) (x : Unit × (List Int × Unit)) : Option (Unit × (List Int × Unit)) := if 0 < x.2.1.length ∧ x.2.1.length ≤ 4000 then some ((), isort x.2.1, ()) else none
def sortC : FC where
  T := Unit × (List Int × Unit)
  R := Unit × (List Int × Unit)
  eff := true
  dec := fun az h =>
    match az with
    | [.sl k] =>
      (match h[k]? with
      | some (.rows e sh xs) => if hs : e = 2 ∧ sh = [.int .i64] then some (((), (hs.2 ▸ xs : List (Row [.int .i64])), ()), [k]) else none
      | _ => none)
    | _ => none
  run := sortT
  enc := fun _ _ _ => .tup []
  nb := fun _ _ _ => []
  up := fun ks _ r => [(ks.headD 0, .rows 2 [.int .i64] r.2.1)]
theorem sortC_dec {az : List AV} {h : List AB} {t : Unit × (List Int × Unit)} {ks : List Nat} (hd : sortC.dec az h = some (t, ks)) : ∃ k xs, az = [.sl k] ∧ h[k]? = some (.rows 2 sh1 xs) ∧ t = ((), xs, ()) ∧ ks = [k] := by
  have hd' : (match (generalizing := false) az with
    | [.sl k] =>
      (match h[k]? with
      | some (.rows e sh xs) => if hs : e = 2 ∧ sh = [.int .i64] then some ((((), (hs.2 ▸ xs : List (Row [.int .i64])), ()) : Unit × (List Int × Unit)), [k]) else none
      | _ => none)
    | _ => none) = some (t, ks) := hd
  split at hd' <;> first | cases hd'; done | skip
  split at hd' <;> first | cases hd'; done | skip
  rename_i _ k _ e sh xs hk
  split at hd' <;> first | cases hd'; done | skip
  rename_i hs
  obtain ⟨rfl, rfl⟩ := hs
  have := Option.some.inj hd'
  exact ⟨k, xs, rfl, hk, (congrArg Prod.fst this).symm, (congrArg Prod.snd this).symm⟩

theorem same_sorted (w : World) (g o n : Nat) (os : Array Obj) (d : Array Int) : Same w (grow (putRow (Value.int .i64) (Sort.ahead w n) g o d) os) (some g) := by
  intro k hk hne
  have hkg : g ≠ k := fun e => hne (by rw [e])
  rw [heap_grow_old _ _ (by simpa using hk)]
  simp [putRow, mapBlock, Sort.ahead, Array.getElem?_modify, hkg]
theorem heap_sortedO {w : World} {g o n : Nat} {os : Array Obj} {cur : Array Value} {e : TypeId} {fr : Nat × Nat} (d : Array Int) (hb : w.heap[g]? = some (.cells cur e fr)) :
    (grow (putRow (Value.int .i64) (Sort.ahead w n) g o d) os).heap[g]? = some (.cells (putCells (Value.int .i64) o d cur) e fr) := by
  have hg : g < w.heap.size := (Array.getElem?_eq_some_iff.1 hb).1
  rw [heap_grow_old _ _ (by simpa using hg)]
  simp [putRow, mapBlock, Sort.ahead, Array.getElem?_modify, hb, onCells]
theorem take_putCellsO (cur : Array Value) (o : Nat) (ts : List Int) (h : o + ts.length ≤ cur.size) : ((putCells (Value.int .i64) o ts.toArray cur).toList.drop o).take ts.length = ts.map (Value.int .i64) := by
  apply List.ext_getElem?
  intro j
  by_cases hj : j < ts.length
  · rw [List.getElem?_take_of_lt hj, List.getElem?_drop, Array.getElem?_toList]
    simp [putCells, hj, show o + j < cur.size by omega]
  · rw [List.getElem?_take_eq_none (by omega), List.getElem?_eq_none (by simp; omega)]

theorem sortC_ok (N : Nat) : FCOK Tryd.prog N 34 sortC :=
  .body Tryd.f34 Tryd.func34 rfl rfl <| fun az hm h ρ w B vs t ks r ha hr hmask hd hrun => by
    obtain ⟨k, xs, rfl, hk0, rfl, rfl⟩ := sortC_dec hd
    have hk : h[k]? = some (.rows 2 sh1 xs) := (hmask.get k _ hk0).resolve_left (by intro e; cases e)
    have hrun' : sortT N ((), xs, ()) = some r := hrun
    unfold sortT at hrun'
    split at hrun' <;> first | cases hrun'; done | skip
    rename_i hc
    have hc1 : 0 < xs.length := hc.1
    have hc2 : xs.length ≤ 4000 := hc.2
    obtain rfl := Option.some.inj hrun'
    obtain ⟨l⟩ := vs
    cases ha with
    | cons hv hrest =>
    cases hrest
    obtain ⟨hρ, a, n, c, rfl⟩ := hv
    rcases hr.blk k _ hk with e | ⟨rv, h1, h2⟩
    · cases e
    rw [hρ] at h1; obtain rfl := Option.some.inj h1
    obtain ⟨_, hown⟩ := h2
    rcases hown.row with ⟨hl, h2⟩ | ⟨h0, _⟩
    case inr => omega
    rcases h2 with ⟨_, h0⟩ | ⟨g, o, cap, cur, e, hg, hnc, hcm, hsz, htk⟩
    · omega
    cases e
    have hlt : g < w.heap.size := lt_of_heap hg
    have hcap : c ≠ 0 := by omega
    have hrb : rowBlk (.slice (some ⟨g, o, none⟩) xs.length c) = some g := by simp [rowBlk, hcap]
    have hsz' : cur.size = o + c := by simpa using hsz
    have htk' : (cur.toList.drop o).take xs.length = xs.map (Value.int .i64) := by
      rw [← flat1]; simpa using htk
    have hH : Holds (Value.int .i64) w g o xs.toArray := by
      intro j hj
      have hj' : j < xs.length := by simpa using hj
      refine ⟨?_, by simp [World.frozen?, hg]⟩
      have h1 : ((cur.toList.drop o).take xs.length)[j]? = (xs.map (Value.int .i64))[j]? := by rw [htk']
      rw [List.getElem?_take_of_lt hj', List.getElem?_drop] at h1
      simp only [World.cell?, hg]
      simp only [Option.isSome_none, Bool.false_eq_true, if_false]
      rw [← Array.getElem?_toList, h1]
      simp [hj']
    refine (Tryd.SortI g o c xs w hH hlt (by omega)).mono ?_
    rintro e w' ⟨rfl, n, os, rfl⟩
    rw [isort_eq]
    have hsame := same_sorted w g o n os (isort xs).toArray
    have hsize : w.heap.size ≤ (grow (putRow (Value.int .i64) (Sort.ahead w n) g o (isort xs).toArray) os).heap.size := by simp
    have hB : ∀ b, B.all b → b < w.heap.size ∧ b ≠ g := fun b hb => ⟨Old.all_iff.1 (hr.base b hb), fun e => hown.own g hrb (e ▸ hb)⟩
    refine ⟨.tuple #[], rfl, ⟨rfl, rfl, rfl, hsize, fun b hb => hsame b (hB b hb).1 (fun e => (hB b hb).2 (Option.some.inj e))⟩, fun key h' _ hp => ?_⟩
    have he : h' = h.set k (.rows 2 sh1 (isort xs)) := by
      apply List.ext_getElem?
      intro j
      rw [hp.other j (fun i hi => by simp [sortC] at hi)]
      rfl
    refine ⟨ρ, Ren.le_refl ρ, fun _ _ => rfl, ⟨#[], rfl, .nil⟩, ⟨B, Sub.refl B, ?_⟩⟩
    rw [he]
    refine hr.upd (g := g) hk hρ hrb hrb hsame hsize ⟨by decide, .inl ⟨by rw [flat_length], .inr ⟨g, o, c, _, by rw [isort_length], heap_sortedO _ hg, by rw [isort_length]; exact hnc, hcm, ?_, ?_⟩⟩, fun g' hg' => ?_⟩
    · simp [putCells, hsz']
    · rw [flat1, show sh1.length = 1 from rfl, Nat.mul_one]
      exact take_putCellsO cur o (isort xs) (by rw [isort_length]; omega)
    · rw [hrb] at hg'; cases hg'; exact hown.own g hrb
end Go.Proofs.YtdoiofdepmiejaaDoor
