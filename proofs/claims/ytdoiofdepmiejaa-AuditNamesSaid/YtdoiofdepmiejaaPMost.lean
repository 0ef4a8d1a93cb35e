/- audit.Most: how often each kind comes, by a map; the walk. -/
import Derived.Test.YtdoiofdepmiejaaEvR
import Derived.Test.YtdoiofdepmiejaaProg
import Derived.WalkKit
import Derived.Maps.OwnOps
import Derived.StillTactics
namespace Go.Proofs.Ytdoiofdepmiejaa
open Go.RowKit Go.Maps Go.Ev

def cntK (x : Int) (l : List Int) : Int := ((l.count x : Nat) : Int)
def mostStep (all : List Int) (b k : Int) : Int := if cntK k all > cntK b all ∨ cntK k all = cntK b all ∧ k < b then k else b
def mostL (l : List Int) : Int := l.foldl (mostStep l) 0

/-- The map tells how often each number has come. -/
def Tells (D : DataW Nat) (l : List Int) : Prop := IsMap D ∧ ∀ x : Int, D.atKey (.int .i64 x) (.lit (.int .i64 0)) = .lit (.int .i64 (cntK x l))
theorem Tells.nil : Tells (.map []) [] := ⟨isMap_empty, fun _ => rfl⟩
theorem Tells.put {D : DataW Nat} {l : List Int} (h : Tells D l) (k : Int) : Tells (D.put (.int .i64 k) (.lit (.int .i64 (cntK k l + 1)))) (l ++ [k]) := by
  refine ⟨h.1.put _ _, fun x => ?_⟩
  by_cases e : x = k
  · subst e
    rw [atKey_put_same h.1 (by trivial)]
    simp [cntK]
  · rw [atKey_put_other (by simpa using e), h.2 x]
    have e2 : ¬ k = x := fun h => e h.symm
    simp [cntK, List.count_append, e2]


theorem und30 : Try.prog.underlying 30 = some (.map 3 3) := by kernel_rfl
theorem und3 : Try.prog.underlying 3 = some (.int .i64) := by kernel_rfl
theorem law3 : Keyed Try.prog 3 := int_keyed und3
theorem zero3 (w : World) : (zeroValue 3).run Try.prog w = .ok (.int .i64 0) w := by kernel_rfl

theorem cell_of_heap {A : World} {b : Nat} {c : Array Value} {T : TypeId} (h : A.heap[b]? = some (.cells c T (0, 0))) (j : Nat) : A.cell? ⟨b, j, none⟩ = c[j]? := by simp [World.cell?, h]
theorem wp_still_drew {P : Program} {id : Nat} {Q : Exit → Act → World → Prop} {a : Act} {w : World} {l : List Oper} (hm : P.follows .mixedOrders = true) (hB : Region.lexB .any l.toArray = true)
    (h : wpStill P l.toArray w.drew (fun a' => Q .normal a' w.drew) l a) : (Code.region id l.toArray true).wp P Q a w := wp_region_still_lit hm hB h
set_option maxRecDepth 100000 in
theorem most_walk (b off cap : Nat) (zs : List (Int × Int)) (hl : zs.length ≤ 1000) (w : World) (hb : b < w.heap.size)
    (hc : ∀ j z, zs[j]? = some z → w.cell? ⟨b, off + j * 2, none⟩ = some (.int .i64 z.1) ∧ w.cell? ⟨b, off + j * 2 + 1, none⟩ = some (.int .i64 z.2)) (hwz : ∀ z ∈ zs, (Lit.int .i64 z.1).wf = true) :
    Calls Try.prog 6 #[.slice (some ⟨b, off, none⟩) zs.length cap] w fun e w' => e = .returned (.int .i64 (mostL (zs.map (·.1)))) ∧ Below w.heap.size w w' := by
  have hmm := @run_makeMap Try.prog
  go_enter Try.func6, Try.ntmps6
  go_wp2
  go_loopw [14] (fun i wr => ∃ (k : Nat) (D : DataW Nat), k ≤ zs.length ∧ i = .int .i64 k ∧ wr.ownsMap Try.prog 3 (plainElem Try.prog 3) w.heap.size k D ∧ Tells D ((zs.map (·.1)).take k) ∧ Below w.heap.size w wr) (fun i _ => zs.length - (intOf i).toNat)
  case atStart => exact ⟨0, .map [], Nat.zero_le _, rfl, World.ownsMap_made _ _ _ _, Tells.nil, (Below.refl _ _).alloc (Nat.le_refl _) _⟩
  case round =>
    obtain ⟨k, D, hk, rfl, hown, hT, hnx⟩ := hrel
    by_cases hlt : k < zs.length
    · obtain ⟨z, hzk⟩ : ∃ z, zs[k]? = some z := ⟨_, List.getElem?_eq_getElem hlt⟩
      obtain ⟨e1, e2⟩ := hc k z hzk
      have hwf := hwz z (List.mem_of_getElem? hzk)
      have c1 : wr.cell? ⟨b, off + k * 2, none⟩ = some (.int .i64 z.1) := (hnx.cell (by exact hb)).trans e1
      have c2 : wr.cell? ⟨b, off + k * 2 + 1, none⟩ = some (.int .i64 z.2) := (hnx.cell (by exact hb)).trans e2
      have hkey : keyOf Try.prog 3 (.int .i64 z.1) = some (.int .i64 z.1) := keyOf_int_mk und3 hwf
      have htk : (zs.map (·.1)).take (k + 1) = (zs.map (·.1)).take k ++ [z.1] := by
        rw [List.take_add_one, List.getElem?_map, hzk]; rfl
      have hcw : wrap64 (cntK z.1 ((zs.map (·.1)).take k) + 1) = cntK z.1 ((zs.map (·.1)).take k) + 1 := by
        have h1 : ((zs.map (·.1)).take k).count z.1 ≤ 1000 := Nat.le_trans List.count_le_length (by rw [List.length_take]; omega)
        simp only [cntK, wrap64]
        omega
      have hcf : (Lit.int .i64 (cntK z.1 ((zs.map (·.1)).take k) + 1)).wf = true := by rw [← hcw]; exact wrap64_wf _
      clear hc hzk e1 e2 hmm
      obtain ⟨z1, z2⟩ := z
      dsimp only at c1 c2 hkey htk hcw hcf hwf
      have hat0 := hT.2 z1
      have hT2 := hT.put z1
      rw [← htk] at hT2
      generalize cntK z1 ((zs.map (·.1)).take k) = cn at *
      go_wp2_with (first
        | (at_lookup; refine wpList_lookup_own_int _ rfl _ _ 30 rfl 3 3 .i64 law3 und30 und3 (zero3 _) w.heap.size k _ rfl (hown.alloc _) _ _ rfl hkey ?_; intro c hat hwc; rw [hat0] at hat; cases hat)
        | (at_mapUpdate; refine wpList_mapUpdate_own _ rfl _ _ _ 30 rfl 3 3 law3 und30 _ w.heap.size k _ rfl (hown.alloc _) (by unfold maxLen; omega) _ _ _ rfl rfl hkey _ [] (plainElem_int und3 hcf) ?_; intro w1 hown1 hgrow1)
        | (at_mapUpdate; refine wpList_mapUpdate_own _ rfl _ _ _ 30 rfl 3 3 law3 und30 _ w.heap.size k _ rfl (hown.alloc _) (by unfold maxLen; omega) _ _ _ rfl rfl hkey _ [] (plainElem_int und3 (wrap64_wf _)) ?_; intro w1 hown1 hgrow1)
        | go_in)
      rw [hcw] at hown1
      exact ⟨⟨k + 1, _, hlt, rfl, hown1, hT2, (hnx.alloc hnx.size _).grown hgrow1 (hnx.alloc hnx.size _).size (fun j hj => by cases hj; exact Nat.le_refl _)⟩, by simp [intOf]; omega⟩
    · obtain rfl : k = zs.length := by omega
      rw [List.take_of_length_le (by simp)] at hT
      clear hmm
      go_wp2
      go_loopw [4, 26] (fun v i w2 => ∃ k : Nat, k ≤ zs.length ∧ i = .int .i64 k ∧ v = .int .i64 (((zs.map (·.1)).take k).foldl (mostStep (zs.map (·.1))) 0) ∧ (Lit.int .i64 (((zs.map (·.1)).take k).foldl (mostStep (zs.map (·.1))) 0)).wf = true ∧ w2.ownsMap Try.prog 3 (plainElem Try.prog 3) w.heap.size zs.length D ∧ Below w.heap.size w w2) (fun _ i _ => zs.length - (intOf i).toNat)
      case atStart => exact ⟨0, Nat.zero_le _, rfl, rfl, by rw [List.take_zero]; rfl, hown, hnx⟩
      case round =>
        obtain ⟨j, hj, rfl, rfl, hbw, hown2, hnx2⟩ := hrel
        obtain ⟨bst, hbst⟩ : ∃ bst, bst = ((zs.map (·.1)).take j).foldl (mostStep (zs.map (·.1))) 0 := ⟨_, rfl⟩
        rw [← hbst] at hbw ⊢
        by_cases hlt2 : j < zs.length
        · obtain ⟨z, hzk⟩ : ∃ z, zs[j]? = some z := ⟨_, List.getElem?_eq_getElem hlt2⟩
          obtain ⟨e1, e2⟩ := hc j z hzk
          have hwf := hwz z (List.mem_of_getElem? hzk)
          have c1 : wr.cell? ⟨b, off + j * 2, none⟩ = some (.int .i64 z.1) := (hnx2.cell (by exact hb)).trans e1
          have c2 : wr.cell? ⟨b, off + j * 2 + 1, none⟩ = some (.int .i64 z.2) := (hnx2.cell (by exact hb)).trans e2
          have hnext : ((zs.map (·.1)).take (j + 1)).foldl (mostStep (zs.map (·.1))) 0 = mostStep (zs.map (·.1)) bst z.1 := by
            rw [List.take_add_one, List.getElem?_map, hzk, List.foldl_append, ← hbst]; rfl
          obtain ⟨z1, z2⟩ := z
          dsimp only at c1 c2 hnext hwf
          obtain ⟨o, ho⟩ : ∃ o, o = Obj.cells #[.int .i64 z1, .int .i64 z2] 32 := ⟨_, rfl⟩
          obtain ⟨w5, hw5⟩ : ∃ w5, w5 = (wr.alloc o).drew := ⟨_, rfl⟩
          have hown5 : w5.ownsMap Try.prog 3 (plainElem Try.prog 3) w.heap.size zs.length D := by rw [hw5]; exact (hown2.alloc o).drew
          have hnx5 : Below w.heap.size w w5 := by rw [hw5]; exact (hnx2.alloc hnx2.size o).drew
          have d1 : w5.cell? ⟨wr.heap.size, 0, none⟩ = some (.int .i64 z1) := by
            rw [hw5, ho]
            have h1 : ((wr.alloc (Obj.cells #[.int .i64 z1, .int .i64 z2] 32)).drew).heap[wr.heap.size]? = some (.cells #[.int .i64 z1, .int .i64 z2] 32 (0, 0)) := World.alloc_heap_new wr _
            rw [cell_of_heap h1]; rfl
          obtain ⟨n1, l1, a1, _⟩ := hown5.lookup_int (q := .i64) law3 und30 und3 (zero3 _) (keyOf_int_mk und3 hwf)
          obtain ⟨n2, l2, a2, _⟩ := hown5.lookup_int (q := .i64) law3 und30 und3 (zero3 _) (keyOf_int_mk und3 hbw)
          rw [hT.2 z1] at a1
          rw [hT.2 bst] at a2
          cases a1
          cases a2
          clear hc hzk e1 e2 hown hnx hown2 hnx2 hbst
          go_wp2
          rw [← ho]
          refine wp_still_drew (by kernel_rfl) (by kernel_rfl) ?_
          rw [← hw5]
          clear hw5 ho
          repeat still_step
          refine wpStill_nil ?_
          have fin : ∀ r : Int, mostStep (zs.map (·.1)) bst z1 = r → (Lit.int .i64 r).wf = true →
              (∃ k : Nat, k ≤ zs.length ∧ Value.int .i64 ((j : Int) + 1) = .int .i64 k ∧ Value.int .i64 r = .int .i64 (((zs.map (·.1)).take k).foldl (mostStep (zs.map (·.1))) 0) ∧ (Lit.int .i64 (((zs.map (·.1)).take k).foldl (mostStep (zs.map (·.1))) 0)).wf = true ∧ w5.ownsMap Try.prog 3 (plainElem Try.prog 3) w.heap.size zs.length D ∧ Below w.heap.size w w5) ∧
              zs.length - (intOf (.int .i64 ((j : Int) + 1))).toNat < zs.length - (intOf (.int .i64 (j : Int))).toNat := fun r hr hrw =>
            ⟨⟨j + 1, hlt2, rfl, by rw [hnext, hr], by rw [hnext, hr]; exact hrw, hown5, hnx5⟩, by simp [intOf]; omega⟩
          clear hnext hown5 hnx5
          by_cases g1 : cntK z1 (zs.map (·.1)) > cntK bst (zs.map (·.1))
          · have fin' := fin z1 (if_pos (.inl g1)) hwf
            clear fin
            go_wp2
            exact fin'
          · by_cases g2 : cntK z1 (zs.map (·.1)) = cntK bst (zs.map (·.1))
            · by_cases g3 : z1 < bst
              · have fin' := fin z1 (if_pos (.inr ⟨g2, g3⟩)) hwf
                clear fin
                go_wp2
                exact fin'
              · have fin' := fin bst (if_neg fun h => h.elim g1 fun h => g3 h.2) hbw
                clear fin
                go_wp2
                exact fin'
            · have fin' := fin bst (if_neg fun h => h.elim g1 fun h => g2 h.1) hbw
              clear fin
              go_wp2
              exact fin'
        · obtain rfl : j = zs.length := by omega
          rw [List.take_of_length_le (by simp)] at hbst
          have hml : mostL (zs.map (·.1)) = bst := hbst.symm
          clear hc hown
          go_wp2
          go_ret
          exact ⟨rfl, hnx2⟩

set_option maxRecDepth 100000 in
theorem most_none (aa : Option Addr) (cap : Nat) (w : World) :
    Calls Try.prog 6 #[.slice aa 0 cap] w fun e w' => e = .returned (.int .i64 0) ∧ Below w.heap.size w w' := by
  have hmm := @run_makeMap Try.prog
  go_enter Try.func6, Try.ntmps6
  go_wp2
  refine wp_loop_rounds 1 ?_
  rw [rounds_succ]
  go_wp2
  refine wp_loop_rounds 1 ?_
  rw [rounds_succ]
  go_wp2
  go_ret
  exact ⟨rfl, (Below.refl _ _).alloc (Nat.le_refl _) _⟩
end Go.Proofs.Ytdoiofdepmiejaa
