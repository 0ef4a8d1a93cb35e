/- The numbers of a line, told, whatever they are: the walk. -/
import Derived.Test.YtdoiofdepmiejaaDoorPText
import Derived.Test.YtdoiofdepmiejaaDoorPLayM
import Derived.Shelf.Strings.MapGrows
import Derived.Lib.AppendIntMem
import Derived.WalkKit
namespace Go.Proofs.YtdoiofdepmiejaaDoor
open Go.RowKit

abbrev Tab (w : World) : Prop := Lib.TabIs Tryd.prog w "internal/strconv.uint64pow10" .u64 Lib.pow10Tab
theorem FormatInt_10 (n : Int) (h0 : -9223372036854775808 ≤ n) (h1 : n ≤ 9223372036854775807) (w : World) (htab : Tab w) :
    Calls Tryd.prog 44 #[.int .i64 n, .int .i64 10] w fun e w' => e = .returned (.string ⟨(Lib.itoa n).toArray⟩) ∧ Below w.heap.size w w' :=
  (Any.strconv_FormatInt_10 Tryd.laysM173 n h0 h1 w htab).mono fun e w' h => by
    obtain ⟨rfl, k, os, rfl⟩ := h
    exact ⟨rfl, Lib.below_grow _ _ (Nat.le_refl _) _ _⟩

def numG (l : List Int) : List UInt8 := l.flatMap fun n => 32 :: Lib.itoa n
theorem numG_len : ∀ (l : List Int), (∀ x ∈ l, -9223372036854775808 ≤ x ∧ x ≤ 9223372036854775807) → (numG l).length ≤ 22 * l.length
  | [], _ => by simp [numG]
  | x :: t, h => by
    have h1 := itoa_len x (h x (by simp)).1 (h x (by simp)).2
    have h2 := numG_len t (fun y hy => h y (by simp [hy]))
    simp only [numG, List.flatMap_cons, List.length_append, List.length_cons] at h2 ⊢
    omega

set_option maxHeartbeats 1600000 in
theorem numbersG_calls (b off cap : Nat) (l : List Int) (w : World) (hs : ∀ x ∈ l, -9223372036854775808 ≤ x ∧ x ≤ 9223372036854775807) (hl : l.length ≤ 1000) (hb : b < w.heap.size)
    (hz : ∀ k x, l[k]? = some x → w.cell? ⟨b, off + k, none⟩ = some (.int .i64 x)) (htab : Tab w) :
    Calls Tryd.prog 25 #[.slice (some ⟨b, off, none⟩) l.length cap] w fun e w' => e = .returned (.string ⟨(numG l ++ [10]).toArray⟩) ∧ Below w.heap.size w w' := by
  have h0 : Lib.IsBuilderF 62 (Tryd.lays105_ren.t 5) w.heap.size w.heap.size [] (w.alloc (.cells #[.pointer none, .slice none 0 0] 62)) := Lib.IsBuilderF.of (Lib.fresh_isBuilder _ _ w)
  have b0 : Below w.heap.size w (w.alloc (.cells #[.pointer none, .slice none 0 0] 62)) := (Below.refl _ w).alloc (Nat.le_refl _) _
  have hlen := numG_len l hs
  have hT := Lib.tabBelow_of_tabIs htab
  go_enter Tryd.func25, Tryd.ntmps25
  go_wp2
  go_loopw [8] (fun i wr => ∃ k : Nat, k ≤ l.length ∧ i = .int .i64 k ∧ Lib.IsBuilderF 62 (Tryd.lays105_ren.t 5) w.heap.size w.heap.size (Lib.byteCells (numG (l.take k))) wr ∧ Below w.heap.size w wr)
    (fun i _ => l.length - (intOf i).toNat)
  case atStart => exact ⟨0, Nat.zero_le _, rfl, h0, b0⟩
  case round =>
    obtain ⟨k, hk, rfl, hB, hnx⟩ := hrel
    by_cases hlt : k < l.length
    · obtain ⟨x, hx⟩ : ∃ x, l[k]? = some x := ⟨_, List.getElem?_eq_getElem hlt⟩
      have hc : wr.cell? ⟨b, off + k, none⟩ = some (.int .i64 x) := (World.cell?_of_block (hnx.block b hb)).trans (hz k x hx)
      have hx0 := hs x (List.mem_of_getElem? hx)
      have htk : numG (l.take (k + 1)) = numG (l.take k) ++ (32 :: Lib.itoa x) := by
        rw [List.take_add_one, hx]
        simp [numG]
      have hlk : (numG (l.take k)).length ≤ 22000 := by
        have := numG_len (l.take k) (fun y hy => hs y (List.mem_of_mem_take hy))
        simp at this; omega
      have hd := itoa_len x hx0.1 hx0.2
      have hsz : (Lib.byteCells (numG (l.take k))).length + ((⟨#[32]⟩ : ByteArray) ++ (⟨(Lib.itoa x).toArray⟩ : ByteArray)).size ≤ 140737488355328 := by
        have e1 : (Lib.byteCells (numG (l.take k))).length = (numG (l.take k)).length := by simp [Lib.byteCells]
        have e2 : ((⟨#[32]⟩ : ByteArray) ++ (⟨(Lib.itoa x).toArray⟩ : ByteArray)).size = 1 + (Lib.itoa x).length := by
          rw [ByteArray.size_append]; rfl
        rw [e1, e2]; omega
      have htr : Tab wr := hT wr hnx
      go_wp2_with (first
        | (go_at_call 44; refine (FormatInt_10 x hx0.1 hx0.2 _ htr).mono ?_; rintro e w0 ⟨rfl, b1⟩)
        | (go_at_call 43; refine (Tryd.WriteString_f w.heap.size w.heap.size _ _ _ (hB.below b1) hsz (Nat.le_trans hnx.size b1.size)).mono ?_; rintro e W1 ⟨rfl, h1, b2⟩))
      refine ⟨⟨k + 1, hlt, rfl, Or.inr ?_, (hnx.trans (b1.mono hnx.size)).trans b2⟩, by simp [intOf]; omega⟩
      rw [Lib.strCells_eq] at h1
      rw [htk]
      have e3 : ((⟨#[32]⟩ : ByteArray) ++ (⟨(Lib.itoa x).toArray⟩ : ByteArray)).data.toList = 32 :: Lib.itoa x := by
        simp [ByteArray.data_append]
      rw [e3] at h1
      simpa [Lib.byteCells] using h1
    · have hkl : k = l.length := by omega
      subst hkl
      rw [List.take_length] at hB
      go_wp2_with (go_at_call 45; refine (Tryd.String_any_f w.heap.size w.heap.size _ _ hB hnx.size).mono ?_; rintro e W1 ⟨rfl, h1, b1⟩)
      go_ret
      refine ⟨?_, hnx.trans b1⟩
      have e4 : (⟨(numG l).toArray⟩ : ByteArray) ++ (⟨#[10]⟩ : ByteArray) = ⟨(numG l ++ [10]).toArray⟩ := by
        apply ByteArray.ext
        simp [ByteArray.data_append]
      rw [e4]
      rfl
end Go.Proofs.YtdoiofdepmiejaaDoor
