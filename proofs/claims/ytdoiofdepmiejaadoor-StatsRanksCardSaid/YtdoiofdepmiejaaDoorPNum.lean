/- The numbers of a line, told: the walk. -/
import Derived.Test.YtdoiofdepmiejaaDoorPShelf
import Derived.WalkKit
namespace Go.Proofs.YtdoiofdepmiejaaDoor
open Go.RowKit

def numB (l : List Int) : List UInt8 := l.flatMap fun n => 32 :: Lib.decDigits n.toNat
theorem numB_app (l : List Int) (x : Int) : numB (l ++ [x]) = numB l ++ (32 :: Lib.decDigits x.toNat) := by simp [numB]
theorem decD_all : (List.range 100).all (fun i => decide ((Lib.decDigits i).length ≤ 2)) = true := by kernel_rfl
theorem decD_le (i : Nat) (h : i < 100) : (Lib.decDigits i).length ≤ 2 := by
  have := List.all_eq_true.1 decD_all i (List.mem_range.2 h)
  simpa using this
theorem numB_len : ∀ (l : List Int), (∀ x ∈ l, 0 ≤ x ∧ x < 100) → (numB l).length ≤ 3 * l.length
  | [], _ => by simp [numB]
  | x :: t, h => by
    have h1 := decD_le x.toNat (by have := h x (by simp); omega)
    have h2 := numB_len t (fun y hy => h y (by simp [hy]))
    simp only [numB, List.flatMap_cons, List.length_append, List.length_cons] at h2 ⊢
    omega

set_option maxHeartbeats 1600000 in
theorem numbers_calls (b off cap : Nat) (l : List Int) (w : World) (hs : ∀ x ∈ l, 0 ≤ x ∧ x < 100) (hl : l.length ≤ 1000) (hb : b < w.heap.size)
    (hz : ∀ k x, l[k]? = some x → w.cell? ⟨b, off + k, none⟩ = some (.int .i64 x)) :
    Calls Tryd.prog 25 #[.slice (some ⟨b, off, none⟩) l.length cap] w fun e w' => e = .returned (.string ⟨(numB l ++ [10]).toArray⟩) ∧ Below w.heap.size w w' := by
  have h0 : Lib.IsBuilderF 62 (Tryd.lays105_ren.t 5) w.heap.size w.heap.size [] (w.alloc (.cells #[.pointer none, .slice none 0 0] 62)) := Lib.IsBuilderF.of (Lib.fresh_isBuilder _ _ w)
  have b0 : Below w.heap.size w (w.alloc (.cells #[.pointer none, .slice none 0 0] 62)) := (Below.refl _ w).alloc (Nat.le_refl _) _
  have hlen := numB_len l hs
  go_enter Tryd.func25, Tryd.ntmps25
  go_wp2
  go_loopw [8] (fun i wr => ∃ k : Nat, k ≤ l.length ∧ i = .int .i64 k ∧ Lib.IsBuilderF 62 (Tryd.lays105_ren.t 5) w.heap.size w.heap.size (Lib.byteCells (numB (l.take k))) wr ∧ Below w.heap.size w wr)
    (fun i _ => l.length - (intOf i).toNat)
  case atStart => exact ⟨0, Nat.zero_le _, rfl, h0, b0⟩
  case round =>
    obtain ⟨k, hk, rfl, hB, hnx⟩ := hrel
    by_cases hlt : k < l.length
    · obtain ⟨x, hx⟩ : ∃ x, l[k]? = some x := ⟨_, List.getElem?_eq_getElem hlt⟩
      have hc : wr.cell? ⟨b, off + k, none⟩ = some (.int .i64 x) := (World.cell?_of_block (hnx.block b hb)).trans (hz k x hx)
      have hx0 := hs x (List.mem_of_getElem? hx)
      obtain ⟨m, rfl⟩ : ∃ m : Nat, x = (m : Int) := ⟨x.toNat, by omega⟩
      have htk : numB (l.take (k + 1)) = numB (l.take k) ++ (32 :: Lib.decDigits m) := by
        rw [List.take_add_one, hx]
        simp [numB]
      have hlk : (numB (l.take k)).length ≤ 3000 := by
        have := numB_len (l.take k) (fun y hy => hs y (List.mem_of_mem_take hy))
        simp at this; omega
      have hd := decD_le m (by omega)
      have hsz : (Lib.byteCells (numB (l.take k))).length + ((⟨#[32]⟩ : ByteArray) ++ (⟨(Lib.decDigits m).toArray⟩ : ByteArray)).size ≤ 140737488355328 := by
        have e1 : (Lib.byteCells (numB (l.take k))).length = (numB (l.take k)).length := by simp [Lib.byteCells]
        have e2 : ((⟨#[32]⟩ : ByteArray) ++ (⟨(Lib.decDigits m).toArray⟩ : ByteArray)).size = 1 + (Lib.decDigits m).length := by
          rw [ByteArray.size_append]; rfl
        rw [e1, e2]; omega
      go_wp2_with (first
        | (go_at_call 44; refine (Tryd.FormatInt_small m (by omega) _).mono ?_; rintro e w' ⟨rfl, rfl⟩)
        | (go_at_call 43; refine (Tryd.WriteString_f w.heap.size w.heap.size _ _ _ hB hsz hnx.size).mono ?_; rintro e W1 ⟨rfl, h1, b1⟩))
      refine ⟨⟨k + 1, hlt, rfl, Or.inr ?_, hnx.trans b1⟩, by simp [intOf]; omega⟩
      rw [Lib.strCells_eq] at h1
      rw [htk]
      have e3 : ((⟨#[32]⟩ : ByteArray) ++ (⟨(Lib.decDigits m).toArray⟩ : ByteArray)).data.toList = 32 :: Lib.decDigits m := by
        simp [ByteArray.data_append]
      rw [e3] at h1
      simpa [Lib.byteCells] using h1
    · have hkl : k = l.length := by omega
      subst hkl
      rw [List.take_length] at hB
      go_wp2_with (go_at_call 45; refine (Tryd.String_any_f w.heap.size w.heap.size _ _ hB hnx.size).mono ?_; rintro e W1 ⟨rfl, h1, b1⟩)
      go_ret
      refine ⟨?_, hnx.trans b1⟩
      have e4 : (⟨(numB l).toArray⟩ : ByteArray) ++ (⟨#[10]⟩ : ByteArray) = ⟨(numB l ++ [10]).toArray⟩ := by
        apply ByteArray.ext
        simp [ByteArray.data_append]
      rw [e4]
      rfl
end Go.Proofs.YtdoiofdepmiejaaDoor
