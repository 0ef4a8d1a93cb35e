/- The document's text of a number: the walk. -/
import Derived.Test.YtdoiofdepmiejaaDoorPShelf
import Derived.WalkKit
namespace Go.Proofs.YtdoiofdepmiejaaDoor
open Go.RowKit

theorem decG_len : ∀ (k u : Nat), u < 10 ^ (k + 1) → (Lib.decDigits u).length ≤ k + 1
  | 0, u, h => by
    rw [Lib.decDigits, dif_pos (by simpa using h)]
    simp
  | k + 1, u, h => by
    rw [Lib.decDigits]
    split
    · simp
    · have hp : (10 : Nat) ^ (k + 1 + 1) = 10 ^ (k + 1) * 10 := Nat.pow_succ ..
      have := decG_len k (u / 10) (by omega)
      simp only [List.length_append, List.length_singleton]
      omega
theorem itoa_len (n : Int) (h0 : -9223372036854775808 ≤ n) (h1 : n ≤ 9223372036854775807) : (Lib.itoa n).length ≤ 21 := by
  have e : (10 : Nat) ^ (19 + 1) = 100000000000000000000 := by decide
  unfold Lib.itoa
  split
  · have := decG_len 19 n.natAbs (by omega)
    simp only [List.length_cons]
    omega
  · have := decG_len 19 n.toNat (by omega)
    omega

theorem conv1 (w : World) (z : Int) (T : TypeId) : (convert 60 9 (.slice (some ⟨w.heap.size, 0, none⟩) 1 1)).run Tryd.prog (w.alloc (.cells #[.int .u8 z] T)) = .ok (.string (strOfNums [z])) (w.alloc (.cells #[.int .u8 z] T)) :=
  run_convert_bytes_arg _ 60 5 (by kernel_rfl) (by kernel_rfl) w.heap.size 0 1 1 [z] rfl (fun i hi => by
    obtain rfl : i = 0 := by omega
    rw [World.cell?_alloc_mark]
    rfl) 9 (by kernel_rfl)
attribute [local go_sem] conv1
theorem str1 (u : Nat) (_ : u < 10) : strOfNums [48 + (u : Int) % 10] = ⟨(Lib.decDigits u).toArray⟩ := by
  have e : (48 + (u : Int) % 10).toNat = 48 + u := by omega
  rw [Lib.decDigits, dif_pos ‹_›]
  simp [strOfNums, e]
theorem str2 (u : Nat) (_ : ¬ u < 10) : (⟨(Lib.decDigits (u / 10)).toArray⟩ : ByteArray) ++ strOfNums [48 + (u : Int) % 10] = ⟨(Lib.decDigits u).toArray⟩ := by
  have e : (48 + (u : Int) % 10).toNat = 48 + u % 10 := by omega
  rw [Lib.decDigits.eq_def u, dif_neg ‹_›]
  apply ByteArray.ext
  simp [strOfNums, e, ByteArray.data_append]

theorem tmod10 (u : Nat) : Int.tmod (-(u : Int)) 10 = -((u % 10 : Nat) : Int) := by
  rw [Int.neg_tmod]; rfl
theorem tdiv10 (u : Nat) : Int.tdiv (-(u : Int)) 10 = -((u / 10 : Nat) : Int) := by
  rw [Int.neg_tdiv]; rfl
set_option maxRecDepth 100000 in
set_option maxHeartbeats 1600000 in
theorem decimal_calls : ∀ (n u : Nat), u < n → u ≤ 9223372036854775808 → ∀ w : World,
    Calls Tryd.prog 61 #[.int .i64 (-(u : Int))] w fun e w' => e = .returned (.string ⟨(Lib.decDigits u).toArray⟩) ∧ Below w.heap.size w w'
  | 0, _, h, _, _ => by omega
  | n + 1, u, h, hu, w => by
    have hm := tmod10 u
    have hd := tdiv10 u
    by_cases h10 : u < 10
    · have h1 := str1 u h10
      go_enter Tryd.func61, Tryd.ntmps61
      go_wp2
      go_ret
      exact ⟨rfl, (Below.refl _ w).alloc (Nat.le_refl _) _⟩
    · have h2 := str2 u h10
      have e : -((u / 10 : Nat) : Int) = -((u : Int) / 10) := rfl
      have ih := fun w => decimal_calls n (u / 10) (by omega) (by omega) w
      rw [e] at ih
      have hsz : ¬ 9223372036854775807 < (Lib.decDigits (u / 10)).length + (strOfNums [48 + (u : Int) % 10]).size := by
        have h3 := decG_len 19 (u / 10) (by rw [show (10 : Nat) ^ (19 + 1) = 100000000000000000000 by decide]; omega)
        have h4 : (strOfNums [48 + (u : Int) % 10]).size = 1 := rfl
        omega
      have b0 : Below w.heap.size w (w.alloc (.cells #[.int .u8 (48 + (u : Int) % 10)] 5)) := (Below.refl _ w).alloc (Nat.le_refl _) _
      go_enter Tryd.func61, Tryd.ntmps61
      go_wp2_with (go_at_call 61; refine (ih _).mono ?_; rintro e w1 ⟨rfl, b1⟩)
      go_ret
      exact ⟨rfl, b0.trans (b1.mono b0.size)⟩

set_option maxRecDepth 100000 in
theorem Text_calls (x : Int) (h0 : -9223372036854775808 ≤ x) (h1 : x ≤ 9223372036854775807) (w : World) :
    Calls Tryd.prog 46 #[.int .i64 x] w fun e w' => e = .returned (.string ⟨(Lib.itoa x).toArray⟩) ∧ Below w.heap.size w w' := by
  by_cases hn : x < 0
  · have e1 : x = -((x.natAbs : Nat) : Int) := by omega
    have ih := fun w => decimal_calls (x.natAbs + 1) x.natAbs (by omega) (by omega) w
    rw [← e1] at ih
    clear e1
    have hsz := itoa_len x h0 h1
    simp only [Lib.itoa, hn, if_true, List.length_cons] at hsz
    have hsz2 : ¬ 9223372036854775807 < 1 + (Lib.decDigits x.natAbs).length := by omega
    have e2 : (⟨#[45]⟩ : ByteArray) ++ ⟨(Lib.decDigits x.natAbs).toArray⟩ = ⟨(Lib.itoa x).toArray⟩ := by
      apply ByteArray.ext
      simp [Lib.itoa, hn, ByteArray.data_append]
    go_enter Tryd.func46, Tryd.ntmps46
    go_wp2_with (go_at_call 61; refine (ih _).mono ?_; rintro e w1 ⟨rfl, b1⟩)
    go_ret
    exact ⟨rfl, b1⟩
  · have e1 : -x = -((x.toNat : Nat) : Int) := by omega
    have ih := fun w => decimal_calls (x.toNat + 1) x.toNat (by omega) (by omega) w
    rw [← e1] at ih
    clear e1
    have e2 : Lib.itoa x = Lib.decDigits x.toNat := by simp [Lib.itoa, hn]
    rw [e2]
    go_enter Tryd.func46, Tryd.ntmps46
    go_wp2_with (go_at_call 61; refine (ih _).mono ?_; rintro e w1 ⟨rfl, b1⟩)
    go_ret
    exact ⟨rfl, b1⟩
end Go.Proofs.YtdoiofdepmiejaaDoor
