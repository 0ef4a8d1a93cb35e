/- DualPlays, as plain Lean: the loop over the acts. -/
import Derived.Test.YtgjmfljogaanfaaGreatPDualP
namespace Go.Proofs.YtgjmfljogaanfaaGreat.Pure
open Go.Ev Go.RowKit

def lim (l : L8) : L8 := (cl l.1 1 1073741824, (cl l.2.1 0 67108864, (cl l.2.2.1 1 1125899906842624, (cl l.2.2.2.1 0 17179869184, (cl l.2.2.2.2.1 0 17179869184, (cl l.2.2.2.2.2.1 0 65536, (cl l.2.2.2.2.2.2.1 0 67108864, cl l.2.2.2.2.2.2.2 0 67108864)))))))

theorem dual_Limit_eq (N : Nat) (l : L8) : W.dual_Limit N l = some (lim l) := by
  simp only [W.dual_Limit, sat_Clamp_eq, Option.bind_some, lim]

theorem ref_Limit_eq (N : Nat) (l : L8) : W.leatref36_Limit N l = some (lim l) := by
  simp only [W.leatref36_Limit, Option.bind_some, lim, leatref36_keep_eq N _ 1 1073741824 (by omega), leatref36_keep_eq N _ 0 67108864 (by omega), leatref36_keep_eq N _ 1 1125899906842624 (by omega), leatref36_keep_eq N _ 0 17179869184 (by omega), leatref36_keep_eq N _ 0 65536 (by omega)]

abbrev z9 : T9 := (0, (0, (0, (0, (0, (0, (0, (0, 0))))))))

def st0 (l : L8) : St := { l := lim l, z := z9, t1 := z9, t2 := z9, pi := (0, 0), owed := 0, used := 0, q1 := [], q2 := [] }

def hid0 : Hid := { f1 := 0, m1 := 0, f2 := 0, m2 := 0, dat := 0, r1 := [], r2 := [] }

theorem ring0 : RingR 0 0 [] [] := ⟨rfl, Int.le_refl _, Nat.le_refl _, by decide, .inr ⟨rfl, rfl⟩, fun i hi => absurd hi (Nat.not_lt_zero i)⟩

theorem Rep0 (D : List Int) (l : L8) : Rep D (st0 l) hid0 := ⟨ring0, ring0, fun _ => by simp [st0, hid0]⟩

theorem Good0 (l : L8) : Good 0 (st0 l) := ⟨rfl, rfl, rfl, rfl, by simp [st0], by simp [st0], by simp [st0], by simp [st0], by simp [st0], cl_in (by omega)⟩

theorem dual_New_eq (N : Nat) (l : L8) {D : List Int} (hD : DOK D) : W.dual_New N ((l, ()), (D, ())) = some ((), cS (st0 l) hid0 D) := by
  have h := hD.1
  have e : W.slices_Clone_uint32_uint32 N D = some D := by simp only [W.slices_Clone_uint32_uint32]; rw [if_pos (by omega)]
  simp only [W.dual_New, dual_Limit_eq, e, Option.bind_some]
  rfl

theorem cutL_DOK {a : List Int} (h : ∀ d ∈ a, 0 ≤ d ∧ d ≤ 4294967295) : DOK (cutL a 0 (imn ((a.length : Nat) : Int) 50)) := by
  constructor
  · simp only [cutL, imn_eq, List.length_drop, List.length_take]; omega
  · intro d hd
    exact h d (List.mem_of_mem_take (List.mem_of_mem_drop hd))

abbrev cL (l : L8) (acts : List (Int × Int × Pk)) (i : Int) (s : St) (h : Hid) (D : List Int) : (Int × Int × Unit) × (L8 × Unit) × (L8 × T9 × T9 × T9 × (Int × Int) × Int × Unit) × V0 × List (Int × Int × Pk) × (Int × Int × Int × Unit) × (Int × Int × Int × Unit) × (Int × Unit) × List Pk × List Pk × List Int × List Pk × List Pk × Unit × (Int × Unit) × List Int × Unit :=
  (((acts.length : Int), (i, ())), ((l, ()), (cA s, (rA s, (acts, ((h.f1, (h.m1, (65536, ()))), ((h.f2, (h.m2, (65536, ()))), ((s.used, ()), (s.q1, (s.q2, (D, (h.r1, (h.r2, ((), ((h.dat, ()), (D, ()))))))))))))))))

end Go.Proofs.YtgjmfljogaanfaaGreat.Pure
