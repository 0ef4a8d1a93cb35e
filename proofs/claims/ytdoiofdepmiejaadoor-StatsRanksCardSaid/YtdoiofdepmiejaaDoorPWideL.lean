/- Wide numbers: the laws. -/
import Derived.Test.YtdoiofdepmiejaaDoorPFixedL
namespace Go.Proofs.YtdoiofdepmiejaaDoor.Pure
open Go.Ev Go.RowKit

theorem wide_Add_eq (N : Nat) {x y : Int × Int} (x1 : U64 x.1) (x2 : U64 x.2) (y1 : U64 y.1) (y2 : U64 y.2) :
    W.wide_Add N x y = some (((wv x + wv y) / 18446744073709551616 % 18446744073709551616, (wv x + wv y) % 18446744073709551616), decide (340282366920938463463374607431768211456 ≤ wv x + wv y)) := by
  have e1 : W.bits_Add64 N x.2 y.2 0 = some ((x.2 + y.2) % 18446744073709551616, (x.2 + y.2) / 18446744073709551616) := by
    simp only [W.bits_Add64, add64]
    rw [decide_eq_true x2.1, decide_eq_true y2.1]
    simp
  have e2 : W.bits_Add64 N x.1 y.1 ((x.2 + y.2) / 18446744073709551616) = some ((x.1 + y.1 + (x.2 + y.2) / 18446744073709551616) % 18446744073709551616, (x.1 + y.1 + (x.2 + y.2) / 18446744073709551616) / 18446744073709551616) := by
    simp only [W.bits_Add64, add64]
    rw [decide_eq_true x1.1, decide_eq_true y1.1, decide_eq_true (show 0 ≤ (x.2 + y.2) / 18446744073709551616 by omega), decide_eq_true (show (x.2 + y.2) / 18446744073709551616 ≤ 1 by omega)]
    rfl
  simp only [W.wide_Add, e1, e2, Option.bind_some, wv, Option.some.injEq, Prod.mk.injEq]
  refine ⟨⟨by omega, by omega⟩, ?_⟩
  exact decide_eq_decide.2 (by omega)

theorem bits_of (N : Nat) {n : Int} (h : U64 n) (hN : 2000 < N) : ∃ l, W.leatref02_Bits N n 64 = some l ∧ Bt l ∧ l.length = 64 ∧ nv l = n := by
  obtain ⟨l, a1, a2, a3, a4⟩ := leatref02_Bits_eq N h (k := 64) (by omega) (by omega)
  exact ⟨l, a1, a2, a3, by rw [a4]; exact Int.emod_eq_of_lt h.1 (by omega)⟩

theorem wide_MulDivUp_eq (N : Nat) {a b c : Int} (ha : I64 a) (hb : I64 b) (hc : I64 c) (hN : 2000 < N) : W.wide_MulDivUp N a b c = some (mdv a b c true) := by
  obtain ⟨q, m, h1, h3, h2⟩ := wide_muldiv_eq N ha hb hc hN
  simp only [W.wide_MulDivUp, h1, Option.bind_some, mdv]
  by_cases h : a < 0 ∨ b < 0 ∨ c ≤ 0
  · rw [if_pos h, if_pos h, h3 h]; simp [W.wide_told]
  · obtain ⟨q1, q2, q3, q4⟩ := h2 h
    have hab := Int_mul_I ⟨by omega, ha.2⟩ ⟨by omega, hb.2⟩
    have hq0 := Int.ediv_nonneg hab.1 (show 0 ≤ c by omega)
    have hq1 := Int.ediv_le_self c hab.1
    rw [if_neg h, if_neg h, q4]
    by_cases hr : a * b % c = 0
    · rw [decide_eq_false (fun x => x hr), cond_false, wide_told_eq N 0 q1.1 q2 (by omega), q3]
      simp [hr]
    · have ho : wv (0, 1) = 1 := rfl
      rw [decide_eq_true hr, cond_true, wide_Add_eq N q1 q2 (y := (0, 1)) ⟨by simp only; omega, by simp only; omega⟩ ⟨by simp only; omega, by simp only; omega⟩, Option.bind_some, ho, q3]
      rw [wide_told_eq N 0 (by simp only; omega) ⟨by simp only; omega, by simp only; omega⟩ (by omega)]
      have e : wv ((a * b / c + 1) / 18446744073709551616 % 18446744073709551616, (a * b / c + 1) % 18446744073709551616) = a * b / c + 1 := by simp only [wv]; omega
      rw [e]
      simp [hr]

theorem quo_U {a b : Int} (ha : U64 a) (hb : 0 < b) : U64 (a / b) := by
  have := Int.ediv_nonneg ha.1 (show 0 ≤ b by omega)
  have := Int.ediv_le_self b ha.1
  exact ⟨by omega, by omega⟩

theorem mul_U {a b : Int} (ha : U64 a) (hb : U64 b) : 0 ≤ a * b ∧ a * b ≤ 340282366920938463426481119284349108225 := by
  have := Int.mul_le_mul ha.2 hb.2 hb.1 (by omega : (0 : Int) ≤ 18446744073709551615)
  exact ⟨Int.mul_nonneg ha.1 hb.1, by omega⟩

/-- The parts of a long quotient. -/
theorem quo_parts {h l b : Int} (hh : U64 h) (hl : U64 l) (hb : U64 b) (h0 : 0 < b) :
    U64 (h / b) ∧ U64 ((h % b * 18446744073709551616 + l) / b) ∧ h / b * 18446744073709551616 + (h % b * 18446744073709551616 + l) / b = (h * 18446744073709551616 + l) / b ∧ (h * 18446744073709551616 + l) % b = (h % b * 18446744073709551616 + l) % b := by
  have m0 := Int.emod_nonneg h (show b ≠ 0 by omega)
  have m1 := Int.emod_lt_of_pos h h0
  have e := Int.emod_add_mul_ediv h b
  have : h * 18446744073709551616 + l = (h % b * 18446744073709551616 + l) + b * (h / b * 18446744073709551616) := by
    generalize h / b = q at *; generalize h % b = r at *; rw [← e]; grind
  refine ⟨quo_U hh h0, ⟨Int.ediv_nonneg (by omega) (by omega), ?_⟩, ?_, ?_⟩
  · have : (h % b * 18446744073709551616 + l) / b < 18446744073709551616 := Int.ediv_lt_of_lt_mul h0 (by omega)
    omega
  · rw [this, Int.add_mul_ediv_left _ _ (by omega)]; omega
  · rw [this, Int.add_mul_emod_self_left]

end Go.Proofs.YtdoiofdepmiejaaDoor.Pure
