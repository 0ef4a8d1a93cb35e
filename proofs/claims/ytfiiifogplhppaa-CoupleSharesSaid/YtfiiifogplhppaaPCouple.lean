/- The shares of two coupled queues: what the program and the document's answer compute; the laws. -/
import Derived.Test.YtfiiifogplhppaaPStep
namespace Go.Proofs.Ytfiiifogplhppaa.Pure
open Go.Ev Go.RowKit

theorem couple_within_eq (N : Nat) (p k : Int) : W.couple_within N p k = some (cl p 0 4294967296, cl k 0 65536) := by
  simp only [W.couple_within, W.couple_within_1, sat_Clamp_eq, Option.bind_some]

def csq (p : Int) : Int := cl p 0 4294967296 * cl p 0 4294967296 / 4294967296

def clow (p k : Int) : Int := min (cl p 0 4294967296 * cl k 0 65536) 4294967296

theorem clp (p : Int) : 0 ≤ cl p 0 4294967296 ∧ cl p 0 4294967296 ≤ 4294967296 := cl_in (by omega)

theorem clk (k : Int) : 0 ≤ cl k 0 65536 ∧ cl k 0 65536 ≤ 65536 := cl_in (by omega)

theorem csq_in (p : Int) : 0 ≤ csq p ∧ csq p ≤ cl p 0 4294967296 := by
  have h := clp p
  have m := Int.mul_le_mul_of_nonneg_left h.2 h.1
  have n := Int.mul_nonneg h.1 h.1
  simp only [csq]
  refine ⟨Int.ediv_nonneg n (by omega), ?_⟩
  have := Int.ediv_le_ediv (show (0 : Int) < 4294967296 by omega) m
  rwa [Int.mul_ediv_cancel _ (by omega)] at this

theorem cpk_in (p k : Int) : 0 ≤ cl p 0 4294967296 * cl k 0 65536 ∧ cl p 0 4294967296 * cl k 0 65536 ≤ 281474976710656 := by
  have h := clp p; have g := clk k
  have m := Int.mul_le_mul h.2 g.2 g.1 (by omega : (0 : Int) ≤ 4294967296)
  exact ⟨Int.mul_nonneg h.1 g.1, by omega⟩

theorem clow_in (p k : Int) : 0 ≤ clow p k ∧ clow p k ≤ 4294967296 := by
  have := cpk_in p k
  simp only [clow]; omega

theorem csq_mono {a b : Int} (h : a ≤ b) : csq a ≤ csq b := by
  have h1 := cl_mono 0 4294967296 h
  have h2 := clp a; have h3 := clp b
  exact Int.ediv_le_ediv (by omega) (Int.mul_le_mul h1 h1 h2.1 h3.1)

theorem clow_mono {a b c d : Int} (h : a ≤ b) (g : c ≤ d) : clow a c ≤ clow b d := by
  have h1 := cl_mono 0 4294967296 h
  have g1 := cl_mono 0 65536 g
  have := Int.mul_le_mul h1 g1 (clk c).1 (clp b).1
  simp only [clow]; omega

theorem couple_Classic_eq (N : Nat) (p : Int) (hN : 2000 < N) : W.couple_Classic N p = some (csq p) := by
  have h := clp p
  have g := csq_in p
  simp only [W.couple_Classic, couple_within_eq, Option.bind_some]
  rw [wide_MulDiv_eq N ⟨by omega, by omega⟩ ⟨by omega, by omega⟩ ⟨by omega, by omega⟩ hN]
  simp only [csq] at g ⊢
  simp only [mdv, Option.bind_some, Bool.false_eq_true, false_and, if_false]
  rw [if_neg (by omega), if_neg (by omega)]

theorem couple_Low_eq (N : Nat) (p k : Int) : W.couple_Low N p k = some (clow p k) := by
  have h := cpk_in p k
  simp only [W.couple_Low, couple_within_eq, Option.bind_some, clow]
  rw [wrapI64 (by omega) (by omega)]
  simp only [Option.some.injEq]
  split <;> omega

theorem couple_Hit_eq (N : Nat) {d : Int} (s : Int) (hd : 0 ≤ d ∧ d ≤ 4294967295) : W.couple_Hit N d s = some (decide (d < s)) := by
  simp only [W.couple_Hit]
  rw [wrapI64 (by omega) (by omega)]

theorem couple_Over_eq (N : Nat) (p k : Int) : W.couple_Over N p k = some (decide (0 < p ∧ 4294967296 ≤ cl p 0 4294967296 * cl k 0 65536)) := by
  have h := clp p
  have e : cl (cl p 0 4294967296) 0 4294967296 = cl p 0 4294967296 := by simp only [cl]; omega
  simp only [W.couple_Over, couple_within_eq, couple_Low_eq, Option.bind_some, clow, e]
  by_cases h0 : 0 < p
  · rw [decide_eq_true (show 0 < cl p 0 4294967296 by simp only [cl]; omega)]
    simp only [beq_self_eq_true, cond_true, Option.some.injEq]
    by_cases h1 : 4294967296 ≤ cl p 0 4294967296 * cl k 0 65536
    · rw [decide_eq_true ⟨h0, h1⟩, Int.min_eq_right h1]; rfl
    · rw [decide_eq_false (fun x => h1 x.2), Int.min_eq_left (by omega)]
      exact beq_false_of_ne (by omega)
  · rw [decide_eq_false (show ¬ 0 < cl p 0 4294967296 by simp only [cl]; omega), decide_eq_false (fun x => h0 x.1)]; rfl

theorem leatlaw33_works_eq (N : Nat) (hN : 2000 < N) : W.leatlaw33_works N = some true := by
  simp only [W.leatlaw33_works, couple_Classic_eq N _ hN, couple_Low_eq, couple_Hit_eq N (d := 5) 6 (by omega), Option.bind_some]
  rfl

theorem leatref33_within_eq (N : Nat) (a m : Int) (hm : 0 ≤ m) : W.leatref33_within N a m = some (cl a 0 m) := by
  simp only [W.leatref33_within, cl, Option.some.injEq]
  repeat' split
  all_goals omega

theorem leatref33_Classic_eq (N : Nat) (p : Int) : W.leatref33_Classic N p = some (csq p) := by
  have h := clp p
  have g := csq_in p
  simp only [W.leatref33_Classic, leatref33_within_eq N p 4294967296 (by omega), Option.bind_some]
  by_cases e : cl p 0 4294967296 = 4294967296
  · simp only [csq, e]; rfl
  · have m := Int.mul_le_mul (show cl p 0 4294967296 ≤ 4294967295 by omega) (show cl p 0 4294967296 ≤ 4294967295 by omega) h.1 (by omega : (0 : Int) ≤ 4294967295)
    have n := Int.mul_nonneg h.1 h.1
    rw [beq_false_of_ne e, wrapU64 h.1 (by omega), wrapU64 n (by omega), tdiv_nn n]
    simp only [csq] at g ⊢
    rw [wrapU64 (by omega) (by omega), wrapI64 (by omega) (by omega)]
    rfl

theorem leatref33_Low_eq (N : Nat) (p k : Int) : W.leatref33_Low N p k = some (clow p k) := by
  have h := cpk_in p k
  simp only [W.leatref33_Low, leatref33_within_eq N p 4294967296 (by omega), leatref33_within_eq N k 65536 (by omega), Option.bind_some, clow]
  rw [wrapI64 (by omega) (by omega)]
  simp only [Option.some.injEq]
  split <;> omega

theorem leatref33_Over_eq (N : Nat) (p k : Int) : W.leatref33_Over N p k = some (decide (0 < p ∧ 4294967296 ≤ cl p 0 4294967296 * cl k 0 65536)) := by
  have h := cpk_in p k
  simp only [W.leatref33_Over, leatref33_within_eq N p 4294967296 (by omega), leatref33_within_eq N k 65536 (by omega), Option.bind_some]
  rw [wrapI64 (by omega) (by omega)]
  by_cases h0 : 0 < p <;> simp [h0]

theorem leatref33_Hit_eq (N : Nat) {d : Int} (s : Int) (hd : 0 ≤ d ∧ d ≤ 4294967295) : W.leatref33_Hit N d s = some (decide (d < s)) := by
  simp only [W.leatref33_Hit, bifd]
  rw [wrapI64 (by omega) (by omega)]
  split
  · simp only [Option.some.injEq]; symm; exact decide_eq_false (by omega)
  · split
    · simp only [Option.some.injEq]; symm; exact decide_eq_true (by omega)
    · rfl

theorem CoupleShares_i (p k d : Int) (hd : 0 ≤ d ∧ d ≤ 4294967295) : W.leatlaw33_CoupleShares 3000 p k d = some true := by
  have hN : 2000 < 3000 := by omega
  simp only [W.leatlaw33_CoupleShares, couple_Classic_eq _ _ hN, leatref33_Classic_eq, couple_Low_eq, leatref33_Low_eq, couple_Over_eq, leatref33_Over_eq, couple_Hit_eq _ _ hd, leatref33_Hit_eq _ _ hd, leatlaw33_works_eq _ hN, Option.bind_some, beq_self_eq_true, cond_true]

theorem CoupleShares (x : RT [.sc (.int .i64), .sc (.int .i64), .sc (.int .u32)]) (h : RT.wf _ x) : ∃ N, uncR [.sc (.int .i64), .sc (.int .i64), .sc (.int .u32)] (W.leatlaw33_CoupleShares N) x = some true := by
  obtain ⟨p, k, d⟩ := x
  exact ⟨3000, CoupleShares_i p k d (u32_range h.2.2)⟩

theorem CoupleRises_i (a b c d : Int) : W.leatlaw33_CoupleRises 3000 (a, b) (c, d) = some true := by
  have hN : 2000 < 3000 := by omega
  have e1 : (if b < a then b else a) = min a b := by split <;> omega
  have e2 : (if b > a then b else a) = max a b := by split <;> omega
  have e3 : (if d < c then d else c) = min c d := by split <;> omega
  have e4 : (if d > c then d else c) = max c d := by split <;> omega
  simp only [W.leatlaw33_CoupleRises, couple_Classic_eq _ _ hN, couple_Low_eq, leatlaw33_works_eq _ hN, Option.bind_some, e1, e2, e3, e4]
  have h1 := csq_in (max a b)
  have h2 := clp (max a b)
  rw [decide_eq_true (csq_mono (show min a b ≤ max a b by omega)), decide_eq_true (clow_mono (show min a b ≤ max a b by omega) (Int.le_refl (min c d))), decide_eq_true (clow_mono (Int.le_refl (min a b)) (show min c d ≤ max c d by omega)),
    decide_eq_true (csq_in (min a b)).1, decide_eq_true (clow_in (min a b) (min c d)).1, decide_eq_true (show csq (max a b) ≤ 4294967296 by omega), decide_eq_true (clow_in (max a b) (max c d)).2]
  rfl

theorem CoupleRises (x : RT [.agg [.int .i64, .int .i64], .agg [.int .i64, .int .i64]]) (_ : RT.wf _ x) : ∃ N, uncR [.agg [.int .i64, .int .i64], .agg [.int .i64, .int .i64]] (W.leatlaw33_CoupleRises N) x = some true := by
  obtain ⟨⟨a, b⟩, c, d⟩ := x
  exact ⟨3000, CoupleRises_i a b c d⟩

theorem CoupleSquares_i (p : Int) (hp : 0 ≤ p ∧ p ≤ 4294967295) : W.leatlaw33_CoupleSquares 3000 p = some true := by
  have hN : 2000 < 3000 := by omega
  have w1 := wrapI64 (x := p) (by omega) (by omega)
  have w2 : IntKind.wrap .i64 (p.tdiv 2) = p / 2 := by rw [tdiv_nn hp.1]; exact wrapI64 (by omega) (by omega)
  have hx : cl (p / 2) 0 4294967296 = p / 2 := by simp only [cl]; omega
  have e1 : clow (p / 2) 2 = p / 2 * 2 := by simp only [clow, hx, show cl 2 0 65536 = 2 from rfl]; omega
  have w3 : IntKind.wrap .i64 ((p / 2 * 2).tdiv 2) = p / 2 := by rw [tdiv_nn (by omega)]; rw [wrapI64 (by omega) (by omega)]; omega
  have w4 : (p / 2).fdiv 65536 = p / 2 / 65536 := fdiv_pos (by omega)
  have h1 := csq_in (p / 2)
  rw [hx] at h1
  have m := Int.mul_le_mul (show p / 2 / 65536 ≤ 65535 by omega) (show p / 2 / 65536 ≤ 65535 by omega) (by omega) (by omega : (0 : Int) ≤ 65535)
  have n := Int.mul_nonneg (show 0 ≤ p / 2 / 65536 by omega) (show 0 ≤ p / 2 / 65536 by omega)
  have w5 := wrapI64 (x := p / 2 / 65536 * (p / 2 / 65536)) (by omega) (by omega)
  have h2 : p / 2 / 65536 * (p / 2 / 65536) ≤ csq (p / 2) := by
    simp only [csq, hx]
    apply Int.le_ediv_of_mul_le (by omega)
    have : p / 2 / 65536 * (p / 2 / 65536) * 4294967296 = (p / 2 / 65536 * 65536) * (p / 2 / 65536 * 65536) := by grind
    rw [this]
    exact Int.mul_le_mul (by omega) (by omega) (by omega) (by omega)
  simp only [W.leatlaw33_CoupleSquares, couple_Classic_eq _ _ hN, couple_Low_eq, leatlaw33_works_eq _ hN, Option.bind_some, w1, w2, e1, w3, w4, w5, beq_self_eq_true, cond_true]
  rw [decide_eq_true h1.2, decide_eq_true h2]
  rfl

theorem CoupleSquares (x : RT [.sc (.int .u32)]) (h : RT.wf _ x) : ∃ N, uncR [.sc (.int .u32)] (W.leatlaw33_CoupleSquares N) x = some true :=
  ⟨3000, CoupleSquares_i x (u32_range h)⟩

end Go.Proofs.Ytfiiifogplhppaa.Pure
