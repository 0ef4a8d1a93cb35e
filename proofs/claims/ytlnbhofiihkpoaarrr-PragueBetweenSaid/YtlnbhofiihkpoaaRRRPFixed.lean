/- Shares in whole numbers: what the program and the document's answer compute. -/
import Derived.Test.YtlnbhofiihkpoaaRRRPWide
namespace Go.Proofs.YtlnbhofiihkpoaaRRR.Pure
open Go.Ev Go.RowKit

theorem tmod_sign {a b : Int} (hb : 0 < b) : (a.tmod b < 0 ↔ a.tmod b ≠ 0 ∧ a < 0) := by
  by_cases h : 0 ≤ a
  · rw [tmod_nn h]; have := Int.emod_nonneg a (show b ≠ 0 by omega); omega
  · have := Int.tmod_nonneg b (show 0 ≤ -a by omega)
    rw [Int.neg_tmod] at this; omega

theorem sat_Div_eq (N : Nat) {a b : Int} (ha : I64 a) (hb : 0 < b) : W.sat_Div N a b = some (a / b) := by
  have hq := tdiv_I ha hb
  have hd := ediv_I ha hb
  have hs := tmod_sign (a := a) hb
  rw [← floor_div hb] at hd ⊢
  simp only [W.sat_Div]
  rw [beq_false_of_ne (show b ≠ 0 by omega), beq_false_of_ne (show b ≠ -1 by omega), wrapI64 hq.1 hq.2, decide_eq_false (show ¬ b = 0 by omega), decide_eq_false (show ¬ b < 0 by omega)]
  have key : (bif (!(a.tmod b == 0)) == true then bif !(decide (a < 0) == false) then some (IntKind.wrap .i64 (a.tdiv b - 1)) else some (a.tdiv b) else some (a.tdiv b)) = some (if a.tmod b ≠ 0 ∧ a.tmod b < 0 then a.tdiv b - 1 else a.tdiv b) := by
    by_cases h1 : a.tmod b = 0
    · rw [h1]; simp
    · rw [beq_false_of_ne h1]
      by_cases h2 : a < 0
      · have h3 := hs.2 ⟨h1, h2⟩
        rw [if_pos ⟨h1, h3⟩] at hd ⊢
        rw [decide_eq_true h2, wrapI64 hd.1 hd.2]
        rfl
      · rw [if_neg (fun h => h2 (hs.1 h.2).2), decide_eq_false h2]
        rfl
  simp only [Bool.not_false, cond_true, cond_false, key]
  cases (a == -9223372036854775808) == true <;> rfl

theorem sat_Mod_eq (N : Nat) {a b : Int} (_ : I64 a) (hb : 0 < b) (hb' : b ≤ 4611686018427387904) : W.sat_Mod N a b = some (a % b) := by
  have h1 := Int.tmod_add_mul_tdiv a b
  have h2 := Int.emod_add_mul_ediv a b
  have h3 := Int.emod_nonneg a (show b ≠ 0 by omega)
  have h4 := Int.emod_lt_of_pos a hb
  have hf := floor_div (a := a) hb
  simp only [W.sat_Mod]
  rw [biff (by omega), decide_eq_false (show ¬ b = 0 by omega)]
  simp only [Bool.not_false, cond_true]
  by_cases h : a.tmod b < 0
  · have h0 : a.tmod b ≠ 0 := by omega
    rw [if_pos ⟨h0, h⟩] at hf
    have e : a.tmod b + b = a % b := by
      rw [← hf] at h2
      have : b * (a.tdiv b - 1) = b * a.tdiv b - b := by grind
      omega
    rw [bift h, e, wrapI64 (by omega) (by omega)]
  · rw [if_neg (fun x => h x.2)] at hf
    rw [biff h]
    have e : a.tmod b = a % b := by rw [← hf] at h2; omega
    rw [e]

/-- A ratio. -/
def ratio (a b : Int) : Int := if a ≤ 0 then 0 else if b ≤ 0 ∨ b ≤ a then 1048576 else a * 1048576 / b

theorem ratio_in (a b : Int) : 0 ≤ ratio a b ∧ ratio a b ≤ 1048576 := by
  simp only [ratio]
  split
  · omega
  · split
    · omega
    · refine ⟨Int.ediv_nonneg (by omega) (by omega), ?_⟩
      have : a * 1048576 / b < 1048576 := Int.ediv_lt_of_lt_mul (by omega) (by omega)
      omega

theorem fixed_Ratio_eq (N : Nat) {a b : Int} (ha : I64 a) (hb : I64 b) (hN : 2000 < N) : W.fixed_Ratio N a b = some (ratio a b) := by
  have hr := ratio_in a b
  simp only [W.fixed_Ratio]
  simp only [ratio] at hr ⊢
  by_cases h1 : a ≤ 0
  · rw [bift h1, if_pos h1]
  rw [biff h1, if_neg h1] at *
  by_cases h2 : b ≤ 0
  · rw [decide_eq_true h2, if_pos (.inl h2)]; rfl
  rw [decide_eq_false h2]
  by_cases h3 : b ≤ a
  · rw [if_pos (.inr h3)]; simp [h3]
  rw [if_neg (show ¬ (b ≤ 0 ∨ b ≤ a) by omega)] at hr ⊢
  rw [biff h3, wide_MulDiv_eq N ha ⟨by omega, by omega⟩ hb hN]
  simp only [mdv, Option.bind_some, Bool.false_eq_true, false_and, if_false]
  rw [if_neg (show ¬ (a < 0 ∨ (1048576 : Int) < 0 ∨ b ≤ 0) by omega), if_neg (show ¬ 9223372036854775807 < a * 1048576 / b by omega)]
  rfl

theorem leatref04_quo_eq (N : Nat) {a b c : Int} (ha : I64 a) (hb : I64 b) (hc : I64 c) (a0 : 0 ≤ a) (b0 : 0 ≤ b) (c0 : 0 < c) (hq : a * b / c ≤ 9223372036854775807) (hN : 2000 < N) : W.leatref04_quo N a b c = some (a * b / c) := by
  have m := leatref02_MulDiv_eq N ha hb hc false hN
  have n := Int.mul_nonneg a0 b0
  simp only [mdv, Bool.false_eq_true, false_and, if_false] at m
  rw [if_neg (by omega), if_neg (by omega)] at m
  simp only [W.leatref04_quo, m, Option.bind_some, bifd]
  by_cases h : a < 4398046511104
  · rw [decide_eq_true h]
    by_cases h2 : b ≤ 1048576
    · have k := Int.mul_le_mul (show a ≤ 4398046511103 by omega) h2 b0 (by omega)
      have q := Int.ediv_nonneg n (show 0 ≤ c by omega)
      rw [wrapI64 (x := a * b) (by omega) (by omega), tdiv_nn n, wrapI64 (by omega) hq, decide_eq_false (show ¬ c = 0 by omega), if_pos h2]; rfl
    · rw [if_neg h2]; rfl
  · rw [decide_eq_false h]; rfl

theorem leatref04_Ratio_eq (N : Nat) {a b : Int} (ha : I64 a) (hb : I64 b) (hN : 2000 < N) : W.leatref04_Ratio N a b = some (ratio a b) := by
  have hr := ratio_in a b
  simp only [W.leatref04_Ratio]
  simp only [ratio] at hr ⊢
  by_cases h1 : a ≤ 0
  · rw [bift h1, if_pos h1]
  rw [biff h1, if_neg h1] at *
  by_cases h2 : b ≤ 0
  · rw [decide_eq_true h2, if_pos (.inl h2)]; rfl
  rw [decide_eq_false h2]
  by_cases h3 : b ≤ a
  · rw [if_pos (.inr h3)]; simp [h3]
  rw [if_neg (show ¬ (b ≤ 0 ∨ b ≤ a) by omega)] at hr ⊢
  rw [biff h3, leatref04_quo_eq N ha ⟨by omega, by omega⟩ hb (by omega) (by omega) (by omega) (by omega) hN]
  rfl

/-- A step towards a number. -/
def toward (x y n : Int) : Int := sadd x (ssub y x / 2 ^ (cl n 0 62).toNat)

theorem sadd_I (a b : Int) : I64 (sadd a b) := by simp only [sadd, cl]; constructor <;> omega

theorem ssub_I (a b : Int) : I64 (ssub a b) := by simp only [ssub, cl]; constructor <;> omega

theorem fixed_Toward_eq (N : Nat) {x y : Int} (n : Int) (hx : I64 x) (hy : I64 y) : W.fixed_Toward N x y n = some (toward x y n) := by
  have e : (if (if 62 < n then 62 else n) > 0 then (if 62 < n then 62 else n) else 0) = cl n 0 62 := by
    simp only [cl]; split <;> split <;> omega
  have hc := cl_range n
  have hm : min (cl n 0 62).toNat 64 = (cl n 0 62).toNat := by omega
  have hp := pow_pos' (cl n 0 62).toNat
  simp only [W.fixed_Toward, e, sat_Sub_eq N hy hx, Option.bind_some, hm]
  rw [decide_eq_false (show ¬ cl n 0 62 < 0 by omega), fdiv_pos hp, sat_Add_eq N hx (ediv_I (ssub_I y x) hp)]
  rfl
where cl_range (n : Int) : 0 ≤ cl n 0 62 ∧ cl n 0 62 ≤ 62 := by simp only [cl]; omega

theorem leatref04_Toward_eq (N : Nat) {x y : Int} (n : Int) (hx : I64 x) (hy : I64 y) (hN : 2000 < N) : W.leatref04_Toward N x y n = some (toward x y n) := by
  have hc : 0 ≤ cl n 0 62 ∧ cl n 0 62 ≤ 62 := by simp only [cl]; omega
  have e : (if 62 < (if 0 > n then 0 else n) then 62 else (if 0 > n then 0 else n)) = cl n 0 62 := by
    simp only [cl]; split <;> split <;> omega
  have hp := pow_pos' (cl n 0 62).toNat
  have hp62 : (2 : Int) ^ (cl n 0 62).toNat ≤ 2 ^ 62 := by exact_mod_cast Nat.pow_le_pow_right (n := 2) (by omega) (show (cl n 0 62).toNat ≤ 62 by omega)
  have he := iter_some (round := W.leatref04_Toward_L3 N) (fun z => ∃ i : Nat, z = ((x, (y, (n, ((2 : Int) ^ i, ((i : Int), ()))))), ()) ∧ (i : Int) ≤ cl n 0 62) (fun z => 63 - z.1.2.2.2.2.1.toNat) ((x, (y, ((2 : Int) ^ (cl n 0 62).toNat, ()))), ()) (by
    rintro F z ⟨i, rfl, hi⟩
    simp only [W.leatref04_Toward_L3, e]
    by_cases h : (i : Int) < cl n 0 62
    · left
      have pi : (2 : Int) ^ i ≤ 2 ^ 61 := by exact_mod_cast Nat.pow_le_pow_right (n := 2) (by omega) (show i ≤ 61 by omega)
      have p0 := pow_pos' i
      refine ⟨_, ⟨i + 1, rfl, by omega⟩, by simp; omega, ?_⟩
      rw [bift h, wrapI64 (x := 2 ^ i * 2) (by omega) (by omega), wrapI64 (x := (i : Int) + 1) (by omega) (by omega), Int.pow_succ]
      rfl
    · right
      rw [biff h, show (cl n 0 62).toNat = i by omega]) N ((x, (y, (n, (1, (0, ()))))), ()) ⟨0, rfl, by omega⟩ (by simp; omega)
  simp only [W.leatref04_Toward, he, Option.bind_some]
  rw [leatref01_Sub_eq N hy hx, Option.bind_some, leatref01_Div_eq N (ssub_I y x) ⟨by omega, by omega⟩ hp, Option.bind_some, leatref01_Add_eq N hx (ediv_I (ssub_I y x) hp)]
  rfl

/-- Half of half, so often. -/
def halve (x n : Int) : Int := x / 2 ^ (cl n 0 64).toNat

theorem ediv_pow_succ (x : Int) (i : Nat) : x / 2 ^ i / 2 = x / 2 ^ (i + 1) := by
  have := pow_pos' i
  rw [Int.pow_succ, Int.ediv_ediv, if_neg (fun h => absurd h.1 (by omega)), Int.sub_zero]

theorem fixed_Halve_eq (N : Nat) (x n : Int) (hN : 2000 < N) : W.fixed_Halve N x n = some (halve x n) := by
  have hc : 0 ≤ cl n 0 64 ∧ cl n 0 64 ≤ 64 := by simp only [cl]; omega
  have e : (if 64 < (if 0 > n then 0 else n) then 64 else (if 0 > n then 0 else n)) = cl n 0 64 := by
    simp only [cl]; split <;> split <;> omega
  have he := iter_some (round := W.fixed_Halve_L2 N) (fun z => ∃ i : Nat, z = ((x / 2 ^ i, (cl n 0 64, ((i : Int), ()))), ()) ∧ (i : Int) ≤ cl n 0 64) (fun z => 65 - z.1.2.2.1.toNat) ((x / 2 ^ (cl n 0 64).toNat, ()), ()) (by
    rintro F z ⟨i, rfl, hi⟩
    simp only [W.fixed_Halve_L2]
    by_cases h : (i : Int) < cl n 0 64
    · left
      refine ⟨_, ⟨i + 1, rfl, by omega⟩, by simp; omega, ?_⟩
      rw [bift h, fdiv_pos (by omega), wrapI64 (x := (i : Int) + 1) (by omega) (by omega), ediv_pow_succ]
      rfl
    · right
      rw [biff h, show (cl n 0 64).toNat = i by omega]) N ((x, (cl n 0 64, (0, ()))), ()) ⟨0, by simp, by omega⟩ (by simp; omega)
  simp only [W.fixed_Halve, e, he, Option.bind_some]
  rfl

end Go.Proofs.YtlnbhofiihkpoaaRRR.Pure
