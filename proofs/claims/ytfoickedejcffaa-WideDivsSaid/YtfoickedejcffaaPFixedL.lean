/- Shares in whole numbers: parts, products, roots; the laws. -/
import Derived.Test.YtfoickedejcffaaPFixed
namespace Go.Proofs.Ytfoickedejcffaa.Pure
open Go.Ev Go.RowKit

theorem cls20 (f : Int) : 0 ≤ cl f 0 1048576 ∧ cl f 0 1048576 ≤ 1048576 := by simp only [cl]; omega

/-- A share of a number. -/
def part (x f : Int) : Int := x * cl f 0 1048576 / 1048576

theorem fixed_share_eq (N : Nat) (f : Int) : W.fixed_share N f = some (cl f 0 1048576) := by
  simp only [W.fixed_share, sat_Clamp_eq, Option.bind_some]

theorem leatref04_Share_eq (N : Nat) (f : Int) : W.leatref04_Share N f = some (cl f 0 1048576) := by
  simp only [W.leatref04_Share, cl, Option.some.injEq]
  repeat' split
  all_goals omega

theorem part_arith {x F : Int} : x / 1048576 * F + x % 1048576 * F / 1048576 = x * F / 1048576 := by
  have e := Int.emod_add_mul_ediv x 1048576
  have : x * F = x % 1048576 * F + 1048576 * (x / 1048576 * F) := by
    generalize x / 1048576 = q at *; generalize x % 1048576 = r at *; rw [← e]; grind
  rw [this, Int.add_mul_ediv_left _ _ (by omega)]; omega

theorem part_I {x : Int} (f : Int) (_ : I64 x) : (0 ≤ x → 0 ≤ part x f ∧ part x f ≤ x) ∧ (x ≤ 0 → x ≤ part x f ∧ part x f ≤ 0) := by
  have h := cls20 f
  simp only [part]
  constructor
  · intro h0
    have m := Int.mul_le_mul_of_nonneg_left h.2 h0
    have n := Int.mul_nonneg h0 h.1
    refine ⟨Int.ediv_nonneg n (by omega), ?_⟩
    have := Int.ediv_le_ediv (show (0 : Int) < 1048576 by omega) m
    rwa [Int.mul_ediv_cancel _ (by omega)] at this
  · intro h0
    have m := Int.mul_le_mul_of_nonpos_left h0 h.2
    have n := Int.mul_nonpos_of_nonpos_of_nonneg h0 h.1
    refine ⟨Int.le_ediv_of_mul_le (by omega) m, ?_⟩
    have := Int.ediv_le_ediv (show (0 : Int) < 1048576 by omega) n
    rwa [Int.zero_ediv] at this

theorem part_I64 {x : Int} (f : Int) (hx : I64 x) : I64 (part x f) := by
  have h := part_I f hx
  by_cases h0 : 0 ≤ x
  · have := h.1 h0; exact ⟨by omega, by omega⟩
  · have := h.2 (by omega); exact ⟨by omega, by omega⟩

theorem fixed_Part_eq (N : Nat) {x : Int} (f : Int) (hx : I64 x) : W.fixed_Part N x f = some (part x f) := by
  have h := cls20 f
  have hp := part_I64 f hx
  simp only [W.fixed_Part, fixed_share_eq, sat_Div_eq N hx (show (0 : Int) < 1048576 by omega), sat_Mod_eq N hx (show (0 : Int) < 1048576 by omega) (by omega), Option.bind_some]
  have r := Int.mul_le_mul (show x % 1048576 ≤ 1048575 by omega) h.2 h.1 (by omega : (0 : Int) ≤ 1048575)
  have r0 := Int.mul_nonneg (show 0 ≤ x % 1048576 by omega) h.1
  have w : I64 (x / 1048576 * cl f 0 1048576) := by
    constructor
    · have a := Int.mul_le_mul_of_nonneg_right (show -8796093022208 ≤ x / 1048576 by omega) h.1
      omega
    · have a := Int.mul_le_mul_of_nonneg_right (show x / 1048576 ≤ 8796093022207 by omega) h.1
      omega
  rw [wrapI64 w.1 w.2, wrapI64 (x := x % 1048576 * cl f 0 1048576) (by omega) (by omega), tdiv_nn r0, wrapI64 (x := x % 1048576 * cl f 0 1048576 / 1048576) (by omega) (by omega), part_arith]
  exact congrArg some (wrapI64 hp.1 hp.2)

theorem leatref04_Part_eq (N : Nat) {x : Int} (f : Int) (hx : I64 x) (hN : 2000 < N) : W.leatref04_Part N x f = some (part x f) := by
  have h := cls20 f
  have hp := part_I f hx
  simp only [W.leatref04_Part, leatref04_Share_eq, Option.bind_some]
  simp only [part] at hp ⊢
  generalize cl f 0 1048576 = F at *
  by_cases h0 : 0 ≤ x
  · rw [bift h0, leatref04_quo_eq N hx ⟨by omega, by omega⟩ ⟨by omega, by omega⟩ h0 h.1 (by omega) (by have := hp.1 h0; omega) hN]
    rfl
  · rw [biff h0]
    by_cases hm : x = -9223372036854775808
    · subst hm
      simp only [beq_self_eq_true, cond_true, Option.some.injEq, wrapI64_def]
      omega
    · rw [beq_false_of_ne hm, wrapI64 (x := 0 - x) (by omega) (by omega)]
      have m := leatref02_MulDiv_eq N (a := 0 - x) (b := F) (c := 1048576) ⟨by omega, by omega⟩ ⟨by omega, by omega⟩ ⟨by omega, by omega⟩ true hN
      have hh := hp.2 (by omega)
      have e : (0 - x) * F = - (x * F) := by grind
      simp only [mdv, true_and, e] at m
      rw [if_neg (by omega)] at m
      generalize x * F = P at *
      have key : (if -P % 1048576 ≠ 0 then -P / 1048576 + 1 else -P / 1048576) = - (P / 1048576) := by split <;> omega
      rw [key, if_neg (by omega)] at m
      rw [m]
      simp only [cond_false, Option.bind_some, Option.some.injEq]
      rw [wrapI64 (by omega) (by omega)]; omega

theorem fixed_Mul_eq (N : Nat) (f g : Int) : W.fixed_Mul N f g = some (part (cl f 0 1048576) g) := by
  have h := cls20 f
  simp only [W.fixed_Mul, fixed_share_eq, Option.bind_some, fixed_Part_eq N g (show I64 (cl f 0 1048576) from ⟨by omega, by omega⟩)]

theorem leatref04_Halve_eq (N : Nat) {x : Int} (n : Int) (hx : I64 x) (hN : 2000 < N) : W.leatref04_Halve N x n = some (halve x n) := by
  have he := iter_some (round := W.leatref04_Halve_L2 N) (fun z => ∃ i : Nat, z = ((x / 2 ^ i, (n, ((i : Int), ()))), ()) ∧ (i : Int) ≤ 70 ∧ (i = 0 ∨ (i : Int) ≤ n)) (fun z => 71 - z.1.2.2.1.toNat) ((halve x n, ()), ()) (by
    rintro F z ⟨i, rfl, hi, hn⟩
    have xi := ediv_I hx (pow_pos' i)
    have small : 63 ≤ i → x / 2 ^ i = x / 2 ^ 64 := by
      intro h63
      have hp : (2 : Int) ^ 63 ≤ 2 ^ i := by exact_mod_cast Nat.pow_le_pow_right (n := 2) (by omega) h63
      by_cases h0 : 0 ≤ x
      · rw [Int.ediv_eq_zero_of_lt h0 (by omega), Int.ediv_eq_zero_of_lt h0 (by omega)]
      · have q1 : x / 2 ^ i < 0 := Int.ediv_neg_of_neg_of_pos (by omega) (by omega)
        have q2 : -1 ≤ x / 2 ^ i := Int.le_ediv_of_mul_le (by omega) (by omega)
        omega
    simp only [W.leatref04_Halve_L2]
    by_cases h : (i : Int) < n
    · rw [decide_eq_true h]
      by_cases h7 : (i : Int) < 70
      · left
        refine ⟨_, ⟨i + 1, rfl, by omega, by omega⟩, by simp; omega, ?_⟩
        rw [bift h7, leatref01_Div_eq N xi ⟨by omega, by omega⟩ (by omega), wrapI64 (x := (i : Int) + 1) (by omega) (by omega), ediv_pow_succ]
        rfl
      · right
        rw [biff h7]
        have : cl n 0 64 = 64 := by simp only [cl]; omega
        simp only [halve, this]
        rw [small (by omega)]; rfl
    · right
      rw [decide_eq_false h]
      by_cases h64 : (i : Int) ≤ 64
      · have : (cl n 0 64).toNat = i := by simp only [cl]; omega
        simp only [halve, this]; rfl
      · have : cl n 0 64 = 64 := by simp only [cl]; omega
        simp only [halve, this]
        rw [small (by omega)]; rfl) N ((x, (n, (0, ()))), ()) ⟨0, by simp, by omega, .inl rfl⟩ (by simp; omega)
  simp only [W.leatref04_Halve, he, Option.bind_some]

theorem leatlaw04_works_eq (N : Nat) (hN : 2000 < N) : W.leatlaw04_works N = some true := by
  have i1 : I64 1 := ⟨by omega, by omega⟩
  have i4 : I64 4 := ⟨by omega, by omega⟩
  have i10 : I64 10 := ⟨by omega, by omega⟩
  have i0 : I64 0 := ⟨by omega, by omega⟩
  have i16 : I64 16 := ⟨by omega, by omega⟩
  simp only [W.leatlaw04_works, fixed_Ratio_eq N i1 i4 hN, fixed_Part_eq N _ i10, fixed_Toward_eq N _ i0 i16, Option.bind_some]
  rfl

theorem FixedShares_i (a b f : Int) (ha : I64 a) (hb : I64 b) : W.leatlaw04_FixedShares 3000 a b f = some true := by
  have hN : 2000 < 3000 := by omega
  simp only [W.leatlaw04_FixedShares, fixed_Ratio_eq _ ha hb hN, leatref04_Ratio_eq _ ha hb hN, fixed_Part_eq _ _ ha, leatref04_Part_eq _ _ ha hN, leatlaw04_works_eq _ hN, Option.bind_some, beq_self_eq_true, cond_true]

theorem FixedShares (x : RT [.sc (.int .i64), .sc (.int .i64), .sc (.int .i64)]) (h : RT.wf _ x) : ∃ N, uncR [.sc (.int .i64), .sc (.int .i64), .sc (.int .i64)] (W.leatlaw04_FixedShares N) x = some true := by
  obtain ⟨a, b, f⟩ := x
  exact ⟨3000, FixedShares_i a b f (i64_range h.1) (i64_range h.2.1)⟩

theorem FixedSteps_i (x y n : Int) (hx : I64 x) (hy : I64 y) : W.leatlaw04_FixedSteps 3000 x y n = some true := by
  have hN : 2000 < 3000 := by omega
  simp only [W.leatlaw04_FixedSteps, fixed_Toward_eq _ _ hx hy, leatref04_Toward_eq _ _ hx hy hN, fixed_Halve_eq _ _ _ hN, leatref04_Halve_eq _ _ hx hN, leatlaw04_works_eq _ hN, Option.bind_some, beq_self_eq_true, cond_true]

theorem FixedSteps (x : RT [.sc (.int .i64), .sc (.int .i64), .sc (.int .i64)]) (h : RT.wf _ x) : ∃ N, uncR [.sc (.int .i64), .sc (.int .i64), .sc (.int .i64)] (W.leatlaw04_FixedSteps N) x = some true := by
  obtain ⟨a, b, f⟩ := x
  exact ⟨3000, FixedSteps_i a b f (i64_range h.1) (i64_range h.2.1)⟩

theorem part_mono {x f g : Int} (hx : 0 ≤ x) (h : f ≤ g) : part x f ≤ part x g := by
  have : cl f 0 1048576 ≤ cl g 0 1048576 := by simp only [cl]; omega
  exact Int.ediv_le_ediv (by omega) (Int.mul_le_mul_of_nonneg_left this hx)

theorem toward_between {x y : Int} (n : Int) (hx : I64 x) (hy : I64 y) : min x y ≤ toward x y n ∧ toward x y n ≤ max x y := by
  have hp := pow_pos' (cl n 0 62).toNat
  simp only [toward]
  generalize (2 : Int) ^ (cl n 0 62).toNat = P at *
  have hd : (0 ≤ ssub y x → 0 ≤ ssub y x / P ∧ ssub y x / P ≤ ssub y x) ∧ (ssub y x ≤ 0 → ssub y x ≤ ssub y x / P ∧ ssub y x / P ≤ 0) := by
    constructor
    · intro h; exact ⟨Int.ediv_nonneg h (by omega), Int.ediv_le_self P h⟩
    · intro h
      refine ⟨Int.le_ediv_of_mul_le hp ?_, ?_⟩
      · have := Int.mul_le_mul_of_nonpos_left h (show 1 ≤ P by omega); omega
      · have := Int.ediv_le_ediv hp h; rwa [Int.zero_ediv] at this
  simp only [sadd, ssub, cl] at *
  omega

theorem FixedBetween_i (x a b n : Int) (hx : I64 x) (ha : I64 a) : W.leatlaw04_FixedBetween 3000 x (a, b) n = some true := by
  have hN : 2000 < 3000 := by omega
  have t := toward_between n hx ha
  have e3 : (if a < x then a else x) = min x a := by split <;> omega
  have e4 : (if a > x then a else x) = max x a := by split <;> omega
  have fin : (bif decide (min x a ≤ toward x a n) == true then bif decide (toward x a n ≤ max x a) == true then some true else some false else some false) = some true := by
    rw [decide_eq_true t.1, decide_eq_true t.2]; rfl
  simp only [W.leatlaw04_FixedBetween, fixed_Part_eq _ _ hx, fixed_Toward_eq _ _ hx ha, leatlaw04_works_eq _ hN, Option.bind_some, e3, e4, fin]
  by_cases h0 : 0 ≤ x
  · have p1 := (part_I (if b < a then b else a) hx).1 h0
    have p2 := (part_I (if b > a then b else a) hx).1 h0
    have p3 := part_mono h0 (show (if b < a then b else a) ≤ (if b > a then b else a) by split <;> split <;> omega)
    rw [decide_eq_true h0, decide_eq_false (by omega), decide_eq_false (by omega), decide_eq_false (by omega)]; rfl
  · rw [decide_eq_false h0]; rfl

theorem FixedBetween (x : RT [.sc (.int .i64), .agg [.int .i64, .int .i64], .sc (.int .i64)]) (h : RT.wf _ x) : ∃ N, uncR [.sc (.int .i64), .agg [.int .i64, .int .i64], .sc (.int .i64)] (W.leatlaw04_FixedBetween N) x = some true := by
  obtain ⟨x, ⟨a, b⟩, n⟩ := x
  exact ⟨3000, FixedBetween_i x a b n (i64_range h.1) (i64_range h.2.1.1)⟩

/-- A root: its square is not above the number, that of one more is. -/
def IsRoot (r V : Int) : Prop := 0 ≤ r ∧ r * r ≤ V ∧ V < (r + 1) * (r + 1)

theorem IsRoot.uniq {r s V : Int} (h : IsRoot r V) (g : IsRoot s V) : r = s := by
  obtain ⟨h0, h1, h2⟩ := h
  obtain ⟨g0, g1, g2⟩ := g
  rcases Int.lt_trichotomy r s with c | c | c
  · have := Int.mul_le_mul (show r + 1 ≤ s by omega) (show r + 1 ≤ s by omega) (by omega) g0; omega
  · exact c
  · have := Int.mul_le_mul (show s + 1 ≤ r by omega) (show s + 1 ≤ r by omega) (by omega) h0; omega

theorem or_bit {k : Int} (i : Nat) (hk : 0 ≤ k) (hi : i ≤ 63) (hd : k * 2 ^ (i + 1) < 18446744073709551616) : bits .or .u64 (k * 2 ^ (i + 1)) (2 ^ i) = k * 2 ^ (i + 1) + 2 ^ i :=
  or_add (i + 1) hk (Int.le_of_lt (pow_pos' i)) (by rw [Int.pow_succ]; have := pow_pos' i; omega) (by omega) hd

theorem wide_Root_eq (N : Nat) {x : Int × Int} (h1 : U64 x.1) (h2 : U64 x.2) (hN : 2000 < N) : ∃ r, W.wide_Root N x = some r ∧ IsRoot r (wv x) ∧ r ≤ 18446744073709551615 := by
  have hV : 0 ≤ wv x ∧ wv x < 340282366920938463463374607431768211456 := by simp only [wv]; omega
  obtain ⟨y, ⟨r, rfl, hr, hb⟩, he⟩ := iter_done (round := W.wide_Root_L3 N) (fun z => ∃ (i : Nat) (k : Int), z = ((k * 2 ^ i, ((i : Int) - 1, ())), ((x.1, (x.2, ())), ())) ∧ i ≤ 64 ∧ 0 ≤ k ∧ k * 2 ^ i < 18446744073709551616 ∧ (k + 1) * 2 ^ i ≤ 18446744073709551616 ∧ k * 2 ^ i * (k * 2 ^ i) ≤ wv x ∧ wv x < (k + 1) * 2 ^ i * ((k + 1) * 2 ^ i)) (fun z => (z.1.2.1 + 1).toNat)
    (fun y => ∃ r, y = ((r, ()), ()) ∧ IsRoot r (wv x) ∧ r ≤ 18446744073709551615) (by
      rintro F z ⟨i, k, rfl, hi, hk, hlt, hle, hlo, hhi⟩
      cases i with
      | zero =>
        right
        refine ⟨_, ⟨k * 2 ^ 0, rfl, ⟨by simpa using hk, hlo, by simpa using hhi⟩, by omega⟩, ?_⟩
        simp only [W.wide_Root_L3]; rw [biff (by simp)]
      | succ i =>
        left
        have e6 : (((i + 1 : Nat) : Int) - 1) = (i : Int) := by omega
        have hp := pow_pos' i
        have pm : (2 : Int) ^ i ≤ 2 ^ 63 := by exact_mod_cast Nat.pow_le_pow_right (n := 2) (by omega) (show i ≤ 63 by omega)
        have e5 := wrapI64 (x := (i : Int) - 1) (by omega) (by omega)
        have e7 := wrapU64 (x := (2 : Int) ^ i) (by omega) (by omega)
        have em : min (i : Nat) 64 = i := by omega
        have eb := or_bit i hk (by omega) hlt
        have s1 : k * 2 ^ (i + 1) = 2 * k * 2 ^ i := by rw [Int.pow_succ]; grind
        have s2 : (k + 1) * 2 ^ (i + 1) = (2 * k + 2) * 2 ^ i := by rw [Int.pow_succ]; grind
        have s3 : k * 2 ^ (i + 1) + 2 ^ i = (2 * k + 1) * 2 ^ i := by rw [s1]; grind
        have s4 : (2 * k + 2) * 2 ^ i = (2 * k + 1) * 2 ^ i + 2 ^ i := by grind
        rw [s2] at hle hhi
        have mU : U64 ((2 * k + 1) * 2 ^ i) := ⟨Int.mul_nonneg (by omega) (by omega), by omega⟩
        have mm := wide_Mul_eq N mU mU
        have m2 := Int.mul_le_mul mU.2 mU.2 mU.1 (by omega : (0 : Int) ≤ 18446744073709551615)
        have m0 := Int.mul_nonneg mU.1 mU.1
        have c := wide_Cmp_val N (x := ((2 * k + 1) * 2 ^ i * ((2 * k + 1) * 2 ^ i) / 18446744073709551616, (2 * k + 1) * 2 ^ i * ((2 * k + 1) * 2 ^ i) % 18446744073709551616)) (y := (x.1, x.2)) ⟨by simp only; omega, by simp only; omega⟩ h2 (by omega)
        have ev : wv ((2 * k + 1) * 2 ^ i * ((2 * k + 1) * 2 ^ i) / 18446744073709551616, (2 * k + 1) * 2 ^ i * ((2 * k + 1) * 2 ^ i) % 18446744073709551616) = (2 * k + 1) * 2 ^ i * ((2 * k + 1) * 2 ^ i) := by simp only [wv]; omega
        rw [ev] at c
        have c0 : ((0 : Int) ≤ (i : Int)) = True := eq_true (by omega)
        have c1 : ((i : Int) < 0) = False := eq_false (by omega)
        have ex : wv (x.1, x.2) = wv x := rfl
        rw [ex] at c
        have round : ∀ G, W.wide_Root_L3 N G ((k * 2 ^ (i + 1), (((i + 1 : Nat) : Int) - 1, ())), ((x.1, (x.2, ())), ())) = if (2 * k + 1) * 2 ^ i * ((2 * k + 1) * 2 ^ i) ≤ wv x then G (((2 * k + 1) * 2 ^ i, ((i : Int) - 1, ())), ((x.1, (x.2, ())), ())) else G ((2 * k * 2 ^ i, ((i : Int) - 1, ())), ((x.1, (x.2, ())), ())) := by
          intro G
          simp only [W.wide_Root_L3, e6, e5, Int.toNat_natCast, em, e7, Int.one_mul, eb, c0, c1, decide_true, decide_false, Bool.not_false, cond_true]
          simp only [s3, mm, c, Option.bind_some]
          by_cases hc : (2 * k + 1) * 2 ^ i * ((2 * k + 1) * 2 ^ i) ≤ wv x
          · rw [if_pos hc, bift (by split <;> (try split) <;> omega)]
          · rw [if_neg hc, biff (by split <;> (try split) <;> omega), s1]
        by_cases hc : (2 * k + 1) * 2 ^ i * ((2 * k + 1) * 2 ^ i) ≤ wv x
        · refine ⟨_, ⟨i, 2 * k + 1, rfl, by omega, by omega, by omega, ?_, hc, ?_⟩, ?_, by rw [round, if_pos hc]⟩
          · rw [show 2 * k + 1 + 1 = 2 * k + 2 by omega]; exact hle
          · rw [show 2 * k + 1 + 1 = 2 * k + 2 by omega]; exact hhi
          · simp only []; omega
        · refine ⟨_, ⟨i, 2 * k, rfl, by omega, by omega, by omega, by omega, ?_, by omega⟩, ?_, by rw [round, if_neg hc]⟩
          · rw [← s1]; exact hlo
          · simp only []; omega) N ((0, (63, ())), ((x.1, (x.2, ())), ())) ⟨64, 0, rfl, by omega, by omega, by omega, by omega, by simpa using hV.1, by simpa using hV.2⟩ (by simp; omega)
  exact ⟨r, by simp only [W.wide_Root, he, Option.bind_some], hr, hb⟩

theorem leatref04_Root_eq (N : Nat) (f : Int) (hN : 2000000 < N) : ∃ r, W.leatref04_Root N f = some r ∧ IsRoot r (cl f 0 1048576 * 1048576) := by
  have h := cls20 f
  generalize hF : cl f 0 1048576 = F at *
  obtain ⟨y, ⟨r, rfl, hr⟩, he⟩ := iter_done (round := W.leatref04_Root_L3 N) (fun z => ∃ (lo hi : Int), z = ((F, (lo, (hi, ()))), ()) ∧ 0 ≤ lo ∧ lo ≤ hi ∧ hi ≤ 1048576 ∧ lo * lo ≤ F * 1048576 ∧ F * 1048576 < (hi + 1) * (hi + 1)) (fun z => (z.1.2.2.1 - z.1.2.1).toNat)
    (fun y => ∃ r, y = ((r, ()), ()) ∧ IsRoot r (F * 1048576)) (by
      rintro G z ⟨lo, hi, rfl, h0, h1, h2, h3, h4⟩
      by_cases hlt : lo < hi
      · left
        have w1 := wrapI64 (x := lo + hi) (by omega) (by omega)
        have w2 := wrapI64 (x := lo + hi + 1) (by omega) (by omega)
        have w3 : (lo + hi + 1).tdiv 2 = (lo + hi + 1) / 2 := tdiv_nn (by omega)
        have w4 := wrapI64 (x := (lo + hi + 1) / 2) (by omega) (by omega)
        have w5 := wrapI64 (x := F * 1048576) (by omega) (by omega)
        have hm : lo < (lo + hi + 1) / 2 ∧ (lo + hi + 1) / 2 ≤ hi := by omega
        have m2 := Int.mul_le_mul (show (lo + hi + 1) / 2 ≤ 1048576 by omega) (show (lo + hi + 1) / 2 ≤ 1048576 by omega) (by omega) (by omega : (0 : Int) ≤ 1048576)
        have m0 := Int.mul_nonneg (show 0 ≤ (lo + hi + 1) / 2 by omega) (show 0 ≤ (lo + hi + 1) / 2 by omega)
        have w6 := wrapI64 (x := (lo + hi + 1) / 2 * ((lo + hi + 1) / 2)) (by omega) (by omega)
        have w7 := wrapI64 (x := (lo + hi + 1) / 2 - 1) (by omega) (by omega)
        simp only [W.leatref04_Root_L3, w1, w2, w3, w4, w5, w6, w7]
        generalize (lo + hi + 1) / 2 = m at *
        by_cases hc : m * m ≤ F * 1048576
        · exact ⟨_, ⟨m, hi, rfl, by omega, by omega, h2, hc, h4⟩, by simp only []; omega, by rw [bift hlt, bift hc]⟩
        · refine ⟨_, ⟨lo, m - 1, rfl, by omega, by omega, by omega, h3, ?_⟩, by simp only []; omega, by rw [bift hlt, biff hc]⟩
          rw [show m - 1 + 1 = m by omega]; omega
      · right
        obtain rfl : lo = hi := by omega
        exact ⟨_, ⟨lo, rfl, h0, h3, h4⟩, by simp only [W.leatref04_Root_L3]; rw [biff (by omega)]⟩) N ((F, (0, (1048576, ()))), ()) ⟨0, 1048576, rfl, by omega, by omega, by omega, by omega, by omega⟩ (by simp; omega)
  refine ⟨r, ?_, hr⟩
  simp only [W.leatref04_Root, leatref04_Share_eq, hF, Option.bind_some, he]

theorem fixed_Root_eq (N : Nat) (f : Int) (hN : 2000 < N) : ∃ r, W.fixed_Root N f = some r ∧ IsRoot r (cl f 0 1048576 * 1048576) := by
  have h := cls20 f
  have w1 := wrapU64 (x := cl f 0 1048576) (by omega) (by omega)
  have w2 := wrapU64 (x := cl f 0 1048576 * 1048576) (by omega) (by omega)
  obtain ⟨r, h1, h2, h3⟩ := wide_Root_eq N (x := (0, cl f 0 1048576 * 1048576)) ⟨by simp only; omega, by simp only; omega⟩ ⟨by simp only; omega, by simp only; omega⟩ hN
  have ev : wv (0, cl f 0 1048576 * 1048576) = cl f 0 1048576 * 1048576 := by simp [wv]
  rw [ev] at h2
  refine ⟨r, ?_, h2⟩
  have : r ≤ 1048576 := by
    obtain ⟨g0, g1, g2⟩ := h2
    apply Int.not_lt.1
    intro hh
    have := Int.mul_le_mul (show 1048577 ≤ r by omega) (show 1048577 ≤ r by omega) (by omega) g0
    omega
  simp only [W.fixed_Root, fixed_share_eq, w1, w2, h1, Option.bind_some]
  rw [wrapI64 (by have := h2.1; omega) (by omega)]

theorem FixedMuls_i (f g : Int) : W.leatlaw04_FixedMuls 3000000 f g = some true := by
  have hN : 2000 < 3000000 := by omega
  have h := cls20 f
  obtain ⟨r, r1, r2⟩ := fixed_Root_eq 3000000 f hN
  obtain ⟨s, s1, s2⟩ := leatref04_Root_eq 3000000 f (by omega)
  obtain rfl := r2.uniq s2
  simp only [W.leatlaw04_FixedMuls, fixed_Mul_eq, leatref04_Share_eq, leatref04_Part_eq _ g (show I64 (cl f 0 1048576) from ⟨by omega, by omega⟩) hN, r1, s1, leatlaw04_works_eq _ hN, Option.bind_some, beq_self_eq_true, cond_true]

theorem FixedMuls (x : RT [.sc (.int .i64), .sc (.int .i64)]) (_ : RT.wf _ x) : ∃ N, uncR [.sc (.int .i64), .sc (.int .i64)] (W.leatlaw04_FixedMuls N) x = some true := by
  obtain ⟨a, b⟩ := x
  exact ⟨3000000, FixedMuls_i a b⟩

end Go.Proofs.Ytfoickedejcffaa.Pure
