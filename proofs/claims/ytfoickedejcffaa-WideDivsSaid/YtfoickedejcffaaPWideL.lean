/- Wide numbers: the laws. -/
import Derived.Test.YtfoickedejcffaaPFixedL
namespace Go.Proofs.Ytfoickedejcffaa.Pure
open Go.Ev Go.RowKit

theorem wide_Add_eq (N : Nat) {x y : Int × Int} (x1 : U64 x.1) (x2 : U64 x.2) (y1 : U64 y.1) (y2 : U64 y.2) :
    W.wide_Add N x y = some (((wv x + wv y) / 18446744073709551616 % 18446744073709551616, (wv x + wv y) % 18446744073709551616), decide (340282366920938463463374607431768211456 ≤ wv x + wv y)) := by
  have e1 : W.bits_Add64 N x.2 y.2 0 = some ((x.2 + y.2) % 18446744073709551616, (x.2 + y.2) / 18446744073709551616) := by
    simp only [W.bits_Add64, add64]
    rw [decide_eq_true x2.1, decide_eq_true y2.1]
    simp
  have e2 : W.bits_Add64 N x.1 y.1 ((x.2 + y.2) / 18446744073709551616) = some ((x.1 + y.1 + (x.2 + y.2) / 18446744073709551616) % 18446744073709551616, (x.1 + y.1 + (x.2 + y.2) / 18446744073709551616) / 18446744073709551616) := by
    simp only [W.bits_Add64, add64]
    rw [decide_eq_true x1.1, decide_eq_true y1.1, decide_eq_true (show 0 ≤ (x.2 + y.2) / 18446744073709551616 by omega), decide_eq_true (show (x.2 + y.2) / 18446744073709551616 ≤ 1 by omega)]
    rfl
  simp only [W.wide_Add, e1, e2, Option.bind_some, wv, Option.some.injEq, Prod.mk.injEq]
  refine ⟨⟨by omega, by omega⟩, ?_⟩
  exact decide_eq_decide.2 (by omega)

theorem leatlaw02_bits_eq (N : Nat) {x : Int × Int} (x1 : U64 x.1) (x2 : U64 x.2) (hN : 2000 < N) : ∃ l, W.leatlaw02_bits N x = some l ∧ Bt l ∧ l.length = 128 ∧ nv l = wv x := by
  obtain ⟨l, a1, a2, a3, a4⟩ := leatref02_Bits_eq N x2 (k := 64) (by omega) (by omega)
  obtain ⟨h, b1, b2, b3, b4⟩ := leatref02_Bits_eq N x1 (k := 64) (by omega) (by omega)
  have a1' : W.leatref02_Bits N x.2 64 = some l := a1
  have b1' : W.leatref02_Bits N x.1 64 = some h := b1
  have c : ((l.length + h.length) * 8 : Nat) ≤ 140737488355328 := by omega
  refine ⟨l ++ h, ?_, a2.app b2, by simp [a3, b3], ?_⟩
  · simp only [W.leatlaw02_bits, W.leatref02_Wide, a1', b1', Option.bind_some, c, decide_true, cond_true]
  · rw [nv_app, a4, b4, a3, Int.emod_eq_of_lt x2.1 (by omega), Int.emod_eq_of_lt x1.1 (by omega)]
    simp only [wv]; omega

theorem bits_of (N : Nat) {n : Int} (h : U64 n) (hN : 2000 < N) : ∃ l, W.leatref02_Bits N n 64 = some l ∧ Bt l ∧ l.length = 64 ∧ nv l = n := by
  obtain ⟨l, a1, a2, a3, a4⟩ := leatref02_Bits_eq N h (k := 64) (by omega) (by omega)
  exact ⟨l, a1, a2, a3, by rw [a4]; exact Int.emod_eq_of_lt h.1 (by omega)⟩

theorem wide_MulDivUp_eq (N : Nat) {a b c : Int} (ha : I64 a) (hb : I64 b) (hc : I64 c) (hN : 2000 < N) : W.wide_MulDivUp N a b c = some (mdv a b c true) := by
  obtain ⟨q, m, h1, h3, h2⟩ := wide_muldiv_eq N ha hb hc hN
  simp only [W.wide_MulDivUp, h1, Option.bind_some, mdv]
  by_cases h : a < 0 ∨ b < 0 ∨ c ≤ 0
  · rw [if_pos h, if_pos h, h3 h]; simp [W.wide_told]
  · obtain ⟨q1, q2, q3, q4⟩ := h2 h
    have hab := Int_mul_I ⟨by omega, ha.2⟩ ⟨by omega, hb.2⟩
    have hq0 := Int.ediv_nonneg hab.1 (show 0 ≤ c by omega)
    have hq1 := Int.ediv_le_self c hab.1
    rw [if_neg h, if_neg h, q4]
    by_cases hr : a * b % c = 0
    · rw [decide_eq_false (fun x => x hr), cond_false, wide_told_eq N 0 q1.1 q2 (by omega), q3]
      simp [hr]
    · have ho : wv (0, 1) = 1 := rfl
      rw [decide_eq_true hr, cond_true, wide_Add_eq N q1 q2 (y := (0, 1)) ⟨by simp only; omega, by simp only; omega⟩ ⟨by simp only; omega, by simp only; omega⟩, Option.bind_some, ho, q3]
      rw [wide_told_eq N 0 (by simp only; omega) ⟨by simp only; omega, by simp only; omega⟩ (by omega)]
      have e : wv ((a * b / c + 1) / 18446744073709551616 % 18446744073709551616, (a * b / c + 1) % 18446744073709551616) = a * b / c + 1 := by simp only [wv]; omega
      rw [e]
      simp [hr]

theorem leatlaw02_works_eq (N : Nat) (hN : 2000 < N) : W.leatlaw02_works N = some true := by
  have i7 : I64 7 := ⟨by omega, by omega⟩
  have i5 : I64 5 := ⟨by omega, by omega⟩
  have i3 : I64 3 := ⟨by omega, by omega⟩
  simp only [W.leatlaw02_works, wide_MulDiv_eq N i7 i5 i3 hN, wide_MulDivUp_eq N i7 i5 i3 hN, Option.bind_some]
  rfl

theorem WideMulDivs_i (a b c : Int) (ha : I64 a) (hb : I64 b) (hc : I64 c) : W.leatlaw02_WideMulDivs 3000 a b c = some true := by
  have hN : 2000 < 3000 := by omega
  simp only [W.leatlaw02_WideMulDivs, wide_MulDiv_eq _ ha hb hc hN, wide_MulDivUp_eq _ ha hb hc hN, leatref02_MulDiv_eq _ ha hb hc _ hN, leatlaw02_works_eq _ hN, Option.bind_some, beq_self_eq_true, cond_true]

theorem WideMulDivs (x : RT [.sc (.int .i64), .sc (.int .i64), .sc (.int .i64)]) (h : RT.wf _ x) : ∃ N, uncR [.sc (.int .i64), .sc (.int .i64), .sc (.int .i64)] (W.leatlaw02_WideMulDivs N) x = some true := by
  obtain ⟨a, b, c⟩ := x
  exact ⟨3000, WideMulDivs_i a b c (i64_range h.1) (i64_range h.2.1) (i64_range h.2.2)⟩

theorem quo_U {a b : Int} (ha : U64 a) (hb : 0 < b) : U64 (a / b) := by
  have := Int.ediv_nonneg ha.1 (show 0 ≤ b by omega)
  have := Int.ediv_le_self b ha.1
  exact ⟨by omega, by omega⟩

theorem mul_U {a b : Int} (ha : U64 a) (hb : U64 b) : 0 ≤ a * b ∧ a * b ≤ 340282366920938463426481119284349108225 := by
  have := Int.mul_le_mul ha.2 hb.2 hb.1 (by omega : (0 : Int) ≤ 18446744073709551615)
  exact ⟨Int.mul_nonneg ha.1 hb.1, by omega⟩

/-- The parts of a long quotient. -/
theorem quo_parts {h l b : Int} (hh : U64 h) (hl : U64 l) (hb : U64 b) (h0 : 0 < b) :
    U64 (h / b) ∧ U64 ((h % b * 18446744073709551616 + l) / b) ∧ h / b * 18446744073709551616 + (h % b * 18446744073709551616 + l) / b = (h * 18446744073709551616 + l) / b ∧ (h * 18446744073709551616 + l) % b = (h % b * 18446744073709551616 + l) % b := by
  have m0 := Int.emod_nonneg h (show b ≠ 0 by omega)
  have m1 := Int.emod_lt_of_pos h h0
  have e := Int.emod_add_mul_ediv h b
  have : h * 18446744073709551616 + l = (h % b * 18446744073709551616 + l) + b * (h / b * 18446744073709551616) := by
    generalize h / b = q at *; generalize h % b = r at *; rw [← e]; grind
  refine ⟨quo_U hh h0, ⟨Int.ediv_nonneg (by omega) (by omega), ?_⟩, ?_, ?_⟩
  · have : (h % b * 18446744073709551616 + l) / b < 18446744073709551616 := Int.ediv_lt_of_lt_mul h0 (by omega)
    omega
  · rw [this, Int.add_mul_ediv_left _ _ (by omega)]; omega
  · rw [this, Int.add_mul_emod_self_left]

theorem WideBack_i (N : Nat) (hN : 2000 < N) (a b : Int) (x : Int × Int) (ha : U64 a) (hb : U64 b) (x1 : U64 x.1) (x2 : U64 x.2) : W.leatlaw02_WideBack N a b x = some true := by
  simp only [W.leatlaw02_WideBack, leatlaw02_works_eq _ hN, Option.bind_some]
  by_cases h0 : b = 0
  · rw [h0]; rfl
  rw [beq_false_of_ne h0]
  have hb0 : 0 < b := by omega
  have hab := mul_U ha hb
  have pU : U64 (a * b / 18446744073709551616) := ⟨by omega, by omega⟩
  have pU2 : U64 (a * b % 18446744073709551616) := ⟨by omega, by omega⟩
  obtain ⟨k1, k2, k3, k4⟩ := quo_parts x1 x2 hb hb0
  have m0 := Int.emod_nonneg x.1 (show b ≠ 0 by omega)
  have m1 := Int.emod_lt_of_pos x.1 hb0
  have r0 := Int.emod_nonneg (x.1 * 18446744073709551616 + x.2) (show b ≠ 0 by omega)
  have r1 := Int.emod_lt_of_pos (x.1 * 18446744073709551616 + x.2) hb0
  have eD := Int.emod_add_mul_ediv (x.1 % b * 18446744073709551616 + x.2) b
  have eH := Int.emod_add_mul_ediv x.1 b
  rw [wide_Mul_eq _ ha hb, Option.bind_some, wide_Div_eq N (x := (a * b / 18446744073709551616, a * b % 18446744073709551616)) pU pU2 hb hb0 hN, Option.bind_some, wide_Div_eq N x1 x2 hb hb0 hN, Option.bind_some]
  simp only []
  rw [k4] at r0 r1 ⊢
  rw [wide_Mul_eq _ k2 hb, Option.bind_some, wide_Mul_eq _ k1 hb, Option.bind_some]
  -- the quotient of the product
  have q1 : a * b / 18446744073709551616 / b = 0 := by
    have : a * b / 18446744073709551616 < b := Int.ediv_lt_of_lt_mul (by omega) (by rw [Int.mul_comm]; exact Int.mul_lt_mul_of_pos_left (by omega) hb0)
    exact Int.ediv_eq_zero_of_lt (by omega) this
  have q2 : a * b / 18446744073709551616 % b = a * b / 18446744073709551616 := by
    have e := Int.emod_add_mul_ediv (a * b / 18446744073709551616) b
    rw [q1] at e; omega
  have q3 : a * b / 18446744073709551616 * 18446744073709551616 + a * b % 18446744073709551616 = a * b := by omega
  rw [q1, q2, q3, Int.mul_ediv_cancel _ h0, Int.mul_emod_left]
  -- back from the quotient
  generalize hK2 : (x.1 % b * 18446744073709551616 + x.2) / b = K2 at *
  generalize hK1 : x.1 / b = K1 at *
  generalize hR : (x.1 % b * 18446744073709551616 + x.2) % b = R at *
  have c2 : K2 * b = b * K2 := Int.mul_comm ..
  have c1 : K1 * b = b * K1 := Int.mul_comm ..
  have b2 := mul_U k2 hb
  have b1 : 0 ≤ K1 * b := Int.mul_nonneg k1.1 hb.1
  have d1 : K1 * b / 18446744073709551616 = 0 := by omega
  have d2 : K1 * b % 18446744073709551616 = K1 * b := by omega
  rw [d1, d2]
  have s := wide_Add_eq N (x := (K2 * b / 18446744073709551616, K2 * b % 18446744073709551616)) (y := (0, R)) ⟨by simp only; omega, by simp only; omega⟩ ⟨by simp only; omega, by simp only; omega⟩ ⟨by simp only; omega, by simp only; omega⟩ ⟨by simp only; omega, by simp only; omega⟩
  have es : wv (K2 * b / 18446744073709551616, K2 * b % 18446744073709551616) + wv (0, R) = x.1 % b * 18446744073709551616 + x.2 := by simp only [wv]; omega
  rw [es] at s
  rw [s, Option.bind_some]
  simp only []
  have t := wide_Add_eq N (x := ((x.1 % b * 18446744073709551616 + x.2) / 18446744073709551616 % 18446744073709551616, (x.1 % b * 18446744073709551616 + x.2) % 18446744073709551616)) (y := (K1 * b, 0)) ⟨by simp only; omega, by simp only; omega⟩ ⟨by simp only; omega, by simp only; omega⟩ ⟨by simp only; omega, by simp only; omega⟩ ⟨by simp only; omega, by simp only; omega⟩
  have et : wv ((x.1 % b * 18446744073709551616 + x.2) / 18446744073709551616 % 18446744073709551616, (x.1 % b * 18446744073709551616 + x.2) % 18446744073709551616) + wv (K1 * b, 0) = x.1 * 18446744073709551616 + x.2 := by simp only [wv]; omega
  rw [et] at t
  rw [t, Option.bind_some]
  rw [decide_eq_true r1, decide_eq_false (show ¬ 340282366920938463463374607431768211456 ≤ x.1 % b * 18446744073709551616 + x.2 by omega), decide_eq_false (show ¬ 340282366920938463463374607431768211456 ≤ x.1 * 18446744073709551616 + x.2 by omega)]
  rw [show (x.1 * 18446744073709551616 + x.2) / 18446744073709551616 % 18446744073709551616 = x.1 by omega, show (x.1 * 18446744073709551616 + x.2) % 18446744073709551616 = x.2 by omega]
  simp

theorem WideBack (x : RT [.sc (.int .u64), .sc (.int .u64), .agg [.int .u64, .int .u64]]) (h : RT.wf _ x) : ∃ N, uncR [.sc (.int .u64), .sc (.int .u64), .agg [.int .u64, .int .u64]] (W.leatlaw02_WideBack N) x = some true := by
  obtain ⟨a, b, c⟩ := x
  exact ⟨3000, WideBack_i 3000 (by omega) a b c (u64_range h.1) (u64_range h.2.1) (u64_range h.2.2.1) (u64_range h.2.2.2)⟩

theorem WideDivs_i (N : Nat) (hN : 2000 < N) (x : Int × Int) (d : Int) (x1 : U64 x.1) (x2 : U64 x.2) (hd : U64 d) : W.leatlaw02_WideDivs N x d = some true := by
  obtain ⟨r, r1, ⟨r0, r2, r3⟩, rb⟩ := wide_Root_eq N x1 x2 hN
  obtain ⟨l, l1, l2, l3, l4⟩ := bits_of N (n := r) ⟨r0, rb⟩ hN
  obtain ⟨u, u1, u2, u3, u4⟩ := leatref02_Add_eq N l2 (Bt.one (x := 1) (.inr rfl)) (by omega) (by simp) hN
  obtain ⟨p, p1, p2, p3, p4⟩ := leatref02_Mul_eq N l2 l2 (by omega) (by omega) hN
  obtain ⟨v, v1, v2, v3, v4⟩ := leatlaw02_bits_eq N x1 x2 hN
  have u3' : u.length = 65 := by rw [u3]; simp [l3]
  obtain ⟨w, w1, w2, w3, w4⟩ := leatref02_Mul_eq N u2 u2 (by omega) (by omega) hN
  have c1 := leatref02_Cmp_eq N p2 v2 (by omega) (by omega) hN
  have c2 := leatref02_Cmp_eq N w2 v2 (by omega) (by omega) hN
  simp only [nv, Int.mul_zero, Int.add_zero, l4] at u4
  rw [p4, v4, l4] at c1
  rw [w4, v4, u4] at c2
  rw [if_neg (show ¬ wv x < r * r by omega)] at c1
  rw [if_neg (show ¬ (r + 1) * (r + 1) < wv x by omega), if_pos r3] at c2
  have hdiv : ∀ q, W.wide_Div N x d = some q → W.leatlaw02_WideDivs N x d = (bif (d == 0) then
      bif (((q.1.1 == 0) && ((q.1.2 == 0) && true)) == true) then
        bif ((q.2 == 0) == true) then some true else some false
      else some false
    else
      (W.leatref02_Bits N d 64).bind fun r14 =>
      (W.leatref02_Div N v r14).bind fun r15 =>
      (W.leatlaw02_bits N q.1).bind fun r16 =>
      (W.leatref02_Cmp N r16 r15.1).bind fun r17 =>
      bif ((r17 == 0) == true) then
        (W.leatref02_Num N r15.2 0).bind fun r18 =>
        bif ((r18 == q.2) == true) then some true else some false
      else some false) := by
    intro q hq
    simp only [W.leatlaw02_WideDivs, hq, r1, l1, u1, p1, v1, c1, w1, c2, leatlaw02_works_eq _ hN, Option.bind_some]
    rw [decide_eq_false (show ¬ (0 : Int) < (if r * r < wv x then -1 else 0) by split <;> omega)]
    rfl
  by_cases h0 : d = 0
  · rw [hdiv ((0, 0), 0) (by rw [h0]; rfl), h0]; rfl
  · have hd0 : 0 < d := by omega
    obtain ⟨k1, k2, k3, k4⟩ := quo_parts x1 x2 hd hd0
    rw [hdiv _ (wide_Div_eq N x1 x2 hd hd0 hN), beq_false_of_ne h0]
    obtain ⟨dl, d1, d2, d3, d4⟩ := bits_of N hd hN
    obtain ⟨q, m, e1, e2, e3, e4, e5, e6, e7⟩ := leatref02_Div_eq N v2 d2 (by omega) (by omega) (by omega) hN
    obtain ⟨z, z1, z2, z3, z4⟩ := leatlaw02_bits_eq N (x := (x.1 / d, (x.1 % d * 18446744073709551616 + x.2) / d)) k1 k2 hN
    have c3 := leatref02_Cmp_eq N z2 e2 (by omega) (by omega) hN
    have ez : nv z = nv q := by rw [z4, e6, v4, d4]; exact k3
    rw [if_neg (by omega), if_neg (by omega)] at c3
    have n1 := leatref02_Num_eq N e3 (m := 0) (by omega) hN
    have rlt : nv m < 2 ^ 64 := by rw [e7, d4]; have := Int.emod_lt_of_pos (nv v) hd0; omega
    rw [List.drop_zero, nv_low e3 rlt, e7, v4, d4] at n1
    have n1' : W.leatref02_Num N m 0 = some (wv x % d) := n1
    simp only [cond_false, d1, e1, z1, c3, n1', Option.bind_some]
    have : wv x % d = (x.1 * 18446744073709551616 + x.2) % d := rfl
    rw [this]
    simp

theorem WideDivs (x : RT [.agg [.int .u64, .int .u64], .sc (.int .u64)]) (h : RT.wf _ x) : ∃ N, uncR [.agg [.int .u64, .int .u64], .sc (.int .u64)] (W.leatlaw02_WideDivs N) x = some true := by
  obtain ⟨a, d⟩ := x
  exact ⟨3000, WideDivs_i 3000 (by omega) a d (u64_range h.1.1) (u64_range h.1.2) (u64_range h.2)⟩

end Go.Proofs.Ytfoickedejcffaa.Pure
