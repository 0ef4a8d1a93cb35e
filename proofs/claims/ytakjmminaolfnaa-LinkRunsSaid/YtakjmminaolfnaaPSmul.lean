/- Products that keep within their ends. -/
import Derived.Test.YtakjmminaolfnaaPFixedL
namespace Go.Proofs.Ytakjmminaolfnaa.Pure
open Go.Ev Go.RowKit

def smul (a b : Int) : Int := cl (a * b) (-9223372036854775808) 9223372036854775807

theorem smul_I (a b : Int) : I64 (smul a b) := by simp only [smul, cl]; constructor <;> omega

theorem sat_size_eq (N : Nat) {a : Int} (h : I64 a) : W.sat_size N a = some (if a < 0 then -a else a) := by
  simp only [W.sat_size, bifd, wrapU64_def]
  split <;> simp only [Option.some.injEq] <;> omega

theorem sat_signed_eq (N : Nat) {n : Int} (b : Bool) (h : U64 n) : W.sat_signed N n b = some (if b then max (-n) (-9223372036854775808) else min n 9223372036854775807) := by
  cases b
  · simp only [W.sat_signed, show (false == true) = false from rfl, cond_false, bifd, wrapI64_def, Bool.false_eq_true, if_false]
    split <;> simp only [Option.some.injEq] <;> omega
  · simp only [W.sat_signed, beq_self_eq_true, cond_true, bifd, wrapI64_def, if_true]
    split <;> simp only [Option.some.injEq] <;> omega

theorem sizes_mul (a b : Int) : (if a < 0 then -a else a) * (if b < 0 then -b else b) = if (decide (a < 0) == decide (b < 0)) then a * b else -(a * b) := by
  by_cases ha : a < 0 <;> by_cases hb : b < 0 <;> simp [ha, hb, Int.neg_mul, Int.mul_neg]

theorem sat_Mul_eq (N : Nat) {a b : Int} (ha : I64 a) (hb : I64 b) : W.sat_Mul N a b = some (smul a b) := by
  have hA : 0 ≤ (if a < 0 then -a else a) ∧ (if a < 0 then -a else a) ≤ 9223372036854775808 := by split <;> omega
  have hB : 0 ≤ (if b < 0 then -b else b) ∧ (if b < 0 then -b else b) ≤ 9223372036854775808 := by split <;> omega
  have hm := sizes_mul a b
  simp only [W.sat_Mul, sat_size_eq N ha, sat_size_eq N hb, Option.bind_some]
  rw [bits_Mul64_eq N ⟨by omega, by omega⟩ ⟨by omega, by omega⟩, hm]
  have m := Int.mul_le_mul hA.2 hB.2 hB.1 (by omega : (0 : Int) ≤ 9223372036854775808)
  have n := Int.mul_nonneg hA.1 hB.1
  rw [hm] at m n
  simp only [Option.bind_some, sat_end_eq, smul]
  generalize hab : a * b = P at *
  cases hs : (decide (a < 0) == decide (b < 0)) with
  | true =>
    rw [hs] at m n
    simp only [if_true] at m n ⊢
    simp only [Bool.not_true, Bool.false_eq_true, if_false]
    by_cases h : 0 < P / 18446744073709551616
    · rw [bift h]; simp only [cl, Option.some.injEq]; omega
    · rw [biff h, sat_signed_eq N false ⟨by omega, by omega⟩]
      simp only [Bool.false_eq_true, if_false, Option.bind_some, cl, Option.some.injEq]; omega
  | false =>
    rw [hs] at m n
    simp only [Bool.false_eq_true, if_false] at m n ⊢
    simp only [Bool.not_false, if_true]
    by_cases h : 0 < -P / 18446744073709551616
    · rw [bift h]; simp only [cl, Option.some.injEq]; omega
    · rw [biff h, sat_signed_eq N true ⟨by omega, by omega⟩]
      simp only [if_true, Option.bind_some, cl, Option.some.injEq]; omega

theorem sat_Abs_eq (N : Nat) {a : Int} (ha : I64 a) : W.sat_Abs N a = some (min (if a < 0 then -a else a) 9223372036854775807) := by
  have hA : 0 ≤ (if a < 0 then -a else a) ∧ (if a < 0 then -a else a) ≤ 9223372036854775808 := by split <;> omega
  simp only [W.sat_Abs, sat_size_eq N ha, Option.bind_some]
  rw [sat_signed_eq N false ⟨by omega, by omega⟩]
  rfl

theorem bitLen_half {n : Nat} (h : n ≠ 0) : bitLen (n / 2) < bitLen n := by
  by_cases h2 : n / 2 ^ 1 = 0
  · have : n = 1 := by omega
    subst this; decide
  · have := bitLen_shift n 1 h2
    have e : n / 2 ^ 1 = n / 2 := by simp
    rw [e] at this; omega

theorem bitLen_le {n k : Nat} (h : n < 2 ^ k) : bitLen n ≤ k := by
  have hs := bitLen_spec n
  by_cases h0 : n = 0
  · subst h0; simp [bitLen]
  · have := hs.2 h0
    apply Nat.le_of_not_lt
    intro hk
    have := Nat.pow_le_pow_right (n := 2) (by omega) (show k ≤ bitLen n - 1 by omega)
    omega

/-- The document's doubling. -/
theorem leatref01_Mul_L11_eq (N : Nat) {x Y : Int} (be : Bool) (hx : -9223372036854775808 ≤ x ∧ x ≤ -1) (hY : 0 ≤ Y ∧ Y ≤ 9223372036854775808) (hN : 2000 < N) :
    ∃ (s : Int) (f : Bool), iter (W.leatref01_Mul_L11 N) N ((be, (-Y, (0, (x, (false, (false, ())))))), ()) = some ((be, (s, (f, ()))), ()) ∧ (f = true → x * Y < -9223372036854775808) ∧ (f = false → s = x * Y ∧ -9223372036854775808 ≤ x * Y) := by
  obtain ⟨y, ⟨s, f, rfl, h1, h2⟩, he⟩ := iter_done (round := W.leatref01_Mul_L11 N) (fun z => ∃ (q V S s b : Int) (f m : Bool), z = ((be, (-q, (s, (b, (f, (m, ())))))), ()) ∧ 0 ≤ q ∧ q ≤ 9223372036854775808 ∧ V ≤ -1 ∧ S ≤ 0 ∧ S + V * q = x * Y ∧ (m = true → V < -9223372036854775808) ∧ (m = false → b = V ∧ -9223372036854775808 ≤ V) ∧ (f = true → S < -9223372036854775808) ∧ (f = false → s = S ∧ -9223372036854775808 ≤ S)) (fun z => bitLen (-z.1.2.1).toNat)
    (fun y => ∃ (s : Int) (f : Bool), y = ((be, (s, (f, ()))), ()) ∧ (f = true → x * Y < -9223372036854775808) ∧ (f = false → s = x * Y ∧ -9223372036854775808 ≤ x * Y)) (by
      rintro F z ⟨q, V, S, s, b, f, m, rfl, hq0, hq1, hV, hS, hT, hm, hm', hf, hf'⟩
      by_cases hq : q = 0
      · right
        subst hq
        have e : S = x * Y := by rw [Int.mul_zero] at hT; omega
        refine ⟨_, ⟨s, f, rfl, by rw [← e]; exact hf, by rw [← e]; exact hf'⟩, ?_⟩
        simp only [W.leatref01_Mul_L11]; rw [biff (by omega)]
      · left
        have hlt : -q < 0 := by omega
        have hmu : bitLen (- -(q / 2)).toNat < bitLen (- -q).toNat := by
          rw [Int.neg_neg, Int.neg_neg, show (q / 2).toNat = q.toNat / 2 by omega]
          exact bitLen_half (by omega)
        have e1 : (-q).tmod 2 = -(q % 2) := by rw [Int.neg_tmod, tmod_nn hq0]
        have e2 : (-q).tdiv 2 = -(q / 2) := by rw [Int.neg_tdiv, tdiv_nn hq0]
        have w1 := wrapI64 (x := -(q / 2)) (by omega) (by omega)
        have hTT : ∀ c, q = 2 * (q / 2) + c → S + V * c + (V * 2) * (q / 2) = x * Y := by
          intro c hc
          rw [← hT]
          conv => rhs; rw [hc]
          grind
        -- the greater factor
        have doub : ∃ (b' : Int) (m' : Bool), (m' = true → V * 2 < -9223372036854775808) ∧ (m' = false → b' = V * 2 ∧ -9223372036854775808 ≤ V * 2) ∧
            ∀ (s' : Int) (f' : Bool), (bif m == false then bif (!(decide (b < -4611686018427387904))) then F ((be, (-(q / 2), (s', (IntKind.wrap .i64 (b * 2), (f', (decide (b < -4611686018427387904), ())))))), ()) else F ((be, (-(q / 2), (s', (b, (f', (decide (b < -4611686018427387904), ())))))), ()) else F ((be, (-(q / 2), (s', (b, (f', (true, ())))))), ())) = F ((be, (-(q / 2), (s', (b', (f', (m', ())))))), ()) := by
          cases m with
          | true => exact ⟨b, true, fun _ => by have := hm rfl; omega, nofun, fun s' f' => rfl⟩
          | false =>
            obtain ⟨rfl, hb⟩ := hm' rfl
            by_cases hc : b < -4611686018427387904
            · exact ⟨b, true, fun _ => by omega, nofun, fun s' f' => by rw [decide_eq_true hc]; rfl⟩
            · exact ⟨b * 2, false, nofun, fun _ => ⟨rfl, by omega⟩, fun s' f' => by rw [decide_eq_false hc, wrapI64 (x := b * 2) (by omega) (by omega)]; rfl⟩
        obtain ⟨b', m', hb1, hb2, hgo⟩ := doub
        by_cases hodd : q % 2 = 0
        · have hs0 : S + (V * 2) * (q / 2) = x * Y := by have := hTT 0 (by omega); rw [Int.mul_zero, Int.add_zero] at this; exact this
          refine ⟨_, ⟨q / 2, V * 2, S, s, b', f, m', rfl, by omega, by omega, by omega, hS, hs0, hb1, hb2, hf, hf'⟩, hmu, ?_⟩
          rw [← hgo]
          simp only [W.leatref01_Mul_L11, e1, e2, w1, hodd, Int.neg_zero, beq_self_eq_true, Bool.not_true, cond_false]
          rw [bift hlt]
        · have h1 : q % 2 = 1 := by omega
          have hs1 : S + V + (V * 2) * (q / 2) = x * Y := by have := hTT 1 (by omega); rw [Int.mul_one] at this; exact this
          have e3 : ((-(1 : Int)) == 0) = false := rfl
          -- the sum
          have summ : ∃ (s' : Int) (f' : Bool), (f' = true → S + V < -9223372036854775808) ∧ (f' = false → s' = S + V ∧ -9223372036854775808 ≤ S + V) ∧ W.leatref01_Mul_L11 N F ((be, (-q, (s, (b, (f, (m, ())))))), ()) = (bif m == false then bif (!(decide (b < -4611686018427387904))) then F ((be, (-(q / 2), (s', (IntKind.wrap .i64 (b * 2), (f', (decide (b < -4611686018427387904), ())))))), ()) else F ((be, (-(q / 2), (s', (b, (f', (decide (b < -4611686018427387904), ())))))), ()) else F ((be, (-(q / 2), (s', (b, (f', (true, ())))))), ())) := by
            cases f with
            | true =>
              refine ⟨s, true, fun _ => by have := hf rfl; omega, nofun, ?_⟩
              simp only [W.leatref01_Mul_L11, e1, e2, w1, h1, e3, Bool.not_false, cond_true, decide_eq_true hlt]
              cases m <;> rfl
            | false =>
              obtain ⟨rfl, hb⟩ := hf' rfl
              cases m with
              | true =>
                refine ⟨s, true, fun _ => by have := hm rfl; omega, nofun, ?_⟩
                simp only [W.leatref01_Mul_L11, e1, e2, w1, h1, e3, Bool.not_false, cond_true, decide_eq_true hlt]
                rfl
              | false =>
                obtain ⟨rfl, hb3⟩ := hm' rfl
                have w2 := wrapI64 (x := -9223372036854775808 - b) (by omega) (by omega)
                by_cases hc : s < -9223372036854775808 - b
                · refine ⟨s, true, fun _ => by omega, nofun, ?_⟩
                  simp only [W.leatref01_Mul_L11, e1, e2, w1, w2, h1, e3, Bool.not_false, cond_true, decide_eq_true hlt, decide_eq_true hc]
                  rfl
                · have w3 := wrapI64 (x := s + b) (by omega) (by omega)
                  refine ⟨s + b, false, nofun, fun _ => ⟨rfl, by omega⟩, ?_⟩
                  simp only [W.leatref01_Mul_L11, e1, e2, w1, w2, w3, h1, e3, Bool.not_false, cond_true, decide_eq_true hlt, decide_eq_false hc]
                  rfl
          obtain ⟨s', f', hf1, hf2, hround⟩ := summ
          refine ⟨_, ⟨q / 2, V * 2, S + V, s', b', f', m', rfl, by omega, by omega, by omega, by omega, hs1, hb1, hb2, hf1, hf2⟩, hmu, ?_⟩
          rw [hround, hgo]) N ((be, (-Y, (0, (x, (false, (false, ())))))), ()) ⟨Y, x, 0, 0, x, false, false, rfl, hY.1, hY.2, hx.2, by omega, by omega, nofun, fun _ => ⟨rfl, hx.1⟩, nofun, fun _ => ⟨rfl, by omega⟩⟩ (by
      have : bitLen (- -Y).toNat ≤ 64 := bitLen_le (by rw [Int.neg_neg]; omega)
      show bitLen (- -Y).toNat < N
      omega)
  exact ⟨s, f, he, h1, h2⟩

theorem leatref01_Mul_eq (N : Nat) {a b : Int} (ha : I64 a) (hb : I64 b) (hN : 2000 < N) : W.leatref01_Mul N a b = some (smul a b) := by
  by_cases a0 : a = 0
  · subst a0; simp only [W.leatref01_Mul, smul, Int.zero_mul]; rfl
  by_cases b0 : b = 0
  · subst b0; simp only [W.leatref01_Mul, smul, Int.mul_zero, beq_false_of_ne a0]; rfl
  -- the end, by what the loop tells
  have fin : ∀ (x Y : Int), (-9223372036854775808 ≤ x ∧ x ≤ -1) → (0 ≤ Y ∧ Y ≤ 9223372036854775808) → x * Y = (if (decide (a < 0) == decide (b < 0)) then -(a * b) else a * b) →
      ((iter (W.leatref01_Mul_L11 N) N ((!(decide (a < 0) == decide (b < 0)), (-Y, (0, (x, (false, (false, ())))))), ())).bind fun r =>
        bif (r.1.2.2.1 == true) then
          bif r.1.1 then some (-9223372036854775808)
          else bif r.1.2.2.1 then some 9223372036854775807
          else bif r.1.1 then some r.1.2.1
          else (W.leatref01_Neg N r.1.2.1).bind fun r1 => some r1
        else bif r.1.2.2.1 then some 9223372036854775807
        else bif r.1.1 then some r.1.2.1
        else (W.leatref01_Neg N r.1.2.1).bind fun r2 => some r2) = some (smul a b) := by
    intro x Y hx hY hxy
    have hxn : x * Y ≤ 0 := Int.mul_nonpos_of_nonpos_of_nonneg (by omega) hY.1
    obtain ⟨s, f, h1, h2, h3⟩ := leatref01_Mul_L11_eq N (!(decide (a < 0) == decide (b < 0))) hx hY hN
    rw [h1, Option.bind_some]
    rw [hxy] at h2 h3 hxn
    simp only [smul]
    generalize a * b = P at *
    cases hs : (decide (a < 0) == decide (b < 0)) with
    | true =>
      rw [hs] at h2 h3 hxn
      simp only [if_true] at h2 h3 hxn
      cases f with
      | true => have := h2 rfl; simp only [Bool.not_true, cond_true, cond_false, beq_self_eq_true, cl, Option.some.injEq]; omega
      | false =>
        obtain ⟨rfl, h4⟩ := h3 rfl
        simp only [Bool.not_true, cond_false, show (false == true) = false from rfl]
        rw [leatref01_Neg_eq N ⟨h4, by omega⟩]
        simp only [Option.bind_some, ssub, cl, Option.some.injEq]; omega
    | false =>
      rw [hs] at h2 h3 hxn
      simp only [Bool.false_eq_true, if_false] at h2 h3 hxn
      cases f with
      | true => have := h2 rfl; simp only [Bool.not_false, cond_true, beq_self_eq_true, cl, Option.some.injEq]; omega
      | false =>
        obtain ⟨rfl, h4⟩ := h3 rfl
        simp only [Bool.not_false, cond_true, cond_false, show (false == true) = false from rfl, cl, Option.some.injEq]; omega
  simp only [W.leatref01_Mul]
  rw [beq_false_of_ne a0, beq_false_of_ne b0]
  simp only [beq_self_eq_true, cond_true, cond_false]
  by_cases ha0 : 0 < a <;> by_cases hb0 : 0 < b
  · rw [bift ha0, bift hb0, wrapI64 (x := 0 - b) (by omega) (by omega), wrapI64 (x := 0 - a) (by omega) (by omega), Int.zero_sub, Int.zero_sub]
    exact fin (-a) b (by omega) (by omega) (by rw [decide_eq_false (show ¬ a < 0 by omega), decide_eq_false (show ¬ b < 0 by omega)]; first | (simp; done) | (simp [Int.neg_mul]; done) | (simp [Int.mul_neg]; done) | (simp [Int.neg_mul, Int.mul_neg]; done))
  · rw [bift ha0, biff hb0, wrapI64 (x := 0 - a) (by omega) (by omega), Int.zero_sub]
    have := fin (-a) (-b) (by omega) (by omega) (by rw [decide_eq_false (show ¬ a < 0 by omega), decide_eq_true (show b < 0 by omega)]; first | (simp; done) | (simp [Int.neg_mul]; done) | (simp [Int.mul_neg]; done) | (simp [Int.neg_mul, Int.mul_neg]; done))
    rwa [Int.neg_neg] at this
  · rw [biff ha0, bift hb0, wrapI64 (x := 0 - b) (by omega) (by omega), Int.zero_sub]
    exact fin a b (by omega) (by omega) (by rw [decide_eq_true (show a < 0 by omega), decide_eq_false (show ¬ b < 0 by omega)]; first | (simp; done) | (simp [Int.neg_mul]; done) | (simp [Int.mul_neg]; done) | (simp [Int.neg_mul, Int.mul_neg]; done))
  · rw [biff ha0, biff hb0]
    have := fin a (-b) (by omega) (by omega) (by rw [decide_eq_true (show a < 0 by omega), decide_eq_true (show b < 0 by omega)]; first | (simp; done) | (simp [Int.neg_mul]; done) | (simp [Int.mul_neg]; done) | (simp [Int.neg_mul, Int.mul_neg]; done))
    rwa [Int.neg_neg] at this

end Go.Proofs.Ytakjmminaolfnaa.Pure
