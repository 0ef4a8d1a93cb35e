/- Wide numbers of the program: products, quotients, roots. -/
import Derived.Test.YtgjmfljogaanfaaGreatPBits
namespace Go.Proofs.YtgjmfljogaanfaaGreat.Pure
open Go.Ev Go.RowKit

/-- A product's upper and lower half. -/
theorem bits_Mul64_eq (N : Nat) {x y : Int} (hx : U64 x) (hy : U64 y) : W.bits_Mul64 N x y = some (x * y / 18446744073709551616, x * y % 18446744073709551616) := by
  have h := mul64_arith x y hx.1 (by omega) hy.1 (by omega)
  have a1 := and_low32 x hx.1 (by omega)
  have a2 := and_low32 y hy.1 (by omega)
  have f1 : Int.fdiv x 4294967296 = x / 4294967296 := fdiv_pos (by omega)
  have f2 : Int.fdiv y 4294967296 = y / 4294967296 := fdiv_pos (by omega)
  have f3 : ∀ z : Int, Int.fdiv z 4294967296 = z / 4294967296 := fun z => fdiv_pos (by omega)
  have a3 : ∀ z : Int, bits .and .u64 (z % 18446744073709551616) 4294967295 = z % 18446744073709551616 % 4294967296 := fun z => and_low32 _ (by omega) (by omega)
  simp only [W.bits_Mul64, a1, a2, f3, wrapU64_def, a3, h]

theorem wide_Mul_eq (N : Nat) {x y : Int} (hx : U64 x) (hy : U64 y) : W.wide_Mul N x y = some (x * y / 18446744073709551616, x * y % 18446744073709551616) := by
  simp only [W.wide_Mul, bits_Mul64_eq N hx hy, Option.bind_some]

theorem len8 : ∀ i : Nat, i < 256 → byteAt W.bits_Len64_tab0 (i : Int) = (bitLen i : Int) := by
  have h : ((List.range 256).all fun i => byteAt W.bits_Len64_tab0 (i : Int) == (bitLen i : Int)) = true := by decide +kernel
  intro i hi
  have := List.all_eq_true.1 h i (List.mem_range.2 hi)
  simpa using this

theorem len8_size : (W.bits_Len64_tab0).size = 256 := by decide +kernel

theorem len8i {x : Int} (h0 : 0 ≤ x) (h1 : x < 256) : byteAt W.bits_Len64_tab0 x = (bitLen x.toNat : Int) := by
  have := len8 x.toNat (by omega)
  rwa [Int.toNat_of_nonneg h0] at this

theorem bitLen_shiftI {x : Int} (h0 : 0 ≤ x) (b : Nat) (h : x / 2 ^ b ≠ 0) : bitLen x.toNat = b + bitLen (x / 2 ^ b).toNat := by
  obtain ⟨n, rfl⟩ := Int.eq_ofNat_of_zero_le h0
  have e : ((n : Int) / 2 ^ b) = ((n / 2 ^ b : Nat) : Int) := by simp
  rw [e] at h ⊢
  simp only [Int.toNat_natCast]
  exact bitLen_shift n b (by omega)

theorem bitLen_I (x : Int) (h0 : 0 < x) : ∃ l : Nat, bitLen x.toNat = l + 1 ∧ (2 : Int) ^ l ≤ x ∧ x < 2 ^ (l + 1) := by
  have h := bitLen_spec x.toNat
  have hne : x.toNat ≠ 0 := by omega
  have h2 := h.2 hne
  have hp : bitLen x.toNat ≠ 0 := by unfold bitLen; rw [if_neg hne]; omega
  refine ⟨bitLen x.toNat - 1, by omega, ?_, ?_⟩
  · have : ((2 ^ (bitLen x.toNat - 1) : Nat) : Int) ≤ (x.toNat : Int) := by exact_mod_cast h2
    rw [Int.toNat_of_nonneg (by omega)] at this
    exact_mod_cast this
  · have h1 := h.1
    rw [show bitLen x.toNat = bitLen x.toNat - 1 + 1 by omega] at h1
    have : (x.toNat : Int) < ((2 ^ (bitLen x.toNat - 1 + 1) : Nat) : Int) := by exact_mod_cast h1
    rw [Int.toNat_of_nonneg (by omega)] at this
    exact_mod_cast this

theorem bits_Len64_eq (N : Nat) {x : Int} (h : U64 x) : W.bits_Len64 N x = some (bitLen x.toNat : Int) := by
  have f1 : ∀ z : Int, Int.fdiv z 4294967296 = z / 4294967296 := fun z => fdiv_pos (by omega)
  have f2 : ∀ z : Int, Int.fdiv z 65536 = z / 65536 := fun z => fdiv_pos (by omega)
  have f3 : ∀ z : Int, Int.fdiv z 256 = z / 256 := fun z => fdiv_pos (by omega)
  have key : ∀ (z : Int) (b : Nat) (K : Int), 0 ≤ z → z < 256 → (K = (b : Int)) → b ≤ 56 → (bif decide ((0 : Int) ≤ IntKind.wrap .u8 z) && decide (IntKind.wrap .u8 z < ((W.bits_Len64_tab0).size : Int)) then some (IntKind.wrap .i64 (K + IntKind.wrap .i64 (byteAt W.bits_Len64_tab0 (IntKind.wrap .u8 z)))) else none) = some ((b : Int) + (bitLen z.toNat : Int)) := by
    intro z b K h0 h1 hK hb
    have hl := bitLen_le8 z.toNat (by omega)
    rw [wrapU8 h0 (by omega), len8_size, decide_eq_true h0, decide_eq_true (show z < ((256 : Nat) : Int) by omega), len8i h0 h1, hK, wrapI64 (x := (bitLen z.toNat : Int)) (by omega) (by omega), wrapI64 (by omega) (by omega)]
    rfl
  have sh : ∀ (b : Nat), x / 2 ^ b ≠ 0 → ((b : Int) + (bitLen (x / 2 ^ b).toNat : Int)) = (bitLen x.toNat : Int) := fun b hb => by rw [bitLen_shiftI h.1 b hb]; omega
  have d1 : x / 4294967296 / 65536 = x / 281474976710656 := by omega
  have d2 : x / 281474976710656 / 256 = x / 72057594037927936 := by omega
  have d3 : x / 4294967296 / 256 = x / 1099511627776 := by omega
  have d4 : x / 65536 / 256 = x / 16777216 := by omega
  simp only [W.bits_Len64, f1, f2, f3, d1, d2, d3, d4]
  by_cases c1 : (4294967296 : Int) ≤ x
  · rw [bift c1]
    by_cases c2 : (65536 : Int) ≤ x / 4294967296
    · rw [bift c2]
      by_cases c3 : (256 : Int) ≤ x / 281474976710656
      · rw [bift c3, key _ 56 56 (by omega) (by omega) rfl (by omega)]; exact congrArg some (sh 56 (by omega))
      · rw [biff c3, key _ 48 48 (by omega) (by omega) rfl (by omega)]; exact congrArg some (sh 48 (by omega))
    · rw [biff c2]
      by_cases c3 : (256 : Int) ≤ x / 4294967296
      · rw [bift c3, key _ 40 40 (by omega) (by omega) rfl (by omega)]; exact congrArg some (sh 40 (by omega))
      · rw [biff c3, key _ 32 32 (by omega) (by omega) rfl (by omega)]; exact congrArg some (sh 32 (by omega))
  · rw [biff c1]
    by_cases c2 : (65536 : Int) ≤ x
    · rw [bift c2]
      by_cases c3 : (256 : Int) ≤ x / 65536
      · rw [bift c3, key _ 24 24 (by omega) (by omega) rfl (by omega)]; exact congrArg some (sh 24 (by omega))
      · rw [biff c3, key _ 16 16 (by omega) (by omega) rfl (by omega)]; exact congrArg some (sh 16 (by omega))
    · rw [biff c2]
      by_cases c3 : (256 : Int) ≤ x
      · rw [bift c3, key _ 8 8 (by omega) (by omega) rfl (by omega)]; exact congrArg some (sh 8 (by omega))
      · rw [biff c3, key _ 0 0 (by omega) (by omega) rfl (by omega)]; simp

theorem bits_LeadingZeros64_eq (N : Nat) {x : Int} (h : U64 x) (h0 : 0 < x) : ∃ s : Nat, s ≤ 63 ∧ W.bits_LeadingZeros64 N x = some (s : Int) ∧ 9223372036854775808 ≤ x * 2 ^ s ∧ x * 2 ^ s < 18446744073709551616 := by
  obtain ⟨l, h1, h2, h3⟩ := bitLen_I x h0
  have hl : l ≤ 63 := by
    apply Nat.le_of_not_lt
    intro hh
    have : (2 : Int) ^ 64 ≤ 2 ^ l := by exact_mod_cast Nat.pow_le_pow_right (n := 2) (by omega) (show 64 ≤ l by omega)
    have hx := h.2
    omega
  refine ⟨63 - l, by omega, ?_, ?_, ?_⟩
  · simp only [W.bits_LeadingZeros64, bits_Len64_eq N h, Option.bind_some, h1]
    rw [wrapI64 (by omega) (by omega)]
    congr 1; omega
  · have := Int.mul_le_mul_of_nonneg_right h2 (show (0 : Int) ≤ 2 ^ (63 - l) from Int.le_of_lt (pow_pos' _))
    rw [← Int.pow_add, show l + (63 - l) = 63 by omega] at this
    omega
  · have := Int.mul_lt_mul_of_pos_right h3 (pow_pos' (63 - l))
    rw [← Int.pow_add, show l + 1 + (63 - l) = 64 by omega] at this
    omega

/-- What is known at a correction of a digit. -/
structure Kn (Y y1 y0 U u q r : Int) : Prop where
  hY : Y = y1 * 4294967296 + y0
  h1 : 2147483648 ≤ y1 ∧ y1 < 4294967296
  h0 : 0 ≤ y0 ∧ y0 < 4294967296
  hU : 0 ≤ U ∧ U < Y
  hu : 0 ≤ u ∧ u < 4294967296
  hq : q * y1 + r = U
  hr : 0 ≤ r ∧ r < 4294967296
  hb : 0 ≤ q ∧ q ≤ 4294967297
  ht : (U * 4294967296 + u) / Y ≤ q

theorem Kn.prod {Y y1 y0 U u q r : Int} (h : Kn Y y1 y0 U u q r) : q * Y = (U - r) * 4294967296 + q * y0 := by
  have := h.hq; rw [h.hY]; grind

theorem Kn.fits {Y y1 y0 U u q r : Int} (h : Kn Y y1 y0 U u q r) (h2 : q * y0 ≤ 4294967296 * r + u) : q = (U * 4294967296 + u) / Y := by
  have hp := h.prod
  have := h.h1; have := h.h0; have := h.hU; have := h.hY
  have : q ≤ (U * 4294967296 + u) / Y := Int.le_ediv_of_mul_le (by omega) (by omega)
  have := h.ht
  omega

theorem Kn.over {Y y1 y0 U u q r : Int} (h : Kn Y y1 y0 U u q r) (h1 : 4294967296 ≤ q ∨ 4294967296 * r + u < q * y0) : 1 ≤ q ∧ (U * 4294967296 + u) / Y ≤ q - 1 := by
  have hp := h.prod
  have b1 := h.h1; have b2 := h.h0; have b3 := h.hU; have b4 := h.hY; have b5 := h.hu; have b6 := h.hb; have b7 := h.hr
  have hlt : (U * 4294967296 + u) / Y < q := by
    rcases h1 with h1 | h1
    · have : (U * 4294967296 + u) / Y < 4294967296 := Int.ediv_lt_of_lt_mul (by omega) (by omega)
      omega
    · exact Int.ediv_lt_of_lt_mul (by omega) (by omega)
  have : 0 ≤ (U * 4294967296 + u) / Y := Int.ediv_nonneg (by omega) (by omega)
  omega

theorem Kn.last {Y y1 y0 U u q r : Int} (h : Kn Y y1 y0 U u q r) (h1 : 4294967296 ≤ q ∨ 4294967296 * r + u < q * y0) (h2 : 4294967296 ≤ r + y1) : q - 1 = (U * 4294967296 + u) / Y := by
  have hp := h.prod
  have b1 := h.h1; have b2 := h.h0; have b3 := h.hU; have b4 := h.hY; have b5 := h.hu; have b6 := h.hb; have b7 := h.hr
  have ho := h.over h1
  have e1 : (q - 1) * Y = q * Y - Y := by grind
  have e2 : (q - 1) * y0 = q * y0 - y0 := by grind
  have m := Int.mul_le_mul (show q - 1 ≤ 4294967296 by omega) (show y0 ≤ 4294967295 by omega) b2.1 (by omega)
  rw [e2] at m
  have : q - 1 ≤ (U * 4294967296 + u) / Y := Int.le_ediv_of_mul_le (by omega) (by omega)
  omega

theorem Kn.next {Y y1 y0 U u q r : Int} (h : Kn Y y1 y0 U u q r) (h1 : 4294967296 ≤ q ∨ 4294967296 * r + u < q * y0) (h2 : r + y1 < 4294967296) : Kn Y y1 y0 U u (q - 1) (r + y1) := by
  have b1 := h.h1; have b6 := h.hb; have b7 := h.hr; have b8 := h.hq
  have ho := h.over h1
  exact ⟨h.hY, h.h1, h.h0, h.hU, h.hu, by grind, ⟨by omega, h2⟩, ⟨by omega, by omega⟩, ho.2⟩

/-- The first guess of a digit. -/
theorem Kn.first {Y y1 y0 U u : Int} (hY : Y = y1 * 4294967296 + y0) (h1 : 2147483648 ≤ y1 ∧ y1 < 4294967296) (h0 : 0 ≤ y0 ∧ y0 < 4294967296) (hU : 0 ≤ U ∧ U < Y) (hu : 0 ≤ u ∧ u < 4294967296) : Kn Y y1 y0 U u (U / y1) (U % y1) := by
  have e := Int.emod_add_mul_ediv U y1
  have e' : U / y1 * y1 + U % y1 = U := by rw [Int.mul_comm]; omega
  have m0 := Int.emod_nonneg U (show y1 ≠ 0 by omega)
  have m1 := Int.emod_lt_of_pos U (show 0 < y1 by omega)
  have d0 : 0 ≤ U / y1 := Int.ediv_nonneg hU.1 (by omega)
  have d1 : U / y1 < 4294967298 := Int.ediv_lt_of_lt_mul (by omega) (by omega)
  refine ⟨hY, h1, h0, hU, hu, e', ⟨m0, by omega⟩, ⟨d0, by omega⟩, ?_⟩
  have : (U * 4294967296 + u) / Y < U / y1 + 1 := by
    apply Int.ediv_lt_of_lt_mul (by omega)
    have g : (U / y1 + 1) * Y = (U / y1 * y1 + y1) * 4294967296 + (U / y1 + 1) * y0 := by rw [hY]; grind
    have g2 : 0 ≤ (U / y1 + 1) * y0 := Int.mul_nonneg (by omega) (by omega)
    omega
  omega

theorem bits_Div64_L17_eq (N : Nat) {Y y1 y0 U u q r : Int} (s u0 : Int) (h : Kn Y y1 y0 U u q r) (hN : 2000 < N) :
    iter (W.bits_Div64_L17 N) N ((Y, (s, (y1, (y0, (U, (u, (u0, (q, (r, ()))))))))), ()) = some ((Y, (s, (y1, (y0, (U, (u, (u0, ((U * 4294967296 + u) / Y, ())))))))), ()) := by
  refine iter_some (round := W.bits_Div64_L17 N) (fun x => ∃ q r, x = ((Y, (s, (y1, (y0, (U, (u, (u0, (q, (r, ()))))))))), ()) ∧ Kn Y y1 y0 U u q r) (fun x => if x.1.2.2.2.2.2.2.2.2.1 < x.1.2.2.1 then 2 else 1) _ ?_ N _ ⟨q, r, rfl, h⟩ (by split <;> omega)
  rintro F x ⟨q, r, rfl, h⟩
  have b1 := h.h1; have b2 := h.h0; have b3 := h.hU; have b4 := h.hY; have b5 := h.hu; have b6 := h.hb; have b7 := h.hr
  have w1 := wrapU64 (x := 4294967296 * r) (by omega) (by omega)
  have w2 := wrapU64 (x := 4294967296 * r + u) (by omega) (by omega)
  have w3 := wrapU64 (x := r + y1) (by omega) (by omega)
  simp only [W.bits_Div64_L17, w1, w2, w3]
  by_cases c1 : 4294967296 ≤ q
  · rw [decide_eq_true c1]
    have ho := h.over (.inl c1)
    have w4 := wrapU64 (x := q - 1) (by omega) (by omega)
    rw [w4]
    by_cases c2 : 4294967296 ≤ r + y1
    · right; rw [bift c2, ← h.last (.inl c1) c2]; rfl
    · left; exact ⟨_, ⟨_, _, rfl, h.next (.inl c1) (by omega)⟩, by simp only []; rw [if_neg (by omega), if_pos (by omega)]; omega, by rw [biff c2]; rfl⟩
  · rw [decide_eq_false c1]
    have m0 : 0 ≤ q * y0 := Int.mul_nonneg (by omega) (by omega)
    have m := Int.mul_le_mul (show q ≤ 4294967295 by omega) (show y0 ≤ 4294967295 by omega) b2.1 (by omega)
    have w5 := wrapU64 (x := q * y0) m0 (by omega)
    rw [w5]
    by_cases c3 : 4294967296 * r + u < q * y0
    · have ho := h.over (.inr c3)
      have w4 := wrapU64 (x := q - 1) (by omega) (by omega)
      rw [w4, bift c3]
      by_cases c2 : 4294967296 ≤ r + y1
      · right; rw [bift c2, ← h.last (.inr c3) c2]; rfl
      · left; exact ⟨_, ⟨_, _, rfl, h.next (.inr c3) (by omega)⟩, by simp only []; rw [if_neg (by omega), if_pos (by omega)]; omega, by rw [biff c2]; rfl⟩
    · right; rw [biff c3, ← h.fits (by omega)]; rfl

theorem bits_Div64_L24_eq (N : Nat) {Y y1 y0 U u q r : Int} (s q1 : Int) (h : Kn Y y1 y0 U u q r) (hN : 2000 < N) :
    iter (W.bits_Div64_L24 N) N ((Y, (s, (y1, (y0, (u, (q1, (r, (U, (q, ()))))))))), ()) = some ((Y, (s, (u, (q1, (U, ((U * 4294967296 + u) / Y, ())))))), ()) := by
  refine iter_some (round := W.bits_Div64_L24 N) (fun x => ∃ q r, x = ((Y, (s, (y1, (y0, (u, (q1, (r, (U, (q, ()))))))))), ()) ∧ Kn Y y1 y0 U u q r) (fun x => if x.1.2.2.2.2.2.2.1 < x.1.2.2.1 then 2 else 1) _ ?_ N _ ⟨q, r, rfl, h⟩ (by split <;> omega)
  rintro F x ⟨q, r, rfl, h⟩
  have b1 := h.h1; have b2 := h.h0; have b3 := h.hU; have b4 := h.hY; have b5 := h.hu; have b6 := h.hb; have b7 := h.hr
  have w1 := wrapU64 (x := 4294967296 * r) (by omega) (by omega)
  have w2 := wrapU64 (x := 4294967296 * r + u) (by omega) (by omega)
  have w3 := wrapU64 (x := r + y1) (by omega) (by omega)
  simp only [W.bits_Div64_L24, w1, w2, w3]
  by_cases c1 : 4294967296 ≤ q
  · rw [decide_eq_true c1]
    have ho := h.over (.inl c1)
    have w4 := wrapU64 (x := q - 1) (by omega) (by omega)
    rw [w4]
    by_cases c2 : 4294967296 ≤ r + y1
    · right; rw [bift c2, ← h.last (.inl c1) c2]; rfl
    · left; exact ⟨_, ⟨_, _, rfl, h.next (.inl c1) (by omega)⟩, by simp only []; rw [if_neg (by omega), if_pos (by omega)]; omega, by rw [biff c2]; rfl⟩
  · rw [decide_eq_false c1]
    have m0 : 0 ≤ q * y0 := Int.mul_nonneg (by omega) (by omega)
    have m := Int.mul_le_mul (show q ≤ 4294967295 by omega) (show y0 ≤ 4294967295 by omega) b2.1 (by omega)
    have w5 := wrapU64 (x := q * y0) m0 (by omega)
    rw [w5]
    by_cases c3 : 4294967296 * r + u < q * y0
    · have ho := h.over (.inr c3)
      have w4 := wrapU64 (x := q - 1) (by omega) (by omega)
      rw [w4, bift c3]
      by_cases c2 : 4294967296 ≤ r + y1
      · right; rw [bift c2, ← h.last (.inr c3) c2]; rfl
      · left; exact ⟨_, ⟨_, _, rfl, h.next (.inr c3) (by omega)⟩, by simp only []; rw [if_neg (by omega), if_pos (by omega)]; omega, by rw [biff c2]; rfl⟩
    · right; rw [biff c3, ← h.fits (by omega)]; rfl

/-- The two digits of a quotient. -/
theorem two_digits {X Y U a b : Int} (hY : 0 < Y) (hX : X = (U * 4294967296 + a) * 4294967296 + b) : X / Y = (U * 4294967296 + a) / Y * 4294967296 + ((U * 4294967296 + a) % Y * 4294967296 + b) / Y ∧ X % Y = ((U * 4294967296 + a) % Y * 4294967296 + b) % Y := by
  have e := Int.emod_add_mul_ediv (U * 4294967296 + a) Y
  have : X = Y * ((U * 4294967296 + a) / Y * 4294967296) + ((U * 4294967296 + a) % Y * 4294967296 + b) := by
    rw [hX]
    generalize (U * 4294967296 + a) / Y = q at *
    generalize (U * 4294967296 + a) % Y = r at *
    rw [← e]; grind
  rw [this]
  constructor
  · rw [Int.add_comm, Int.add_mul_ediv_left _ _ (by omega)]; omega
  · rw [Int.add_comm, Int.add_mul_emod_self_left]

theorem or_add {a b : Int} (s : Nat) (ha : 0 ≤ a) (hb : 0 ≤ b) (hb' : b < 2 ^ s) (hs : s ≤ 64) (hd : a * 2 ^ s < 18446744073709551616) : bits .or .u64 (a * 2 ^ s) b = a * 2 ^ s + b := by
  obtain ⟨n, rfl⟩ := Int.eq_ofNat_of_zero_le ha
  obtain ⟨m, rfl⟩ := Int.eq_ofNat_of_zero_le hb
  have hp := pow_pos' s
  have hm : m < 2 ^ s := by exact_mod_cast hb'
  have h64 : (2 : Int) ^ s ≤ 2 ^ 64 := by exact_mod_cast Nat.pow_le_pow_right (n := 2) (by omega) hs
  rw [u64_or _ _ (Int.mul_nonneg (by omega) (by omega)) hd (by omega) (by omega)]
  have e : ((n : Int) * 2 ^ s).toNat = 2 ^ s * n := by
    rw [show ((n : Int) * 2 ^ s) = ((2 ^ s * n : Nat) : Int) by simp; grind]
    exact Int.toNat_natCast _
  rw [e, Int.toNat_natCast, ← Nat.two_pow_add_eq_or_of_lt hm]
  simp; grind

theorem bits_Div64_eq (N : Nat) {h l y : Int} (hh : U64 h) (hl : U64 l) (hy : U64 y) (hlt : h < y) (hN : 2000 < N) :
    W.bits_Div64 N h l y = some ((h * 18446744073709551616 + l) / y, (h * 18446744073709551616 + l) % y) := by
  have hy0 : 0 < y := by omega
  simp only [W.bits_Div64]
  rw [beq_false_of_ne (show y ≠ 0 by omega), biff (show ¬ y ≤ h by omega), decide_eq_false (show ¬ y = 0 by omega)]
  by_cases h0 : h = 0
  · subst h0
    have q0 := Int.ediv_nonneg hl.1 (show 0 ≤ y by omega)
    have q1 := Int.ediv_le_self y hl.1
    rw [tdiv_nn hl.1, tmod_nn hl.1, wrapU64 q0 (by omega)]
    simp
  · obtain ⟨s, hs, hz, hn1, hn2⟩ := bits_LeadingZeros64_eq N hy hy0
    have hp := pow_pos' s
    have hp' := pow_pos' (64 - s)
    have hpp : (2 : Int) ^ (64 - s) * 2 ^ s = 18446744073709551616 := by rw [← Int.pow_add, show 64 - s + s = 64 by omega]; rfl
    have ms : min s 64 = s := by omega
    have ms' : min (64 - s) 64 = 64 - s := by omega
    rw [beq_false_of_ne h0, hz]
    simp only [Option.bind_some, cond_false, Bool.not_false, cond_true]
    have ws := wrapU64 (x := (s : Int)) (by omega) (by omega)
    have ws' := wrapU64 (x := 64 - (s : Int)) (by omega) (by omega)
    have wt : (64 - (s : Int)).toNat = 64 - s := by omega
    have dd : l.fdiv (2 ^ (64 - s)) = l / 2 ^ (64 - s) := fdiv_pos hp'
    have d0 : 0 ≤ l / 2 ^ (64 - s) := Int.ediv_nonneg hl.1 (by omega)
    have d1 : l / 2 ^ (64 - s) < 2 ^ s := by
      apply Int.ediv_lt_of_lt_mul hp'
      rw [Int.mul_comm, hpp]; omega
    have hhs : h * 2 ^ s < y * 2 ^ s := Int.mul_lt_mul_of_pos_right hlt hp
    have hh0 : 0 ≤ h * 2 ^ s := Int.mul_nonneg hh.1 (by omega)
    have wy := wrapU64 (x := y * 2 ^ s) (by omega) (by omega)
    have wh := wrapU64 (x := h * 2 ^ s) hh0 (by omega)
    have f3 : ∀ z : Int, Int.fdiv z 4294967296 = z / 4294967296 := fun z => fdiv_pos (by omega)
    have ho := or_add s hh.1 d0 d1 (by omega) (by omega)
    have a1 := and_low32 (y * 2 ^ s) (by omega) (by omega)
    have wl := wrapU64_def (l * 2 ^ s)
    have a2 := and_low32 (l * 2 ^ s % 18446744073709551616) (by omega) (by omega)
    simp only [ws, ws', wt, ms, ms', Int.toNat_natCast, dd, wy, wh, wl, f3, ho, a1, a2]
    -- the numbers
    have hlow : l * 2 ^ s = l / 2 ^ (64 - s) * 18446744073709551616 + l * 2 ^ s % 18446744073709551616 := by
      have e := Int.emod_add_mul_ediv l (2 ^ (64 - s))
      have m0 := Int.emod_nonneg l (show (2 : Int) ^ (64 - s) ≠ 0 by omega)
      have m1 := Int.emod_lt_of_pos l hp'
      have e1 : l * 2 ^ s = l % 2 ^ (64 - s) * 2 ^ s + l / 2 ^ (64 - s) * 18446744073709551616 := by
        rw [← hpp]
        generalize l / 2 ^ (64 - s) = q at *
        generalize l % 2 ^ (64 - s) = r at *
        rw [← e]; grind
      have e2 : l % 2 ^ (64 - s) * 2 ^ s < 18446744073709551616 := by
        have := Int.mul_lt_mul_of_pos_right m1 hp
        omega
      have e3 : 0 ≤ l % 2 ^ (64 - s) * 2 ^ s := Int.mul_nonneg m0 (by omega)
      rw [e1, Int.add_mul_emod_self_right, Int.emod_eq_of_lt e3 e2]
      omega
    have hUlt : h * 2 ^ s + l / 2 ^ (64 - s) < y * 2 ^ s := by
      have : (h + 1) * 2 ^ s ≤ y * 2 ^ s := Int.mul_le_mul_of_nonneg_right (by omega) (by omega)
      have e : (h + 1) * 2 ^ s = h * 2 ^ s + 2 ^ s := by grind
      omega
    have hX : (h * 18446744073709551616 + l) * 2 ^ s = ((h * 2 ^ s + l / 2 ^ (64 - s)) * 4294967296 + l * 2 ^ s % 18446744073709551616 / 4294967296) * 4294967296 + l * 2 ^ s % 18446744073709551616 % 4294967296 := by
      have e1 : (h * 18446744073709551616 + l) * 2 ^ s = h * 2 ^ s * 18446744073709551616 + l * 2 ^ s := by grind
      omega
    have hdm : (h * 18446744073709551616 + l) * 2 ^ s / (y * 2 ^ s) = (h * 18446744073709551616 + l) / y := Int.mul_ediv_mul_of_pos_left _ _ hp
    have hmm : (h * 18446744073709551616 + l) * 2 ^ s % (y * 2 ^ s) = (h * 18446744073709551616 + l) % y * 2 ^ s := by
      rw [Int.emod_def, hdm, Int.emod_def]; grind
    have htd := two_digits (show 0 < y * 2 ^ s by omega) hX
    rw [hdm, hmm] at htd
    rw [htd.1, ← Int.mul_ediv_cancel ((h * 18446744073709551616 + l) % y) (show (2 : Int) ^ s ≠ 0 by omega), htd.2]
    have hU0 : 0 ≤ h * 2 ^ s + l / 2 ^ (64 - s) := by omega
    clear htd hX hdm hmm hlow hhs ho
    generalize h * 2 ^ s + l / 2 ^ (64 - s) = U at *
    generalize y * 2 ^ s = Y at *
    have ha : 0 ≤ l * 2 ^ s % 18446744073709551616 / 4294967296 ∧ l * 2 ^ s % 18446744073709551616 / 4294967296 < 4294967296 := by omega
    have hb : 0 ≤ l * 2 ^ s % 18446744073709551616 % 4294967296 ∧ l * 2 ^ s % 18446744073709551616 % 4294967296 < 4294967296 := by omega
    generalize l * 2 ^ s % 18446744073709551616 / 4294967296 = a at *
    generalize l * 2 ^ s % 18446744073709551616 % 4294967296 = b at *
    have guess : ∀ V : Int, 0 ≤ V → V < Y → IntKind.wrap .u64 (V.tdiv (Y / 4294967296)) = V / (Y / 4294967296) ∧ IntKind.wrap .u64 (V - IntKind.wrap .u64 (V / (Y / 4294967296) * (Y / 4294967296))) = V % (Y / 4294967296) := by
      intro V v0 v1
      have e := Int.emod_add_mul_ediv V (Y / 4294967296)
      have m0 := Int.emod_nonneg V (show Y / 4294967296 ≠ 0 by omega)
      have m1 := Int.emod_lt_of_pos V (show 0 < Y / 4294967296 by omega)
      have e0 := Int.ediv_nonneg v0 (show 0 ≤ Y / 4294967296 by omega)
      have e1 := Int.ediv_le_self (Y / 4294967296) v0
      have c := Int.mul_comm (V / (Y / 4294967296)) (Y / 4294967296)
      refine ⟨by rw [tdiv_nn v0, wrapU64 e0 (by omega)], ?_⟩
      rw [wrapU64 (x := V / (Y / 4294967296) * (Y / 4294967296)) (by rw [c]; exact Int.mul_nonneg (by omega) e0) (by omega), wrapU64 (by omega) (by omega)]
      omega
    have rest : ∀ V u : Int, 0 ≤ V → V < Y → 0 ≤ u ∧ u < 4294967296 → IntKind.wrap .u64 (IntKind.wrap .u64 (IntKind.wrap .u64 (V * 4294967296) + u) - IntKind.wrap .u64 ((V * 4294967296 + u) / Y * Y)) = (V * 4294967296 + u) % Y := by
      intro V u v0 v1 hu
      have e := Int.emod_add_mul_ediv (V * 4294967296 + u) Y
      have m0 := Int.emod_nonneg (V * 4294967296 + u) (show Y ≠ 0 by omega)
      have m1 := Int.emod_lt_of_pos (V * 4294967296 + u) (show 0 < Y by omega)
      have c := Int.mul_comm ((V * 4294967296 + u) / Y) Y
      simp only [wrapU64_def, c]
      omega
    have dig : ∀ V u : Int, 0 ≤ V → V < Y → 0 ≤ u ∧ u < 4294967296 → 0 ≤ (V * 4294967296 + u) / Y ∧ (V * 4294967296 + u) / Y < 4294967296 := fun V u v0 v1 hu =>
      ⟨Int.ediv_nonneg (by omega) (by omega), Int.ediv_lt_of_lt_mul (by omega) (by omega)⟩
    have kn : ∀ V u : Int, 0 ≤ V → V < Y → 0 ≤ u ∧ u < 4294967296 → Kn Y (Y / 4294967296) (Y % 4294967296) V u (V / (Y / 4294967296)) (V % (Y / 4294967296)) := fun V u v0 v1 hu =>
      Kn.first (by omega) (by omega) (by omega) ⟨v0, v1⟩ hu
    have R0 := Int.emod_nonneg (U * 4294967296 + a) (show Y ≠ 0 by omega)
    have R1 := Int.emod_lt_of_pos (U * 4294967296 + a) (show 0 < Y by omega)
    have k1 := bits_Div64_L17_eq N s b (kn U a hU0 hUlt ha) hN
    have k2 := bits_Div64_L24_eq N s ((U * 4294967296 + a) / Y) (kn _ b R0 R1 hb) hN
    rw [decide_eq_false (show ¬ (s : Int) < 0 by omega), decide_eq_false (show ¬ 64 - (s : Int) < 0 by omega), decide_eq_false (show ¬ Y / 4294967296 = 0 by omega)]
    simp only [Bool.not_false, cond_true, (guess U hU0 hUlt).1, (guess U hU0 hUlt).2, k1, Option.bind_some]
    rw [decide_eq_false (show ¬ Y / 4294967296 = 0 by omega)]
    simp only [Bool.not_false, cond_true, rest U a hU0 hUlt ha, (guess _ R0 R1).1, (guess _ R0 R1).2, k2, Option.bind_some]
    have g1 := dig U a hU0 hUlt ha
    have g2 := dig _ b R0 R1 hb
    have rr := rest _ b R0 R1 hb
    rw [decide_eq_false (show ¬ (s : Int) < 0 by omega), rr, Int.toNat_natCast, ms, fdiv_pos hp, wrapU64 (x := (U * 4294967296 + a) / Y * 4294967296) (by omega) (by omega), wrapU64 (by omega) (by omega)]
    rfl

theorem wide_Div_eq (N : Nat) {x : Int × Int} {d : Int} (h1 : U64 x.1) (h2 : U64 x.2) (hd : U64 d) (h0 : 0 < d) (hN : 2000 < N) :
    W.wide_Div N x d = some ((x.1 / d, (x.1 % d * 18446744073709551616 + x.2) / d), (x.1 * 18446744073709551616 + x.2) % d) := by
  have m0 := Int.emod_nonneg x.1 (show d ≠ 0 by omega)
  have m1 := Int.emod_lt_of_pos x.1 h0
  have q0 := Int.ediv_nonneg h1.1 (show 0 ≤ d by omega)
  have q1 := Int.ediv_le_self d h1.1
  have := bits_Div64_eq N (h := x.1 % d) (l := x.2) (y := d) ⟨m0, by omega⟩ h2 hd m1 hN
  simp only [W.wide_Div]
  rw [beq_false_of_ne (show d ≠ 0 by omega), decide_eq_false (show ¬ d = 0 by omega), tmod_nn h1.1, tdiv_nn h1.1, this, wrapU64 q0 (by omega)]
  simp only [Bool.not_false, cond_true, cond_false, Option.bind_some]
  congr 2
  have e := Int.emod_add_mul_ediv x.1 d
  have : x.1 * 18446744073709551616 + x.2 = (x.1 % d * 18446744073709551616 + x.2) + d * (x.1 / d * 18446744073709551616) := by
    generalize x.1 / d = q at *; generalize x.1 % d = r at *; rw [← e]; grind
  rw [this, Int.add_mul_emod_self_left]

theorem cmp_Compare_uint64_eq (N : Nat) (a b : Int) : W.cmp_Compare_uint64 N a b = some (if a < b then -1 else if b < a then 1 else 0) := by
  simp only [W.cmp_Compare_uint64, W.cmp_isNaN_uint64, Option.bind_some, beq_self_eq_true, Bool.not_true, cond_false, bifd]
  split <;> (try split) <;> rfl

theorem cmp_Or_int_eq (N : Nat) (a b : Int) (hN : 10 < N) : W.cmp_Or_int N [a, b] = some (if a ≠ 0 then a else b) := by
  obtain ⟨n, rfl⟩ : ∃ n, N = n + 3 := ⟨N - 3, by omega⟩
  have w1 : IntKind.wrap .i64 1 = 1 := rfl
  have w2 : IntKind.wrap .i64 2 = 2 := rfl
  by_cases ha : a = 0
  · subst ha
    by_cases hb : b = 0
    · subst hb; simp [W.cmp_Or_int, iter, W.cmp_Or_int_L3, w1, w2]
    · simp [W.cmp_Or_int, iter, W.cmp_Or_int_L3, w1, beq_false_of_ne hb]
  · simp [W.cmp_Or_int, iter, W.cmp_Or_int_L3, ha, beq_false_of_ne ha]

theorem wide_Cmp_eq (N : Nat) (x y : Int × Int) (hN : 10 < N) : W.wide_Cmp N x y = some (if x.1 < y.1 then -1 else if y.1 < x.1 then 1 else if x.2 < y.2 then -1 else if y.2 < x.2 then 1 else 0) := by
  simp only [W.wide_Cmp, cmp_Compare_uint64_eq, Option.bind_some, cmp_Or_int_eq N _ _ hN]
  by_cases h1 : x.1 = y.1 <;> by_cases h2 : x.2 = y.2
  · simp [h1, h2]
  · simp [h1, beq_false_of_ne h2]
  · simp only [beq_false_of_ne h1, Bool.false_and, cond_false, Option.some.injEq]
    repeat' split
    all_goals omega
  · simp only [beq_false_of_ne h1, Bool.false_and, cond_false, Option.some.injEq]
    repeat' split
    all_goals omega

/-- A wide number's value. -/
def wv (x : Int × Int) : Int := x.1 * 18446744073709551616 + x.2

theorem wide_Cmp_val (N : Nat) {x y : Int × Int} (x2 : U64 x.2) (y2 : U64 y.2) (hN : 10 < N) : W.wide_Cmp N x y = some (if wv x < wv y then -1 else if wv y < wv x then 1 else 0) := by
  rw [wide_Cmp_eq N x y hN]
  simp only [wv, Option.some.injEq]
  repeat' split
  all_goals omega

theorem wide_told_eq (N : Nat) {q : Int × Int} (e : Int) (h1 : 0 ≤ q.1) (h2 : U64 q.2) (hN : 10 < N) : W.wide_told N q e = some (if e ≠ 0 then (0, e) else if 9223372036854775807 < wv q then (0, 8) else (wv q, 0)) := by
  simp only [W.wide_told]
  by_cases he : e = 0
  · subst he
    rw [wide_Cmp_val N h2 ⟨by omega, by omega⟩ hN, show wv (0, 9223372036854775807) = 9223372036854775807 from rfl]
    simp only [beq_self_eq_true, Bool.not_true, cond_false, Option.bind_some, ne_eq, not_true_eq_false, if_false]
    by_cases hg : 9223372036854775807 < wv q
    · rw [if_neg (by omega), if_pos hg, if_pos hg]; rfl
    · rw [if_neg hg, biff (by split <;> omega)]
      have : q.1 = 0 ∧ wv q = q.2 := by simp only [wv] at *; omega
      rw [this.2] at hg ⊢
      rw [wrapI64 (by omega) (by omega)]
      simp [hg]
  · simp [he, beq_false_of_ne he]

theorem Int_mul_I {a b : Int} (ha : 0 ≤ a ∧ a ≤ 9223372036854775807) (hb : 0 ≤ b ∧ b ≤ 9223372036854775807) : 0 ≤ a * b ∧ a * b ≤ 85070591730234615847396907784232501249 := by
  have := Int.mul_le_mul ha.2 hb.2 hb.1 (by omega : (0 : Int) ≤ 9223372036854775807)
  exact ⟨Int.mul_nonneg ha.1 hb.1, by omega⟩

theorem wide_muldiv_eq (N : Nat) {a b c : Int} (ha : I64 a) (hb : I64 b) (hc : I64 c) (hN : 2000 < N) :
    ∃ q m, W.wide_muldiv N a b c = some (q, (m, if a < 0 ∨ b < 0 ∨ c ≤ 0 then 1 else 0)) ∧ ((a < 0 ∨ b < 0 ∨ c ≤ 0) → m = false) ∧ (¬ (a < 0 ∨ b < 0 ∨ c ≤ 0) → U64 q.1 ∧ U64 q.2 ∧ wv q = a * b / c ∧ (m = decide (a * b % c ≠ 0))) := by
  simp only [W.wide_muldiv]
  by_cases h1 : a < 0
  · exact ⟨(0, 0), false, by simp [h1], by simp, by simp [h1]⟩
  by_cases h2 : b < 0
  · exact ⟨(0, 0), false, by simp [h1, h2], by simp, by simp [h2]⟩
  by_cases h3 : c ≤ 0
  · exact ⟨(0, 0), false, by simp [h1, h2, h3], by simp, by simp [h3]⟩
  have hab := Int_mul_I ⟨by omega, ha.2⟩ ⟨by omega, hb.2⟩
  have hm := wide_Mul_eq N (x := a) (y := b) ⟨by omega, by omega⟩ ⟨by omega, by omega⟩
  have hd := wide_Div_eq N (x := (a * b / 18446744073709551616, a * b % 18446744073709551616)) (d := c) ⟨by simp only; omega, by simp only; omega⟩ ⟨by simp only; omega, by simp only; omega⟩ ⟨by omega, by omega⟩ (by omega) hN
  simp only [] at hd
  have ev : a * b / 18446744073709551616 * 18446744073709551616 + a * b % 18446744073709551616 = a * b := by omega
  rw [ev] at hd
  have hr0 := Int.emod_nonneg (a * b) (show c ≠ 0 by omega)
  refine ⟨(a * b / 18446744073709551616 / c, (a * b / 18446744073709551616 % c * 18446744073709551616 + a * b % 18446744073709551616) / c), decide (0 < a * b % c), ?_, fun h => absurd h (by omega), fun _ => ⟨?_, ?_, ?_, ?_⟩⟩
  · rw [wrapU64 (x := a) (by omega) (by omega), wrapU64 (x := b) (by omega) (by omega), wrapU64 (x := c) (by omega) (by omega), hm, Option.bind_some, hd]
    simp [h1, h2, h3]
  · have := Int.ediv_nonneg (show 0 ≤ a * b / 18446744073709551616 by omega) (show 0 ≤ c by omega)
    have := Int.ediv_le_self c (show 0 ≤ a * b / 18446744073709551616 by omega)
    exact ⟨by simp only; omega, by simp only; omega⟩
  · have m0 := Int.emod_nonneg (a * b / 18446744073709551616) (show c ≠ 0 by omega)
    have m1 := Int.emod_lt_of_pos (a * b / 18446744073709551616) (show 0 < c by omega)
    refine ⟨Int.ediv_nonneg (by omega) (by omega), ?_⟩
    have : (a * b / 18446744073709551616 % c * 18446744073709551616 + a * b % 18446744073709551616) / c < 18446744073709551616 := Int.ediv_lt_of_lt_mul (by omega) (by omega)
    simp only; omega
  · have e := Int.emod_add_mul_ediv (a * b / 18446744073709551616) c
    simp only [wv]
    have : a * b = (a * b / 18446744073709551616 % c * 18446744073709551616 + a * b % 18446744073709551616) + c * (a * b / 18446744073709551616 / c * 18446744073709551616) := by
      generalize a * b / 18446744073709551616 / c = q at *; generalize a * b / 18446744073709551616 % c = r at *
      have : c * (q * 18446744073709551616) = (c * q) * 18446744073709551616 := by grind
      omega
    conv => rhs; rw [this, Int.add_mul_ediv_left _ _ (show c ≠ 0 by omega)]
    omega
  · simp only [decide_eq_decide]; omega

/-- A PRODUCT BY A NUMBER, of the program. -/
theorem wide_MulDiv_eq (N : Nat) {a b c : Int} (ha : I64 a) (hb : I64 b) (hc : I64 c) (hN : 2000 < N) : W.wide_MulDiv N a b c = some (mdv a b c false) := by
  obtain ⟨q, m, h1, _, h2⟩ := wide_muldiv_eq N ha hb hc hN
  simp only [W.wide_MulDiv, h1, Option.bind_some, mdv]
  by_cases h : a < 0 ∨ b < 0 ∨ c ≤ 0
  · rw [if_pos h, if_pos h]; simp [W.wide_told]
  · obtain ⟨q1, q2, q3, _⟩ := h2 h
    rw [if_neg h, if_neg h, wide_told_eq N 0 q1.1 q2 (by omega), q3]
    simp

end Go.Proofs.YtgjmfljogaanfaaGreat.Pure
