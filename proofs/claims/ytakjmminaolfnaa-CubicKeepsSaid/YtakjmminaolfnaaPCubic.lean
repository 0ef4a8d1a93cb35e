/- Cubic windows: roots, waits, cuts: what the program and the document's answer compute; the laws of cuts and roots. -/
import Derived.Test.YtakjmminaolfnaaPSmul
namespace Go.Proofs.Ytakjmminaolfnaa.Pure
open Go.Ev Go.RowKit

abbrev CS : Type := Int × Int × Int × Int × Int × Int

def csz (m : Int) : Int := cl m 1 65536

theorem csz_in (m : Int) : 1 ≤ csz m ∧ csz m ≤ 65536 := by simp only [csz, cl]; omega

theorem csz_csz (m : Int) : csz (csz m) = csz m := by simp only [csz, cl]; omega

/-- A state within its ends. -/
def cwi (s : CS) (m : Int) : CS :=
  (cl s.1 (csz m) 1073741824, cl s.2.1 0 1073741824, cl s.2.2.1 0 1073741824, cl s.2.2.2.1 (-1) 1125899906842624, cl s.2.2.2.2.1 0 1073741824, cl s.2.2.2.2.2 0 1073741824)

/-- Within its ends. -/
structure CI (s : CS) (m : Int) : Prop where
  c : csz m ≤ s.1 ∧ s.1 ≤ 1073741824
  t : 0 ≤ s.2.1 ∧ s.2.1 ≤ 1073741824
  p : 0 ≤ s.2.2.1 ∧ s.2.2.1 ≤ 1073741824
  e : -1 ≤ s.2.2.2.1 ∧ s.2.2.2.1 ≤ 1125899906842624
  o : 0 ≤ s.2.2.2.2.1 ∧ s.2.2.2.2.1 ≤ 1073741824
  k : 0 ≤ s.2.2.2.2.2 ∧ s.2.2.2.2.2 ≤ 1073741824

theorem cwi_in (s : CS) (m : Int) : CI (cwi s m) m := by
  have := csz_in m
  constructor <;> simp only [cwi] <;> generalize csz m = z at * <;> simp only [cl] <;> omega

theorem cl_id {a lo hi : Int} (h : lo ≤ a ∧ a ≤ hi) : cl a lo hi = a := by simp only [cl]; omega

theorem cwi_id {s : CS} {m : Int} (h : CI s m) : cwi s m = s := by
  simp only [cwi, cl_id h.c, cl_id h.t, cl_id h.p, cl_id h.e, cl_id h.o, cl_id h.k]

theorem cwi_csz (s : CS) (m : Int) : cwi s (csz m) = cwi s m := by simp only [cwi, csz_csz]

theorem CI.csz {s : CS} {m : Int} (h : CI s m) : CI s (csz m) := ⟨by rw [csz_csz]; exact h.c, h.t, h.p, h.e, h.o, h.k⟩

theorem cubic_size_eq (N : Nat) (m : Int) : W.cubic_size N m = some (csz m) := by
  simp only [W.cubic_size, sat_Clamp_eq, Option.bind_some, csz]

theorem cubic_within_eq (N : Nat) (s : CS) (m : Int) : W.cubic_within N s m = some (cwi s m) := by
  simp only [W.cubic_within, cubic_size_eq, sat_Clamp_eq, Option.bind_some, cwi]

theorem leatref49_keep_eq (N : Nat) {a lo hi : Int} (h : lo ≤ hi) : W.leatref49_keep N a lo hi = some (cl a lo hi) := by
  simp only [W.leatref49_keep, cl, Option.some.injEq]
  repeat' split
  all_goals omega

theorem leatref49_Size_eq (N : Nat) (m : Int) : W.leatref49_Size N m = some (csz m) := by
  simp only [W.leatref49_Size, leatref49_keep_eq N (show (1 : Int) ≤ 65536 by omega), Option.bind_some, csz]

theorem leatref49_Within_eq (N : Nat) (s : CS) (m : Int) : W.leatref49_Within N s m = some (cwi s m) := by
  have h := csz_in m
  simp only [W.leatref49_Within, leatref49_Size_eq, Option.bind_some, leatref49_keep_eq N (show csz m ≤ 1073741824 by omega), leatref49_keep_eq N (show (0 : Int) ≤ 1073741824 by omega), leatref49_keep_eq N (show (-1 : Int) ≤ 1125899906842624 by omega), cwi]

/-- A cube root: its cube is not above the number, that of the next one is; of a number below 0 it is 0. -/
def IsCub (r n : Int) : Prop := 0 ≤ r ∧ r ≤ 2097151 ∧ (n < 0 → r = 0) ∧ (0 ≤ n → r * r * r ≤ n ∧ n < (r + 1) * (r + 1) * (r + 1))

theorem cube_le {a b : Int} (h0 : 0 ≤ a) (h : a ≤ b) : a * a * a ≤ b * b * b :=
  Int.mul_le_mul (Int.mul_le_mul h h h0 (by omega)) h h0 (Int.mul_nonneg (by omega) (by omega))

theorem IsCub.uniq {r s n : Int} (h : IsCub r n) (g : IsCub s n) : r = s := by
  obtain ⟨h0, _, h1, h2⟩ := h
  obtain ⟨g0, _, g1, g2⟩ := g
  by_cases hn : n < 0
  · rw [h1 hn, g1 hn]
  · have h3 := h2 (by omega)
    have g3 := g2 (by omega)
    rcases Int.lt_trichotomy r s with c | c | c
    · have := cube_le (by omega) (show r + 1 ≤ s by omega); omega
    · exact c
    · have := cube_le (by omega) (show s + 1 ≤ r by omega); omega

theorem or64 {k : Int} (i : Nat) (hk : 0 ≤ k) (hi : i ≤ 20) (hd : k * 2 ^ (i + 1) < 2097152) : bits .or .i64 (k * 2 ^ (i + 1)) (2 ^ i) = k * 2 ^ (i + 1) + 2 ^ i := by
  have hp := pow_pos' i
  have hp2 : (2 : Int) ^ i ≤ 2 ^ 20 := by exact_mod_cast Nat.pow_le_pow_right (n := 2) (by omega) hi
  have h1 : 0 ≤ k * 2 ^ (i + 1) := Int.mul_nonneg hk (by have := pow_pos' (i + 1); omega)
  have h := or_bit i hk (by omega) (show k * 2 ^ (i + 1) < 18446744073709551616 by omega)
  have e : ∀ v : Nat, IntKind.wrap .i64 (v : Int) = IntKind.wrap .u64 (v : Int) ∨ ¬ ((v : Int) < 9223372036854775808) := fun v => by
    by_cases hv : (v : Int) < 9223372036854775808
    · left; rw [wrapI64 (by omega) (by omega), wrapU64 (by omega) (by omega)]
    · exact .inr hv
  have ev : bits .or .i64 (k * 2 ^ (i + 1)) (2 ^ i) = IntKind.wrap .i64 (((BitVec.ofInt 64 (k * 2 ^ (i + 1)) ||| BitVec.ofInt 64 (2 ^ i)).toNat : Nat) : Int) := rfl
  have ev2 : bits .or .u64 (k * 2 ^ (i + 1)) (2 ^ i) = IntKind.wrap .u64 (((BitVec.ofInt 64 (k * 2 ^ (i + 1)) ||| BitVec.ofInt 64 (2 ^ i)).toNat : Nat) : Int) := rfl
  rw [ev2, wrapU64_def] at h
  have hlt := (BitVec.ofInt 64 (k * 2 ^ (i + 1)) ||| BitVec.ofInt 64 (2 ^ i)).isLt
  rw [ev]
  generalize (BitVec.ofInt 64 (k * 2 ^ (i + 1)) ||| BitVec.ofInt 64 (2 ^ i)).toNat = v at *
  rw [wrapI64 (by omega) (by omega)]
  omega

theorem sq_small {a : Int} (h : 0 ≤ a ∧ a ≤ 2097152) : 0 ≤ a * a ∧ a * a ≤ 4398046511104 := by
  have := Int.mul_le_mul h.2 h.2 h.1 (by omega : (0 : Int) ≤ 2097152)
  exact ⟨Int.mul_nonneg h.1 h.1, by omega⟩

theorem cubic_Root_eq (N : Nat) {n : Int} (hn : I64 n) (hN : 2000 < N) : ∃ r, W.cubic_Root N n = some r ∧ IsCub r n := by
  obtain ⟨y, ⟨r, rfl, hr⟩, he⟩ := iter_done (round := W.cubic_Root_L3 N) (fun z => ∃ (i : Nat) (k : Int), z = ((n, (k * 2 ^ i, ((i : Int) - 1, ()))), ()) ∧ i ≤ 21 ∧ 0 ≤ k ∧ (k + 1) * 2 ^ i ≤ 2097152 ∧ (n < 0 → k = 0) ∧ (0 ≤ n → k * 2 ^ i * (k * 2 ^ i) * (k * 2 ^ i) ≤ n ∧ n < (k + 1) * 2 ^ i * ((k + 1) * 2 ^ i) * ((k + 1) * 2 ^ i))) (fun z => (z.1.2.2.1 + 1).toNat)
    (fun y => ∃ r, y = ((r, ()), ()) ∧ IsCub r n) (by
      rintro F z ⟨i, k, rfl, hi, hk, hle, hneg, hpos⟩
      cases i with
      | zero =>
        right
        refine ⟨_, ⟨k * 2 ^ 0, rfl, ?_⟩, by simp only [W.cubic_Root_L3]; rw [biff (by simp)]⟩
        simp only [Int.pow_zero, Int.mul_one] at hle hpos ⊢
        exact ⟨hk, by omega, hneg, hpos⟩
      | succ i =>
        left
        have e6 : (((i + 1 : Nat) : Int) - 1) = (i : Int) := by omega
        have hp := pow_pos' i
        have pm : (2 : Int) ^ i ≤ 2 ^ 20 := by exact_mod_cast Nat.pow_le_pow_right (n := 2) (by omega) (show i ≤ 20 by omega)
        have e5 := wrapI64 (x := (i : Int) - 1) (by omega) (by omega)
        have e7 := wrapI64 (x := (2 : Int) ^ i) (by omega) (by omega)
        have em : min (i : Nat) 64 = i := by omega
        have s1 : k * 2 ^ (i + 1) = 2 * k * 2 ^ i := by rw [Int.pow_succ]; grind
        have s2 : (k + 1) * 2 ^ (i + 1) = (2 * k + 2) * 2 ^ i := by rw [Int.pow_succ]; grind
        have s3 : k * 2 ^ (i + 1) + 2 ^ i = (2 * k + 1) * 2 ^ i := by rw [s1]; grind
        have s4 : (2 * k + 2) * 2 ^ i = (2 * k + 1) * 2 ^ i + 2 ^ i := by grind
        rw [s2] at hle hpos
        have mU : 1 ≤ (2 * k + 1) * 2 ^ i ∧ (2 * k + 1) * 2 ^ i ≤ 2097152 := ⟨by have := Int.mul_nonneg (show 0 ≤ 2 * k by omega) (show 0 ≤ (2 : Int) ^ i by omega); grind, by omega⟩
        have eb := or64 i hk (by omega) (show k * 2 ^ (i + 1) < 2097152 by omega)
        have hsq := sq_small (a := (2 * k + 1) * 2 ^ i) ⟨by omega, by omega⟩
        have c0 : ((0 : Int) ≤ (i : Int)) = True := eq_true (by omega)
        have c1 : ((i : Int) < 0) = False := eq_false (by omega)
        have hq : I64 (n.tdiv ((2 * k + 1) * 2 ^ i)) := tdiv_I hn (by omega)
        -- the test
        have test : ((2 * k + 1) * 2 ^ i * ((2 * k + 1) * 2 ^ i) ≤ n.tdiv ((2 * k + 1) * 2 ^ i)) ↔ (0 ≤ n ∧ (2 * k + 1) * 2 ^ i * ((2 * k + 1) * 2 ^ i) * ((2 * k + 1) * 2 ^ i) ≤ n) := by
          generalize (2 * k + 1) * 2 ^ i = x at *
          by_cases h0 : 0 ≤ n
          · rw [tdiv_nn h0]
            constructor
            · intro h
              refine ⟨h0, ?_⟩
              have m1 := Int.mul_le_mul_of_nonneg_right h (show 0 ≤ x by omega)
              have m2 := Int.ediv_mul_le n (show x ≠ 0 by omega)
              omega
            · intro h; exact Int.le_ediv_of_mul_le (by omega) h.2
          · have hx1 : 1 ≤ x * x := by have := Int.mul_le_mul mU.1 mU.1 (by omega) (show 0 ≤ x by omega); omega
            have hneg' : n.tdiv x ≤ 0 := by
              have := Int.tdiv_nonneg (show 0 ≤ -n by omega) (show 0 ≤ x by omega)
              rw [Int.neg_tdiv] at this; omega
            constructor
            · intro h; omega
            · intro h; exact absurd h.1 h0
        have round : ∀ G, W.cubic_Root_L3 N G ((n, (k * 2 ^ (i + 1), (((i + 1 : Nat) : Int) - 1, ()))), ()) = if (0 ≤ n ∧ (2 * k + 1) * 2 ^ i * ((2 * k + 1) * 2 ^ i) * ((2 * k + 1) * 2 ^ i) ≤ n) then G ((n, ((2 * k + 1) * 2 ^ i, ((i : Int) - 1, ()))), ()) else G ((n, (2 * k * 2 ^ i, ((i : Int) - 1, ()))), ()) := by
          intro G
          simp only [W.cubic_Root_L3, e6, e5, Int.toNat_natCast, em, Int.one_mul, e7, eb, c0, c1, decide_true, decide_false, Bool.not_false, cond_true]
          rw [s3, decide_eq_false (show ¬ (2 * k + 1) * 2 ^ i = 0 by omega), wrapI64 (x := (2 * k + 1) * 2 ^ i * ((2 * k + 1) * 2 ^ i)) (by omega) (by omega), wrapI64 hq.1 hq.2, bifd]
          simp only [Bool.not_false, cond_true]
          by_cases hc : (2 * k + 1) * 2 ^ i * ((2 * k + 1) * 2 ^ i) ≤ n.tdiv ((2 * k + 1) * 2 ^ i)
          · rw [if_pos hc, if_pos (test.1 hc)]
          · rw [if_neg hc, if_neg (fun h => hc (test.2 h)), s1]
        by_cases hc : (0 ≤ n ∧ (2 * k + 1) * 2 ^ i * ((2 * k + 1) * 2 ^ i) * ((2 * k + 1) * 2 ^ i) ≤ n)
        · refine ⟨_, ⟨i, 2 * k + 1, rfl, by omega, by omega, ?_, fun h => by omega, fun h => ⟨hc.2, ?_⟩⟩, ?_, by rw [round, if_pos hc]⟩
          · rw [show 2 * k + 1 + 1 = 2 * k + 2 by omega]; exact hle
          · rw [show 2 * k + 1 + 1 = 2 * k + 2 by omega]; exact (hpos h).2
          · simp only []; omega
        · refine ⟨_, ⟨i, 2 * k, rfl, by omega, by omega, by omega, fun h => by rw [hneg h]; rfl, fun h => ⟨?_, ?_⟩⟩, ?_, by rw [round, if_neg hc]⟩
          · rw [← s1]; exact (hpos h).1
          · apply Int.not_le.1; intro h2; exact hc ⟨h, h2⟩
          · simp only []; omega) N ((n, (0, (20, ()))), ()) ⟨21, 0, rfl, by omega, by omega, by omega, fun _ => rfl, fun h => ⟨by simpa using h, by have := hn.2; simp; omega⟩⟩ (by simp; omega)
  exact ⟨r, by simp only [W.cubic_Root, he, Option.bind_some], hr⟩

theorem leatref49_Root_eq (N : Nat) {n : Int} (hn : I64 n) (hN : 3000000 < N) : ∃ r, W.leatref49_Root N n = some r ∧ IsCub r n := by
  obtain ⟨y, ⟨r, rfl, hr⟩, he⟩ := iter_done (round := W.leatref49_Root_L2 N) (fun z => ∃ (lo hi : Int), z = ((n, (lo, (hi, ()))), ()) ∧ 0 ≤ lo ∧ lo ≤ hi ∧ hi ≤ 2097151 ∧ (n < 0 → lo = 0) ∧ (0 ≤ n → lo * lo * lo ≤ n ∧ n < (hi + 1) * (hi + 1) * (hi + 1))) (fun z => (z.1.2.2.1 - z.1.2.1).toNat)
    (fun y => ∃ r, y = ((r, ()), ()) ∧ IsCub r n) (by
      rintro G z ⟨lo, hi, rfl, h0, h1, h2, h3, h4⟩
      by_cases hlt : lo < hi
      · left
        have w1 := wrapI64 (x := lo + hi) (by omega) (by omega)
        have w2 := wrapI64 (x := lo + hi + 1) (by omega) (by omega)
        have w3 : (lo + hi + 1).tdiv 2 = (lo + hi + 1) / 2 := tdiv_nn (by omega)
        have w4 := wrapI64 (x := (lo + hi + 1) / 2) (by omega) (by omega)
        have hm : lo < (lo + hi + 1) / 2 ∧ (lo + hi + 1) / 2 ≤ hi := by omega
        have m2 := sq_small (a := (lo + hi + 1) / 2) ⟨by omega, by omega⟩
        have m3 := cube_le (a := (lo + hi + 1) / 2) (b := 2097151) (by omega) (by omega)
        have m4 := Int.mul_nonneg m2.1 (show 0 ≤ (lo + hi + 1) / 2 by omega)
        have w6 := wrapI64 (x := (lo + hi + 1) / 2 * ((lo + hi + 1) / 2)) (by omega) (by omega)
        have w8 := wrapI64 (x := (lo + hi + 1) / 2 * ((lo + hi + 1) / 2) * ((lo + hi + 1) / 2)) (by omega) (by omega)
        have w7 := wrapI64 (x := (lo + hi + 1) / 2 - 1) (by omega) (by omega)
        simp only [W.leatref49_Root_L2, w1, w2, w3, w4, w6, w7, w8]
        generalize (lo + hi + 1) / 2 = m at *
        by_cases hc : m * m * m ≤ n
        · exact ⟨_, ⟨m, hi, rfl, by omega, by omega, h2, fun h => by omega, fun h => ⟨hc, (h4 h).2⟩⟩, by simp only []; omega, by rw [bift hlt, bift hc]⟩
        · refine ⟨_, ⟨lo, m - 1, rfl, by omega, by omega, by omega, h3, fun h => ⟨(h4 h).1, ?_⟩⟩, by simp only []; omega, by rw [bift hlt, biff hc]⟩
          rw [show m - 1 + 1 = m by omega]; omega
      · right
        obtain rfl : lo = hi := by omega
        exact ⟨_, ⟨lo, rfl, h0, h2, h3, h4⟩, by simp only [W.leatref49_Root_L2]; rw [biff (by omega)]⟩) N ((n, (0, (2097151, ()))), ()) ⟨0, 2097151, rfl, by omega, by omega, by omega, fun _ => rfl, fun h => ⟨by simpa using h, by have := hn.2; omega⟩⟩ (by simp; omega)
  exact ⟨r, by simp only [W.leatref49_Root, he, Option.bind_some], hr⟩

theorem exCub (n : Int) : ∃ r, I64 n → IsCub r n := by
  by_cases h : I64 n
  · obtain ⟨r, _, hr⟩ := leatref49_Root_eq 3000001 h (by omega)
    exact ⟨r, fun _ => hr⟩
  · exact ⟨0, fun g => absurd g h⟩

/-- The cube root. -/
noncomputable def croot (n : Int) : Int := Classical.choose (exCub n)

theorem croot_is {n : Int} (h : I64 n) : IsCub (croot n) n := Classical.choose_spec (exCub n) h

theorem cubic_Root_c (N : Nat) {n : Int} (hn : I64 n) (hN : 2000 < N) : W.cubic_Root N n = some (croot n) := by
  obtain ⟨r, h1, h2⟩ := cubic_Root_eq N hn hN
  rw [h1, h2.uniq (croot_is hn)]

theorem leatref49_Root_c (N : Nat) {n : Int} (hn : I64 n) (hN : 3000000 < N) : W.leatref49_Root N n = some (croot n) := by
  obtain ⟨r, h1, h2⟩ := leatref49_Root_eq N hn hN
  rw [h1, h2.uniq (croot_is hn)]

/-- How long a window waits. -/
noncomputable def cwait (top c m : Int) : Int := if top ≤ c then 0 else croot (smul (ssub top c) 2500000000 / csz m)

theorem by_I : I64 2500000000 := ⟨by omega, by omega⟩

theorem smul_nn {a : Int} (h : 0 ≤ a) : 0 ≤ smul a 2500000000 := by simp only [smul, cl]; omega

theorem cwait_in (top c m : Int) : 0 ≤ cwait top c m ∧ cwait top c m ≤ 2097151 := by
  simp only [cwait]
  split
  · omega
  · have h := croot_is (ediv_I (smul_I (ssub top c) 2500000000) (show 0 < csz m by have := csz_in m; omega))
    exact ⟨h.1, h.2.1⟩

theorem cubic_Wait_eq (N : Nat) {top c : Int} (m : Int) (ht : I64 top) (hc : I64 c) (hN : 2000 < N) : W.cubic_Wait N top c m = some (cwait top c m) := by
  have h := csz_in m
  have hI := ediv_I (smul_I (ssub top c) 2500000000) (show 0 < csz m by omega)
  simp only [W.cubic_Wait, sat_Sub_eq N ht hc, sat_Mul_eq N (ssub_I top c) by_I, cubic_size_eq, Option.bind_some, cwait]
  by_cases h1 : top ≤ c
  · rw [bift h1, if_pos h1]
  · have hs : 0 ≤ smul (ssub top c) 2500000000 := smul_nn (by simp only [ssub, cl]; omega)
    rw [biff h1, if_neg h1, decide_eq_false (show ¬ csz m = 0 by omega), tdiv_nn hs, wrapI64 hI.1 hI.2, cubic_Root_c N hI hN]
    rfl

theorem leatref49_Wait_eq (N : Nat) {top c : Int} (m : Int) (ht : I64 top) (hc : I64 c) (hN : 3000000 < N) : W.leatref49_Wait N top c m = some (cwait top c m) := by
  have h := csz_in m
  have hI := ediv_I (smul_I (ssub top c) 2500000000) (show 0 < csz m by omega)
  simp only [W.leatref49_Wait, leatref01_Sub_eq N ht hc, leatref01_Mul_eq N (ssub_I top c) by_I (show 2000 < N by omega), leatref49_Size_eq, Option.bind_some, cwait]
  by_cases h1 : top ≤ c
  · rw [bift h1, if_pos h1]
  · have hs : 0 ≤ smul (ssub top c) 2500000000 := smul_nn (by simp only [ssub, cl]; omega)
    rw [biff h1, if_neg h1, decide_eq_false (show ¬ csz m = 0 by omega), tdiv_nn hs, wrapI64 hI.1 hI.2, leatref49_Root_c N hI hN]
    rfl

/-- A cut. -/
def ccut (s : CS) (m : Int) : CS :=
  let v := cwi s m
  let n := max (v.1 * 7 / 10) (min (2 * csz m) v.1)
  (n, n, (if v.1 < v.2.2.1 then v.1 * 17 / 20 else v.1), -1, 0, 0)

theorem cubic_Cut_eq (N : Nat) (s : CS) (m : Int) : W.cubic_Cut N s m = some (ccut s m) := by
  have h := cwi_in s m
  have hz := csz_in m
  have hc := h.c
  simp only [W.cubic_Cut, cubic_within_eq, cubic_size_eq, Option.bind_some, ccut]
  generalize (cwi s m) = v at *
  obtain ⟨c, t, p, e, o, k⟩ := v
  simp only [] at hc ⊢
  rw [wrapI64 (x := 2 * csz m) (by omega) (by omega), wrapI64 (x := c * 7) (by omega) (by omega), wrapI64 (x := c * 17) (by omega) (by omega), tdiv_nn (by omega), tdiv_nn (by omega), wrapI64 (x := c * 7 / 10) (by omega) (by omega), wrapI64 (x := c * 17 / 20) (by omega) (by omega), bifd]
  have e1 : (if (if c < 2 * csz m then c else 2 * csz m) > c * 7 / 10 then (if c < 2 * csz m then c else 2 * csz m) else c * 7 / 10) = max (c * 7 / 10) (min (2 * csz m) c) := by split <;> split <;> omega
  rw [e1]
  split <;> rfl

theorem leatref49_Cut_eq (N : Nat) (s : CS) (m : Int) : W.leatref49_Cut N s m = some (ccut s m) := by
  have h := cwi_in s m
  have hz := csz_in m
  have hc := h.c
  simp only [W.leatref49_Cut, leatref49_Within_eq, leatref49_Size_eq, Option.bind_some, ccut]
  generalize (cwi s m) = v at *
  obtain ⟨c, t, p, e, o, k⟩ := v
  simp only [] at hc ⊢
  rw [wrapI64 (x := 2 * csz m) (by omega) (by omega), wrapI64 (x := 7 * c) (by omega) (by omega), wrapI64 (x := 17 * c) (by omega) (by omega), tdiv_nn (by omega), tdiv_nn (by omega), wrapI64 (x := 7 * c / 10) (by omega) (by omega), wrapI64 (x := 17 * c / 20) (by omega) (by omega)]
  have e1 : (if c < 2 * csz m then c else 2 * csz m) = min (2 * csz m) c := by split <;> omega
  rw [e1, Int.mul_comm 7 c, Int.mul_comm 17 c]
  simp only [bifd]
  by_cases h1 : c * 7 / 10 < 2 * csz m
  · rw [show max (c * 7 / 10) (min (2 * csz m) c) = min (2 * csz m) c by omega]
    simp only [h1, if_true]
    split <;> rfl
  · rw [show max (c * 7 / 10) (min (2 * csz m) c) = c * 7 / 10 by omega]
    simp only [h1, if_false]
    split <;> rfl

theorem cubic_Start_eq (N : Nat) (m k : Int) : W.cubic_Start N m k = some (csz m * cl k 1 1000, 1073741824, 0, -1, 0, 0) := by
  have hz := csz_in m
  have hk : 1 ≤ cl k 1 1000 ∧ cl k 1 1000 ≤ 1000 := by simp only [cl]; omega
  have := Int.mul_le_mul hz.2 hk.2 (by omega) (by omega : (0 : Int) ≤ 65536)
  have := Int.mul_nonneg (show 0 ≤ csz m by omega) (show 0 ≤ cl k 1 1000 by omega)
  simp only [W.cubic_Start, cubic_size_eq, sat_Clamp_eq, Option.bind_some]
  rw [wrapI64 (by omega) (by omega)]

theorem leatlaw49_works_eq (N : Nat) (hN : 2000 < N) : W.leatlaw49_works N = some true := by
  have h26 : I64 26 := ⟨by omega, by omega⟩
  have hr := (croot_is h26).uniq (show IsCub 2 26 from ⟨by omega, by omega, fun h => by omega, fun _ => ⟨by omega, by omega⟩⟩)
  simp only [W.leatlaw49_works, cubic_Root_c N h26 hN, hr, cubic_Cut_eq, Option.bind_some]
  rfl

theorem CubicCuts_i (N : Nat) (hN : 2000 < N) (s : CS) (m k : Int) : W.leatlaw49_CubicCuts N s m k = some true := by
  have e : (if 1000 < (if 1 > k then 1 else k) then 1000 else (if 1 > k then 1 else k)) = cl k 1 1000 := by simp only [cl]; split <;> split <;> omega
  have hz := csz_in m
  have hk : 1 ≤ cl k 1 1000 ∧ cl k 1 1000 ≤ 1000 := by simp only [cl]; omega
  have := Int.mul_le_mul hz.2 hk.2 (by omega) (by omega : (0 : Int) ≤ 65536)
  have := Int.mul_nonneg (show 0 ≤ csz m by omega) (show 0 ≤ cl k 1 1000 by omega)
  simp only [W.leatlaw49_CubicCuts, cubic_Cut_eq, leatref49_Cut_eq, cubic_Start_eq, leatref49_Size_eq, leatlaw49_works_eq N hN, Option.bind_some, e]
  rw [wrapI64 (by omega) (by omega)]
  simp only [beq_self_eq_true, Bool.and_self, cond_true]

theorem CubicCuts (x : RT [.agg [.int .i64, .int .i64, .int .i64, .int .i64, .int .i64, .int .i64], .sc (.int .i64), .sc (.int .i64)]) (_ : RT.wf _ x) : ∃ N, uncR [.agg [.int .i64, .int .i64, .int .i64, .int .i64, .int .i64, .int .i64], .sc (.int .i64), .sc (.int .i64)] (W.leatlaw49_CubicCuts N) x = some true := by
  obtain ⟨s, m, k⟩ := x
  exact ⟨3000, CubicCuts_i 3000 (by omega) s m k⟩

theorem CubicRoots_i (N : Nat) (hN : 3000000 < N) {n a b : Int} (m : Int) (hn : I64 n) (ha : I64 a) (hb : I64 b) : W.leatlaw49_CubicRoots N n (a, b) m = some true := by
  have h2 : 2000 < N := by omega
  simp only [W.leatlaw49_CubicRoots, cubic_Root_c N hn h2, leatref49_Root_c N hn hN, cubic_Wait_eq N m ha hb h2, leatref49_Wait_eq N m ha hb hN, leatlaw49_works_eq N h2, Option.bind_some, beq_self_eq_true, cond_true]

theorem CubicRoots (x : RT [.sc (.int .i64), .agg [.int .i64, .int .i64], .sc (.int .i64)]) (h : RT.wf _ x) : ∃ N, uncR [.sc (.int .i64), .agg [.int .i64, .int .i64], .sc (.int .i64)] (W.leatlaw49_CubicRoots N) x = some true := by
  obtain ⟨n, ⟨a, b⟩, m⟩ := x
  exact ⟨3000001, CubicRoots_i 3000001 (by omega) m (i64_range h.1) (i64_range h.2.1.1) (i64_range h.2.1.2)⟩

end Go.Proofs.Ytakjmminaolfnaa.Pure
