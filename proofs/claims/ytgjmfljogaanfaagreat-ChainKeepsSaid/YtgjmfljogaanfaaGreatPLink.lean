/- A link: how long a size takes, and how much goes in a time; the laws. -/
import Derived.Test.YtgjmfljogaanfaaGreatPSmul
namespace Go.Proofs.YtgjmfljogaanfaaGreat.Pure
open Go.Ev Go.RowKit

theorem clB {a lo hi : Int} (h : lo ≤ hi) : lo ≤ cl a lo hi ∧ cl a lo hi ≤ hi := by simp only [cl]; omega

abbrev LK : Type := Int × Int × Int

def lwi (l : LK) : LK := (cl l.1 1 1099511627776, cl l.2.1 0 1152921504606846976, cl l.2.2 0 1152921504606846976)

theorem lwi_in (l : LK) : 1 ≤ (lwi l).1 ∧ (lwi l).1 ≤ 1099511627776 ∧ 0 ≤ (lwi l).2.1 ∧ (lwi l).2.1 ≤ 1152921504606846976 ∧ 0 ≤ (lwi l).2.2 ∧ (lwi l).2.2 ≤ 1152921504606846976 := by
  simp only [lwi, cl]; omega

theorem lwi_lwi (l : LK) : lwi (lwi l) = lwi l := by
  simp only [lwi, cl, Prod.mk.injEq]; omega

def span (size rate : Int) : Int := (cl size 1 65536 * 1000000 + cl rate 1 1099511627776 - 1) / cl rate 1 1099511627776

theorem span_in (size rate : Int) : 1 ≤ span size rate ∧ span size rate ≤ 65536000000 ∧ cl size 1 65536 * 1000000 ≤ cl rate 1 1099511627776 * span size rate := by
  have hs := clB (a := size) (show (1 : Int) ≤ 65536 by omega)
  have hr := clB (a := rate) (show (1 : Int) ≤ 1099511627776 by omega)
  simp only [span]
  generalize cl size 1 65536 = S at *
  generalize cl rate 1 1099511627776 = R at *
  have h1 : 1 ≤ (S * 1000000 + R - 1) / R := Int.le_ediv_of_mul_le (by omega) (by omega)
  have e := Int.emod_add_mul_ediv (S * 1000000 + R - 1) R
  have m1 := Int.emod_lt_of_pos (S * 1000000 + R - 1) (show 0 < R by omega)
  refine ⟨h1, ?_, by omega⟩
  have : (S * 1000000 + R - 1) / R < S * 1000000 + 1 := by
    apply Int.ediv_lt_of_lt_mul (by omega)
    have := Int.mul_le_mul_of_nonneg_left hr.1 (show 0 ≤ S * 1000000 by omega)
    have g : (S * 1000000 + 1) * R = S * 1000000 * R + R := by grind
    omega
  omega

theorem link_within_eq (N : Nat) (l : LK) : W.link_within N l = some (lwi l) := by
  simp only [W.link_within, sat_Clamp_eq, Option.bind_some, lwi]

theorem leatref37_keep_eq (N : Nat) {a lo hi : Int} (h : lo ≤ hi) : W.leatref37_keep N a lo hi = some (cl a lo hi) := by
  simp only [W.leatref37_keep, imn_eq, imx_eq, cl, Option.some.injEq]; omega

/-- Upwards is downwards of what is below. -/
theorem up_div {x r : Int} (hr : 0 < r) : -(-x / r) = (x + r - 1) / r := by
  have e1 := Int.emod_add_mul_ediv (-x) r
  have e2 := Int.emod_add_mul_ediv (x + r - 1) r
  have a0 := Int.emod_nonneg (-x) (show r ≠ 0 by omega)
  have a1 := Int.emod_lt_of_pos (-x) hr
  have b0 := Int.emod_nonneg (x + r - 1) (show r ≠ 0 by omega)
  have b1 := Int.emod_lt_of_pos (x + r - 1) hr
  have g : r * (-x / r + (x + r - 1) / r) = r - 1 - (-x) % r - (x + r - 1) % r := by grind
  obtain ⟨d, hd⟩ : ∃ d, -x / r + (x + r - 1) / r = d := ⟨_, rfl⟩
  rw [hd] at g
  have h1 : ¬ 1 ≤ d := fun h => by have := Int.mul_le_mul_of_nonneg_left h (show 0 ≤ r by omega); omega
  have h2 : ¬ d ≤ -1 := fun h => by have := Int.mul_le_mul_of_nonneg_left h (show 0 ≤ r by omega); omega
  omega

theorem link_Span_eq (N : Nat) (size rate : Int) : W.link_Span N size rate = some (span size rate) := by
  have hs := clB (a := size) (show (1 : Int) ≤ 65536 by omega)
  have hr := clB (a := rate) (show (1 : Int) ≤ 1099511627776 by omega)
  have hp := span_in size rate
  simp only [W.link_Span, sat_Clamp_eq, Option.bind_some]
  simp only [span] at hp ⊢
  generalize cl size 1 65536 = S at *
  generalize cl rate 1 1099511627776 = R at *
  rw [wrapI64 (x := 0 - S) (by omega) (by omega), wrapI64 (x := (0 - S) * 1000000) (by omega) (by omega), sat_Div_eq N ⟨by omega, by omega⟩ (by omega), Option.bind_some]
  have e := up_div (x := S * 1000000) (r := R) (by omega)
  rw [show (0 - S) * 1000000 = -(S * 1000000) by omega, Int.zero_sub, e, wrapI64 (by omega) (by omega)]

theorem leatref37_Span_eq (N : Nat) (size rate : Int) : W.leatref37_Span N size rate = some (span size rate) := by
  have hs := clB (a := size) (show (1 : Int) ≤ 65536 by omega)
  have hr := clB (a := rate) (show (1 : Int) ≤ 1099511627776 by omega)
  have hp := span_in size rate
  simp only [W.leatref37_Span, leatref37_keep_eq N (show (1 : Int) ≤ 1099511627776 by omega), leatref37_keep_eq N (show (1 : Int) ≤ 65536 by omega), Option.bind_some]
  simp only [span] at hp ⊢
  generalize cl size 1 65536 = S at *
  generalize cl rate 1 1099511627776 = R at *
  rw [wrapI64 (x := S * 1000000) (by omega) (by omega), wrapI64 (x := S * 1000000 + R) (by omega) (by omega), wrapI64 (x := S * 1000000 + R - 1) (by omega) (by omega), tdiv_nn (by omega), wrapI64 (by omega) (by omega), decide_eq_false (by omega)]
  rfl

/-- What goes in a time. -/
def room (rate time : Int) : Int := min (cl rate 1 1099511627776 * cl time 0 1125899906842624 / 1000000) 9223372036854775807

/-- A size is taken. -/
def ltake (l : LK) (now size : Int) : LK × Int × Int :=
  let v := lwi l
  let f := max (cl now 0 1125899906842624) v.2.1
  (lwi (v.1, f + span size v.1, v.2.2 + span size v.1), f, f + span size v.1)

theorem link_Take_eq (N : Nat) (l : LK) (now size : Int) : W.link_Take N l now size = some (ltake l now size) := by
  have hv := lwi_in l
  have hn := clB (a := now) (show (0 : Int) ≤ 1125899906842624 by omega)
  have hs := span_in size (lwi l).1
  simp only [W.link_Take, link_within_eq, sat_Clamp_eq, link_Span_eq, imx_eq, Option.bind_some, ltake]
  rw [wrapI64 (x := max (cl now 0 1125899906842624) (lwi l).2.1 + span size (lwi l).1) (by omega) (by omega), wrapI64 (x := (lwi l).2.2 + span size (lwi l).1) (by omega) (by omega)]

/-- What is known of what went. -/
structure Went (R : Int) (n : Nat) (b e s : List Int) : Prop where
  lb : b.length = n
  le : e.length = n
  ls : s.length = n
  at_ : ∀ k, k < n → 0 ≤ b.getD k 0 ∧ b.getD k 0 < e.getD k 0 ∧ e.getD k 0 ≤ 70000000000 * (k + 1) ∧ 1 ≤ s.getD k 0 ∧ s.getD k 0 ≤ 65536 ∧ s.getD k 0 * 1000000 ≤ R * (e.getD k 0 - b.getD k 0)
  row : ∀ k, k + 1 < n → e.getD k 0 ≤ b.getD (k + 1) 0

theorem getD_app {l : List Int} {x : Int} {k n : Nat} (h : l.length = n) : (l ++ [x]).getD k 0 = if k < n then l.getD k 0 else if k = n then x else 0 := by
  subst h
  split
  · rename_i hk; simp [List.getD, List.getElem?_append_left hk]
  · split
    · rename_i hk; subst hk; simp [List.getD]
    · simp [List.getD, List.getElem?_append_right (show l.length ≤ k by omega)]
      rw [List.getElem?_eq_none (by simp; omega)]; rfl

theorem Went.more {R : Int} {n : Nat} {b e s : List Int} (h : Went R n b e s) {x y z : Int} (hx : 0 ≤ x ∧ x < y) (hy : y ≤ 70000000000 * (n + 1)) (hz : 1 ≤ z ∧ z ≤ 65536) (hR : z * 1000000 ≤ R * (y - x)) (hl : n = 0 ∨ e.getD (n - 1) 0 ≤ x) :
    Went R (n + 1) (b ++ [x]) (e ++ [y]) (s ++ [z]) where
  lb := by simp [h.lb]
  le := by simp [h.le]
  ls := by simp [h.ls]
  at_ := fun k hk => by
    rw [getD_app h.lb, getD_app h.le, getD_app h.ls]
    by_cases hkn : k < n
    · simp only [hkn, if_true]; exact h.at_ k hkn
    · obtain rfl : k = n := by omega
      simp only [hkn, if_false, if_true]
      exact ⟨hx.1, hx.2, hy, hz.1, hz.2, hR⟩
  row := fun k hk => by
    rw [getD_app h.lb, getD_app h.le]
    by_cases hkn : k + 1 < n
    · simp only [hkn, if_true, show k < n by omega]; exact h.row k hkn
    · obtain rfl : k + 1 = n := by omega
      simp only [Nat.lt_irrefl, if_false, if_true, show k < k + 1 by omega]
      rcases hl with hl | hl
      · omega
      · simpa using hl

theorem u16_range {x : Int} (h : SK.wf (.int .u16) x) : 0 ≤ x ∧ x ≤ 65535 := by
  simp only [SK.wf, IntKind.min, IntKind.max, IntKind.signed, IntKind.bits] at h
  simp at h
  omega

end Go.Proofs.YtgjmfljogaanfaaGreat.Pure
