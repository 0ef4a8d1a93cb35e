/- Windows that grow and fall by shares: what the program and the document's answer compute; the laws of the scale. -/
import Derived.Test.YtlnbhofiihkpoaaRRRPFixedL
namespace Go.Proofs.YtlnbhofiihkpoaaRRR.Pure
open Go.Ev Go.RowKit

def wsz (m : Int) : Int := cl m 1 65536

theorem wsz_in (m : Int) : 1 ≤ wsz m ∧ wsz m ≤ 65536 := by simp only [wsz, cl]; omega

theorem wsz_wsz (m : Int) : wsz (wsz m) = wsz m := by simp only [wsz, cl]; omega

/-- A window within its ends. -/
def winW (w : Int × Int × Int) (m : Int) : Int × Int × Int := (cl w.1 (wsz m) 1073741824, cl w.2.1 0 1073741824, cl w.2.2 0 1125899906842623)

theorem winW_in (w : Int × Int × Int) (m : Int) : wsz m ≤ (winW w m).1 ∧ (winW w m).1 ≤ 1073741824 ∧ 0 ≤ (winW w m).2.1 ∧ (winW w m).2.1 ≤ 1073741824 ∧ 0 ≤ (winW w m).2.2 ∧ (winW w m).2.2 ≤ 1125899906842623 := by
  have := wsz_in m
  simp only [winW]
  generalize wsz m = z at *
  simp only [cl]; omega

theorem reno_size_eq (N : Nat) (m : Int) : W.reno_size N m = some (wsz m) := by
  simp only [W.reno_size, sat_Clamp_eq, Option.bind_some, wsz]

theorem leatref24_Size_eq (N : Nat) (m : Int) : W.leatref24_Size N m = some (wsz m) := by
  simp only [W.leatref24_Size, wsz, cl, Option.some.injEq]
  repeat' split
  all_goals omega

theorem reno_Within_eq (N : Nat) (w : Int × Int × Int) (m : Int) : W.reno_Within N w m = some (winW w m) := by
  simp only [W.reno_Within, reno_size_eq, sat_Clamp_eq, Option.bind_some, winW]

theorem leatref24_Within_eq (N : Nat) (w : Int × Int × Int) (m : Int) : W.leatref24_Within N w m = some (winW w m) := by
  have := wsz_in m
  simp only [W.leatref24_Within, leatref24_Size_eq, Option.bind_some, winW, Option.some.injEq, Prod.mk.injEq]
  generalize wsz m = z at *
  simp only [cl]
  refine ⟨?_, ?_, ?_⟩ <;> split <;> split <;> omega

theorem winW_wsz (w : Int × Int × Int) (m : Int) : winW w (wsz m) = winW w m := by simp only [winW, wsz_wsz]

/-- Growth. -/
def rgrow (w : Int × Int × Int) (acked mss share : Int) : Int × Int × Int :=
  let v := winW w mss
  let a := cl acked 0 16777216
  let fast := if v.1 < v.2.1 then min a (v.2.1 - v.1) else 0
  let k := v.2.2 + part ((a - fast) * wsz mss) share
  winW (v.1 + fast + k / (v.1 + fast), v.2.1, k % (v.1 + fast)) mss

theorem reno_Slow_eq (N : Nat) (w : Int × Int × Int) : W.reno_Slow N w = some (decide (w.1 < w.2.1)) := rfl

/-- The last step of growth, in the program's text. -/
theorem grow_end (N : Nat) {c t k m a : Int} (mss share : Int) (em : m = wsz mss) (hc : 1 ≤ c ∧ c ≤ 1073741824) (hk : 0 ≤ k ∧ k ≤ 1125899906842623) (hm : 1 ≤ m ∧ m ≤ 65536) (ha : 0 ≤ a ∧ a ≤ 16777216) :
    ((W.fixed_Part N (IntKind.wrap .i64 (a * m)) share).bind fun r => bif (!(decide (c = 0))) then (W.reno_Within N ((IntKind.wrap .i64 (c + (IntKind.wrap .i64 (Int.tdiv (IntKind.wrap .i64 (k + r)) c)))), (t, (IntKind.wrap .i64 ((IntKind.wrap .i64 (k + r)) - (IntKind.wrap .i64 ((IntKind.wrap .i64 (Int.tdiv (IntKind.wrap .i64 (k + r)) c)) * c)))))) m).bind fun r => some r else none)
      = some (winW (c + (k + part (a * m) share) / c, t, (k + part (a * m) share) % c) mss) := by
  have am := Int.mul_le_mul ha.2 hm.2 (by omega) (by omega : (0 : Int) ≤ 16777216)
  have a0 := Int.mul_nonneg ha.1 (show 0 ≤ m by omega)
  have hp := (part_I (x := a * m) share ⟨by omega, by omega⟩).1 a0
  rw [wrapI64 (x := a * m) (by omega) (by omega), fixed_Part_eq N share ⟨by omega, by omega⟩, Option.bind_some]
  generalize part (a * m) share = p at *
  have q0 := Int.ediv_nonneg (show 0 ≤ k + p by omega) (show 0 ≤ c by omega)
  have q1 := Int.ediv_le_self c (show 0 ≤ k + p by omega)
  have e := Int.emod_add_mul_ediv (k + p) c
  have m0 := Int.emod_nonneg (k + p) (show c ≠ 0 by omega)
  have m1 := Int.emod_lt_of_pos (k + p) (show 0 < c by omega)
  have mn := Int.mul_nonneg q0 (show 0 ≤ c by omega)
  have cm := Int.mul_comm ((k + p) / c) c
  rw [wrapI64 (x := k + p) (by omega) (by omega), tdiv_nn (by omega), wrapI64 (x := (k + p) / c) (by omega) (by omega), wrapI64 (x := (k + p) / c * c) (by omega) (by omega), wrapI64 (x := c + (k + p) / c) (by omega) (by omega), wrapI64 (x := k + p - (k + p) / c * c) (by omega) (by omega)]
  rw [show k + p - (k + p) / c * c = (k + p) % c by omega, decide_eq_false (show ¬ c = 0 by omega), reno_Within_eq, em, winW_wsz]
  rfl

theorem reno_Grow_eq (N : Nat) (w : Int × Int × Int) (acked mss share : Int) : W.reno_Grow N w acked mss share = some (rgrow w acked mss share) := by
  have h := winW_in w mss
  have hz := wsz_in mss
  have ha : 0 ≤ cl acked 0 16777216 ∧ cl acked 0 16777216 ≤ 16777216 := by simp only [cl]; omega
  simp only [W.reno_Grow, reno_Within_eq N w mss, reno_size_eq, sat_Clamp_eq, reno_Slow_eq, Option.bind_some, rgrow]
  by_cases hs : (winW w mss).1 < (winW w mss).2.1
  · have w1 := wrapI64 (x := (winW w mss).2.1 - (winW w mss).1) (by omega) (by omega)
    have ef : (if (winW w mss).2.1 - (winW w mss).1 < cl acked 0 16777216 then (winW w mss).2.1 - (winW w mss).1 else cl acked 0 16777216) = min (cl acked 0 16777216) ((winW w mss).2.1 - (winW w mss).1) := by split <;> omega
    rw [bift hs, if_pos hs, w1, ef]
    have w2 := wrapI64 (x := cl acked 0 16777216 - min (cl acked 0 16777216) ((winW w mss).2.1 - (winW w mss).1)) (by omega) (by omega)
    have w3 := wrapI64 (x := (winW w mss).1 + min (cl acked 0 16777216) ((winW w mss).2.1 - (winW w mss).1)) (by omega) (by omega)
    rw [w2, w3]
    exact grow_end N mss share rfl (by omega) (by omega) hz (by omega)
  · rw [biff hs, if_neg hs, Int.add_zero, Int.sub_zero]
    exact grow_end N mss share rfl (by omega) (by omega) hz ha

/-- The same, in the document's answer. -/
theorem ref_end (N : Nat) {c t k m a : Int} (mss share : Int) (hc : 1 ≤ c ∧ c ≤ 1073741824) (hk : 0 ≤ k ∧ k ≤ 1125899906842623) (hm : 1 ≤ m ∧ m ≤ 65536) (ha : 0 ≤ a ∧ a ≤ 16777216) (hN : 2000 < N) :
    ((W.leatref04_Part N (IntKind.wrap .i64 (a * m)) share).bind fun r => bif (!(decide (c = 0))) then bif (!(decide (c = 0))) then (W.leatref24_Within N ((IntKind.wrap .i64 (c + (IntKind.wrap .i64 (Int.tdiv (IntKind.wrap .i64 (k + r)) c)))), (t, (Int.tmod (IntKind.wrap .i64 (k + r)) c))) mss).bind fun r => some r else none else none)
      = some (winW (c + (k + part (a * m) share) / c, t, (k + part (a * m) share) % c) mss) := by
  have am := Int.mul_le_mul ha.2 hm.2 (by omega) (by omega : (0 : Int) ≤ 16777216)
  have a0 := Int.mul_nonneg ha.1 (show 0 ≤ m by omega)
  have hp := (part_I (x := a * m) share ⟨by omega, by omega⟩).1 a0
  rw [wrapI64 (x := a * m) (by omega) (by omega), leatref04_Part_eq N share ⟨by omega, by omega⟩ hN, Option.bind_some]
  generalize part (a * m) share = p at *
  have q0 := Int.ediv_nonneg (show 0 ≤ k + p by omega) (show 0 ≤ c by omega)
  have q1 := Int.ediv_le_self c (show 0 ≤ k + p by omega)
  rw [wrapI64 (x := k + p) (by omega) (by omega), tdiv_nn (by omega), tmod_nn (by omega), wrapI64 (x := (k + p) / c) (by omega) (by omega), wrapI64 (x := c + (k + p) / c) (by omega) (by omega)]
  rw [decide_eq_false (show ¬ c = 0 by omega), leatref24_Within_eq]
  rfl

theorem leatref24_Grow_eq (N : Nat) (w : Int × Int × Int) (acked mss share : Int) (hN : 2000 < N) : W.leatref24_Grow N w acked mss share = some (rgrow w acked mss share) := by
  have h := winW_in w mss
  have hz := wsz_in mss
  have ha : 0 ≤ cl acked 0 16777216 ∧ cl acked 0 16777216 ≤ 16777216 := by simp only [cl]; omega
  have ea : (if 16777216 < (if 0 > acked then 0 else acked) then 16777216 else (if 0 > acked then 0 else acked)) = cl acked 0 16777216 := by simp only [cl]; split <;> split <;> omega
  simp only [W.leatref24_Grow, leatref24_Within_eq N w mss, leatref24_Size_eq, Option.bind_some, ea, rgrow]
  by_cases hs : (winW w mss).1 < (winW w mss).2.1
  · have w1 := wrapI64 (x := (winW w mss).2.1 - (winW w mss).1) (by omega) (by omega)
    rw [bift hs, if_pos hs, w1]
    by_cases hl : (winW w mss).2.1 - (winW w mss).1 < cl acked 0 16777216
    · have em : min (cl acked 0 16777216) ((winW w mss).2.1 - (winW w mss).1) = (winW w mss).2.1 - (winW w mss).1 := by omega
      have es : (winW w mss).1 + ((winW w mss).2.1 - (winW w mss).1) = (winW w mss).2.1 := by omega
      have w2 := wrapI64 (x := cl acked 0 16777216 - ((winW w mss).2.1 - (winW w mss).1)) (by omega) (by omega)
      rw [bift hl, em, es, w2]
      exact ref_end N mss share (by omega) (by omega) hz (by omega) hN
    · have em : min (cl acked 0 16777216) ((winW w mss).2.1 - (winW w mss).1) = cl acked 0 16777216 := by omega
      have w3 := wrapI64 (x := (winW w mss).1 + cl acked 0 16777216) (by omega) (by omega)
      rw [biff hl, em, w3, Int.sub_self]
      exact ref_end N mss share (by omega) (by omega) hz (by omega) hN
  · rw [biff hs, if_neg hs, Int.add_zero, Int.sub_zero]
    exact ref_end N mss share (by omega) (by omega) hz ha hN

/-- A fall. -/
def rcut (w : Int × Int × Int) (share mss : Int) : Int × Int × Int :=
  let n := max ((winW w mss).1 - part (winW w mss).1 share) (min (2 * wsz mss) (winW w mss).1)
  (n, n, 0)

theorem reno_Cut_eq (N : Nat) (w : Int × Int × Int) (share mss : Int) : W.reno_Cut N w share mss = some (rcut w share mss) := by
  have h := winW_in w mss
  have hz := wsz_in mss
  have hp := (part_I (x := (winW w mss).1) share ⟨by omega, by omega⟩).1 (by omega)
  simp only [W.reno_Cut, reno_Within_eq N w mss, reno_size_eq, fixed_Part_eq N share (show I64 (winW w mss).1 from ⟨by omega, by omega⟩), Option.bind_some, rcut]
  rw [wrapI64 (x := 2 * wsz mss) (by omega) (by omega), wrapI64 (x := (winW w mss).1 - part (winW w mss).1 share) (by omega) (by omega)]
  generalize part (winW w mss).1 share = p at *
  have e : (if (if (winW w mss).1 < 2 * wsz mss then (winW w mss).1 else 2 * wsz mss) > (winW w mss).1 - p then (if (winW w mss).1 < 2 * wsz mss then (winW w mss).1 else 2 * wsz mss) else (winW w mss).1 - p) = max ((winW w mss).1 - p) (min (2 * wsz mss) (winW w mss).1) := by
    split <;> split <;> omega
  rw [e]

theorem leatref24_Cut_eq (N : Nat) (w : Int × Int × Int) (share mss : Int) (hN : 2000 < N) : W.leatref24_Cut N w share mss = some (rcut w share mss) := by
  have h := winW_in w mss
  have hz := wsz_in mss
  have hp := (part_I (x := (winW w mss).1) share ⟨by omega, by omega⟩).1 (by omega)
  simp only [W.leatref24_Cut, leatref24_Within_eq N w mss, leatref24_Size_eq, leatref04_Part_eq N share (show I64 (winW w mss).1 from ⟨by omega, by omega⟩) hN, Option.bind_some, rcut]
  rw [wrapI64 (x := 2 * wsz mss) (by omega) (by omega), wrapI64 (x := (winW w mss).1 - part (winW w mss).1 share) (by omega) (by omega), bifd]
  generalize part (winW w mss).1 share = p at *
  have e1 : (if (winW w mss).1 < 2 * wsz mss then (winW w mss).1 else 2 * wsz mss) = min (2 * wsz mss) (winW w mss).1 := by split <;> omega
  rw [e1]
  split
  · rw [show max ((winW w mss).1 - p) (min (2 * wsz mss) (winW w mss).1) = min (2 * wsz mss) (winW w mss).1 by omega]
  · rw [show max ((winW w mss).1 - p) (min (2 * wsz mss) (winW w mss).1) = (winW w mss).1 - p by omega]

/-- By which share growth is slowed. -/
def pscale (r t : Int) : Int := if t ≤ 0 ∨ t ≤ r then 1048576 else ratio r t * ratio r t / 1048576

theorem sq_in {f : Int} (h : 0 ≤ f ∧ f ≤ 1048576) : 0 ≤ f * f ∧ f * f ≤ 1099511627776 ∧ 0 ≤ f * f / 1048576 ∧ f * f / 1048576 ≤ 1048576 := by
  have m := Int.mul_le_mul h.2 h.2 h.1 (by omega : (0 : Int) ≤ 1048576)
  have n := Int.mul_nonneg h.1 h.1
  omega

theorem prague_Scale_eq (N : Nat) {r t : Int} (hr : I64 r) (ht : I64 t) (hN : 2000 < N) : W.prague_Scale N r t = some (pscale r t) := by
  have h := ratio_in r t
  have e : cl (ratio r t) 0 1048576 = ratio r t := by generalize ratio r t = f at *; simp only [cl]; omega
  simp only [W.prague_Scale, W.prague_Scale_1, fixed_Ratio_eq N hr ht hN, fixed_Mul_eq, Option.bind_some, part, e, pscale]
  by_cases h1 : t ≤ 0
  · rw [decide_eq_true h1, if_pos (.inl h1)]; rfl
  · rw [decide_eq_false h1]
    by_cases h2 : t ≤ r
    · rw [bift h2, if_pos (.inr h2)]; rfl
    · rw [biff h2, if_neg (by omega)]; rfl

theorem leatref26_Scale_eq (N : Nat) {r t : Int} (hr : I64 r) (ht : I64 t) (hN : 2000 < N) : W.leatref26_Scale N r t = some (pscale r t) := by
  have h := ratio_in r t
  have g := sq_in h
  simp only [W.leatref26_Scale, leatref04_Ratio_eq N hr ht hN, Option.bind_some, pscale]
  rw [wrapI64 (x := ratio r t * ratio r t) (by omega) (by omega), tdiv_nn (by omega), wrapI64 (x := ratio r t * ratio r t / 1048576) (by omega) (by omega)]
  by_cases h2 : t ≤ r
  · rw [decide_eq_true h2, if_pos (.inr h2)]; rfl
  · rw [decide_eq_false h2]
    by_cases h1 : t ≤ 0
    · rw [bift h1, if_pos (.inl h1)]; rfl
    · rw [biff h1, if_neg (by omega)]; rfl

theorem prague_half_eq (N : Nat) (s : Int) (hN : 2000 < N) : W.prague_half N s = some (cl s 0 1048576 / 2) := by
  simp only [W.prague_half, sat_Clamp_eq, fixed_Halve_eq N _ _ hN, Option.bind_some, halve]
  rfl

/-- By which share a window falls. -/
def pblend (s x : Int) : Int := cl s 0 1048576 / 2 + (524288 - cl s 0 1048576 / 2) * cl x 0 1048576 / 1048576

theorem pblend_in (s x : Int) : cl s 0 1048576 / 2 ≤ pblend s x ∧ pblend s x ≤ 524288 := by
  have h := cls20 s
  have h2 := part_I (x := 524288 - cl s 0 1048576 / 2) x ⟨by omega, by omega⟩
  simp only [part] at h2
  simp only [pblend]; omega

theorem prague_Blend_eq (N : Nat) (s x : Int) (hN : 2000 < N) : W.prague_Blend N s x = some (pblend s x) := by
  have h := cls20 s
  have g := pblend_in s x
  simp only [W.prague_Blend, prague_half_eq N _ hN, Option.bind_some, show cl 1048576 0 1048576 / 2 = 524288 from rfl]
  rw [wrapI64 (x := 524288 - cl s 0 1048576 / 2) (by omega) (by omega), fixed_Part_eq N x ⟨by omega, by omega⟩, Option.bind_some]
  exact congrArg some (wrapI64 (by simp only [part]; simp only [pblend] at g; omega) (by simp only [part]; simp only [pblend] at g; omega))

theorem leatref26_Blend_eq (N : Nat) (s x : Int) : W.leatref26_Blend N s x = some (pblend s x) := by
  have h := cls20 s
  have h2 := cls20 x
  have g := pblend_in s x
  have m := Int.mul_le_mul (show 524288 - cl s 0 1048576 / 2 ≤ 524288 by omega) h2.2 h2.1 (by omega : (0 : Int) ≤ 524288)
  have n := Int.mul_nonneg (show 0 ≤ 524288 - cl s 0 1048576 / 2 by omega) h2.1
  simp only [W.leatref26_Blend, leatref04_Share_eq, Option.bind_some]
  rw [tdiv_nn h.1, wrapI64 (x := cl s 0 1048576 / 2) (by omega) (by omega), wrapI64 (x := 524288 - cl s 0 1048576 / 2) (by omega) (by omega), wrapI64 (x := (524288 - cl s 0 1048576 / 2) * cl x 0 1048576) (by omega) (by omega), tdiv_nn n, wrapI64 (x := (524288 - cl s 0 1048576 / 2) * cl x 0 1048576 / 1048576) (by omega) (by omega)]
  exact congrArg some (wrapI64 (by simp only [pblend] at g; omega) (by simp only [pblend] at g; omega))

theorem leatlaw26_works_eq (N : Nat) (hN : 2000 < N) : W.leatlaw26_works N = some true := by
  simp only [W.leatlaw26_works, prague_Scale_eq N (show I64 10000 from ⟨by omega, by omega⟩) (show I64 20000 from ⟨by omega, by omega⟩) hN, prague_Blend_eq N _ _ hN, Option.bind_some]
  rfl

theorem prague_Grow_eq (N : Nat) (w : Int × Int × Int) {a m r t : Int} (hr : I64 r) (ht : I64 t) (hN : 2000 < N) : W.prague_Grow N w a m r t = some (rgrow w a m (pscale r t)) := by
  simp only [W.prague_Grow, prague_Scale_eq N hr ht hN, reno_Grow_eq, Option.bind_some]

theorem leatref26_Grow_eq (N : Nat) (w : Int × Int × Int) {a m r t : Int} (hr : I64 r) (ht : I64 t) (hN : 2000 < N) : W.leatref26_Grow N w a m r t = some (rgrow w a m (pscale r t)) := by
  simp only [W.leatref26_Grow, leatref26_Scale_eq N hr ht hN, leatref24_Grow_eq N _ _ _ _ hN, Option.bind_some]

theorem prague_Reduce_eq (N : Nat) (w : Int × Int × Int) (s m : Int) (hN : 2000 < N) : W.prague_Reduce N w s m = some (rcut w (cl s 0 1048576 / 2) m) := by
  simp only [W.prague_Reduce, prague_half_eq N _ hN, reno_Cut_eq, Option.bind_some]

theorem leatref26_Reduce_eq (N : Nat) (w : Int × Int × Int) (s m : Int) (hN : 2000 < N) : W.leatref26_Reduce N w s m = some (rcut w (cl s 0 1048576 / 2) m) := by
  have h := cls20 s
  simp only [W.leatref26_Reduce, leatref04_Share_eq, Option.bind_some]
  rw [tdiv_nn h.1, wrapI64 (by omega) (by omega), leatref24_Cut_eq N _ _ _ hN]
  rfl

theorem PragueScales_i (N : Nat) (hN : 2000 < N) {r t : Int} (a b : Int) (hr : I64 r) (ht : I64 t) : W.leatlaw26_PragueScales N r t (a, b) = some true := by
  simp only [W.leatlaw26_PragueScales, prague_Scale_eq N hr ht hN, leatref26_Scale_eq N hr ht hN, prague_Blend_eq N _ _ hN, leatref26_Blend_eq, leatlaw26_works_eq N hN, Option.bind_some, beq_self_eq_true, cond_true]

theorem PragueScales (x : RT [.sc (.int .i64), .sc (.int .i64), .agg [.int .i64, .int .i64]]) (h : RT.wf _ x) : ∃ N, uncR [.sc (.int .i64), .sc (.int .i64), .agg [.int .i64, .int .i64]] (W.leatlaw26_PragueScales N) x = some true := by
  obtain ⟨r, t, a, b⟩ := x
  exact ⟨3000, PragueScales_i 3000 (by omega) a b (i64_range h.1) (i64_range h.2.1)⟩

theorem PragueGrows_i (N : Nat) (hN : 2000 < N) (w : Int × Int × Int) {a m r t : Int} (hr : I64 r) (ht : I64 t) : W.leatlaw26_PragueGrows N w (a, m) (r, t) = some true := by
  simp only [W.leatlaw26_PragueGrows, prague_Grow_eq N w hr ht hN, leatref26_Grow_eq N w hr ht hN, prague_Reduce_eq N _ _ _ hN, leatref26_Reduce_eq N _ _ _ hN, leatlaw26_works_eq N hN, Option.bind_some, beq_self_eq_true, Bool.and_self, cond_true]

theorem PragueGrows (x : RT [.agg [.int .i64, .int .i64, .int .i64], .agg [.int .i64, .int .i64], .agg [.int .i64, .int .i64]]) (h : RT.wf _ x) : ∃ N, uncR [.agg [.int .i64, .int .i64, .int .i64], .agg [.int .i64, .int .i64], .agg [.int .i64, .int .i64]] (W.leatlaw26_PragueGrows N) x = some true := by
  obtain ⟨w, ⟨a, m⟩, r, t⟩ := x
  exact ⟨3000, PragueGrows_i 3000 (by omega) w (i64_range h.2.2.1) (i64_range h.2.2.2)⟩

theorem pscale_sq {r t : Int} (ht : 1 ≤ t) : pscale r t = ratio r t * ratio r t / 1048576 := by
  simp only [pscale]
  split
  · have : ratio r t = 1048576 := by simp only [ratio]; rw [if_neg (by omega), if_pos (by omega)]
    rw [this]; rfl
  · rfl

theorem ratio_up {a b t : Int} (h : a ≤ b) (ht : 1 ≤ t) : ratio a t ≤ ratio b t := by
  have h1 := ratio_in a t
  have h2 := ratio_in b t
  by_cases c1 : a ≤ 0
  · have : ratio a t = 0 := by simp only [ratio]; rw [if_pos c1]
    omega
  by_cases c2 : t ≤ b
  · have : ratio b t = 1048576 := by simp only [ratio]; rw [if_neg (by omega), if_pos (.inr c2)]
    omega
  simp only [ratio]
  rw [if_neg c1, if_neg (by omega), if_neg (by omega), if_neg (by omega)]
  exact Int.ediv_le_ediv (by omega) (by omega)

theorem ratio_down {a t u : Int} (h : t ≤ u) (ht : 1 ≤ t) : ratio a u ≤ ratio a t := by
  have h1 := ratio_in a t
  have h2 := ratio_in a u
  by_cases c1 : a ≤ 0
  · have : ratio a u = 0 := by simp only [ratio]; rw [if_pos c1]
    omega
  by_cases c2 : t ≤ a
  · have : ratio a t = 1048576 := by simp only [ratio]; rw [if_neg (by omega), if_pos (.inr c2)]
    omega
  simp only [ratio]
  rw [if_neg c1, if_neg (by omega), if_neg c1, if_neg (by omega)]
  apply Int.le_ediv_of_mul_le (by omega)
  have q0 := Int.ediv_nonneg (show 0 ≤ a * 1048576 by omega) (show 0 ≤ u by omega)
  have m := Int.mul_le_mul_of_nonneg_left h q0
  have e := Int.ediv_mul_le (a * 1048576) (show u ≠ 0 by omega)
  omega

theorem sq_le {f g : Int} (h0 : 0 ≤ f) (h : f ≤ g) : f * f / 1048576 ≤ g * g / 1048576 := Int.ediv_le_ediv (by omega) (Int.mul_le_mul h h h0 (by omega))

theorem PragueBetween_i (N : Nat) (hN : 2000 < N) {r1 r2 t1 t2 : Int} (a b : Int) (hr1 : I64 r1) (hr2 : I64 r2) (ht1 : I64 t1) (ht2 : I64 t2) : W.leatlaw26_PragueBetween N (r1, r2) (t1, t2) (a, b) = some true := by
  have e1 : (if r2 < r1 then r2 else r1) = min r1 r2 := by split <;> omega
  have e2 : (if r2 > r1 then r2 else r1) = max r1 r2 := by split <;> omega
  have e3 : (if 1 > (if t2 < t1 then t2 else t1) then 1 else (if t2 < t1 then t2 else t1)) = max (min t1 t2) 1 := by split <;> split <;> omega
  have e4 : (if 1 > (if t2 > t1 then t2 else t1) then 1 else (if t2 > t1 then t2 else t1)) = max (max t1 t2) 1 := by split <;> split <;> omega
  have e5 : (if 1048576 < (if 0 > a then 0 else a) then 1048576 else (if 0 > a then 0 else a)) = cl a 0 1048576 := by simp only [cl]; split <;> split <;> omega
  have h := cls20 a
  have g := pblend_in a b
  have m1 : pscale (min r1 r2) (max (min t1 t2) 1) ≤ pscale (max r1 r2) (max (min t1 t2) 1) := by
    rw [pscale_sq (by omega), pscale_sq (by omega)]
    exact sq_le (ratio_in _ _).1 (ratio_up (by omega) (by omega))
  have m2 : pscale (min r1 r2) (max (max t1 t2) 1) ≤ pscale (min r1 r2) (max (min t1 t2) 1) := by
    rw [pscale_sq (by omega), pscale_sq (by omega)]
    exact sq_le (ratio_in _ _).1 (ratio_down (by omega) (by omega))
  have S := fun r t (h1 : I64 r) (h2 : I64 t) => prague_Scale_eq N h1 h2 hN
  simp only [W.leatlaw26_PragueBetween, e1, e2, e3, e4, e5, prague_Blend_eq N _ _ hN, leatlaw26_works_eq N hN, Option.bind_some,
    S (min r1 r2) (max (min t1 t2) 1) ⟨by omega, by omega⟩ ⟨by omega, by omega⟩, S (max r1 r2) (max (min t1 t2) 1) ⟨by omega, by omega⟩ ⟨by omega, by omega⟩, S (min r1 r2) (max (max t1 t2) 1) ⟨by omega, by omega⟩ ⟨by omega, by omega⟩]
  rw [tdiv_nn h.1, wrapI64 (x := cl a 0 1048576 / 2) (by omega) (by omega), decide_eq_true m1, decide_eq_true m2, decide_eq_true g.1, decide_eq_true g.2]
  rfl

theorem PragueBetween (x : RT [.agg [.int .i64, .int .i64], .agg [.int .i64, .int .i64], .agg [.int .i64, .int .i64]]) (h : RT.wf _ x) : ∃ N, uncR [.agg [.int .i64, .int .i64], .agg [.int .i64, .int .i64], .agg [.int .i64, .int .i64]] (W.leatlaw26_PragueBetween N) x = some true := by
  obtain ⟨⟨r1, r2⟩, ⟨t1, t2⟩, a, b⟩ := x
  exact ⟨3000, PragueBetween_i 3000 (by omega) a b (i64_range h.1.1) (i64_range h.1.2) (i64_range h.2.1.1) (i64_range h.2.1.2)⟩

end Go.Proofs.YtlnbhofiihkpoaaRRR.Pure
