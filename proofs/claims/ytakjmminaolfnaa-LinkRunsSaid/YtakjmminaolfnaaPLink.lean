/- A link: how long a size takes, and how much goes in a time; the laws. -/
import Derived.Test.YtakjmminaolfnaaPSmul
namespace Go.Proofs.Ytakjmminaolfnaa.Pure
open Go.Ev Go.RowKit

theorem clB {a lo hi : Int} (h : lo ≤ hi) : lo ≤ cl a lo hi ∧ cl a lo hi ≤ hi := by simp only [cl]; omega

abbrev LK : Type := Int × Int × Int

def lwi (l : LK) : LK := (cl l.1 1 1099511627776, cl l.2.1 0 1152921504606846976, cl l.2.2 0 1152921504606846976)

theorem lwi_in (l : LK) : 1 ≤ (lwi l).1 ∧ (lwi l).1 ≤ 1099511627776 ∧ 0 ≤ (lwi l).2.1 ∧ (lwi l).2.1 ≤ 1152921504606846976 ∧ 0 ≤ (lwi l).2.2 ∧ (lwi l).2.2 ≤ 1152921504606846976 := by
  simp only [lwi, cl]; omega

theorem lwi_lwi (l : LK) : lwi (lwi l) = lwi l := by
  simp only [lwi, cl, Prod.mk.injEq]; omega

def span (size rate : Int) : Int := (cl size 1 65536 * 1000000 + cl rate 1 1099511627776 - 1) / cl rate 1 1099511627776

theorem span_in (size rate : Int) : 1 ≤ span size rate ∧ span size rate ≤ 65536000000 ∧ cl size 1 65536 * 1000000 ≤ cl rate 1 1099511627776 * span size rate := by
  have hs := clB (a := size) (show (1 : Int) ≤ 65536 by omega)
  have hr := clB (a := rate) (show (1 : Int) ≤ 1099511627776 by omega)
  simp only [span]
  generalize cl size 1 65536 = S at *
  generalize cl rate 1 1099511627776 = R at *
  have h1 : 1 ≤ (S * 1000000 + R - 1) / R := Int.le_ediv_of_mul_le (by omega) (by omega)
  have e := Int.emod_add_mul_ediv (S * 1000000 + R - 1) R
  have m1 := Int.emod_lt_of_pos (S * 1000000 + R - 1) (show 0 < R by omega)
  refine ⟨h1, ?_, by omega⟩
  have : (S * 1000000 + R - 1) / R < S * 1000000 + 1 := by
    apply Int.ediv_lt_of_lt_mul (by omega)
    have := Int.mul_le_mul_of_nonneg_left hr.1 (show 0 ≤ S * 1000000 by omega)
    have g : (S * 1000000 + 1) * R = S * 1000000 * R + R := by grind
    omega
  omega

theorem link_within_eq (N : Nat) (l : LK) : W.link_within N l = some (lwi l) := by
  simp only [W.link_within, sat_Clamp_eq, Option.bind_some, lwi]

theorem leatref37_keep_eq (N : Nat) {a lo hi : Int} (h : lo ≤ hi) : W.leatref37_keep N a lo hi = some (cl a lo hi) := by
  simp only [W.leatref37_keep, imn_eq, imx_eq, cl, Option.some.injEq]; omega

theorem leatref37_Within_eq (N : Nat) (l : LK) : W.leatref37_Within N l = some (lwi l) := by
  simp only [W.leatref37_Within, leatref37_keep_eq N (show (1 : Int) ≤ 1099511627776 by omega), leatref37_keep_eq N (show (0 : Int) ≤ 1152921504606846976 by omega), Option.bind_some, lwi]

/-- Upwards is downwards of what is below. -/
theorem up_div {x r : Int} (hr : 0 < r) : -(-x / r) = (x + r - 1) / r := by
  have e1 := Int.emod_add_mul_ediv (-x) r
  have e2 := Int.emod_add_mul_ediv (x + r - 1) r
  have a0 := Int.emod_nonneg (-x) (show r ≠ 0 by omega)
  have a1 := Int.emod_lt_of_pos (-x) hr
  have b0 := Int.emod_nonneg (x + r - 1) (show r ≠ 0 by omega)
  have b1 := Int.emod_lt_of_pos (x + r - 1) hr
  have g : r * (-x / r + (x + r - 1) / r) = r - 1 - (-x) % r - (x + r - 1) % r := by grind
  obtain ⟨d, hd⟩ : ∃ d, -x / r + (x + r - 1) / r = d := ⟨_, rfl⟩
  rw [hd] at g
  have h1 : ¬ 1 ≤ d := fun h => by have := Int.mul_le_mul_of_nonneg_left h (show 0 ≤ r by omega); omega
  have h2 : ¬ d ≤ -1 := fun h => by have := Int.mul_le_mul_of_nonneg_left h (show 0 ≤ r by omega); omega
  omega

theorem link_Span_eq (N : Nat) (size rate : Int) : W.link_Span N size rate = some (span size rate) := by
  have hs := clB (a := size) (show (1 : Int) ≤ 65536 by omega)
  have hr := clB (a := rate) (show (1 : Int) ≤ 1099511627776 by omega)
  have hp := span_in size rate
  simp only [W.link_Span, sat_Clamp_eq, Option.bind_some]
  simp only [span] at hp ⊢
  generalize cl size 1 65536 = S at *
  generalize cl rate 1 1099511627776 = R at *
  rw [wrapI64 (x := 0 - S) (by omega) (by omega), wrapI64 (x := (0 - S) * 1000000) (by omega) (by omega), sat_Div_eq N ⟨by omega, by omega⟩ (by omega), Option.bind_some]
  have e := up_div (x := S * 1000000) (r := R) (by omega)
  rw [show (0 - S) * 1000000 = -(S * 1000000) by omega, Int.zero_sub, e, wrapI64 (by omega) (by omega)]

theorem leatref37_Span_eq (N : Nat) (size rate : Int) : W.leatref37_Span N size rate = some (span size rate) := by
  have hs := clB (a := size) (show (1 : Int) ≤ 65536 by omega)
  have hr := clB (a := rate) (show (1 : Int) ≤ 1099511627776 by omega)
  have hp := span_in size rate
  simp only [W.leatref37_Span, leatref37_keep_eq N (show (1 : Int) ≤ 1099511627776 by omega), leatref37_keep_eq N (show (1 : Int) ≤ 65536 by omega), Option.bind_some]
  simp only [span] at hp ⊢
  generalize cl size 1 65536 = S at *
  generalize cl rate 1 1099511627776 = R at *
  rw [wrapI64 (x := S * 1000000) (by omega) (by omega), wrapI64 (x := S * 1000000 + R) (by omega) (by omega), wrapI64 (x := S * 1000000 + R - 1) (by omega) (by omega), tdiv_nn (by omega), wrapI64 (by omega) (by omega), decide_eq_false (by omega)]
  rfl

/-- What goes in a time. -/
def room (rate time : Int) : Int := min (cl rate 1 1099511627776 * cl time 0 1125899906842624 / 1000000) 9223372036854775807

theorem link_Room_eq (N : Nat) (rate time : Int) : W.link_Room N rate time = some (room rate time) := by
  have hr := clB (a := rate) (show (1 : Int) ≤ 1099511627776 by omega)
  have ht := clB (a := time) (show (0 : Int) ≤ 1125899906842624 by omega)
  simp only [W.link_Room, sat_Clamp_eq, Option.bind_some, room]
  generalize cl rate 1 1099511627776 = R at *
  generalize cl time 0 1125899906842624 = T at *
  have m := Int.mul_le_mul hr.2 (show T % 1000000 ≤ 999999 by omega) (by omega) (by omega : (0 : Int) ≤ 1099511627776)
  have n := Int.mul_nonneg (show 0 ≤ R by omega) (show 0 ≤ T % 1000000 by omega)
  have n2 := Int.mul_nonneg (show 0 ≤ R by omega) (show 0 ≤ T / 1000000 by omega)
  have e : R * T = R * (T % 1000000) + 1000000 * (R * (T / 1000000)) := by
    have := Int.emod_add_mul_ediv T 1000000
    generalize T / 1000000 = q at *; generalize T % 1000000 = r at *; rw [← this]; grind
  rw [tdiv_nn ht.1, tmod_nn ht.1, wrapI64 (x := T / 1000000) (by omega) (by omega), sat_Mul_eq N ⟨by omega, by omega⟩ ⟨by omega, by omega⟩, Option.bind_some, wrapI64 (x := R * (T % 1000000)) (by omega) (by omega), tdiv_nn n, wrapI64 (x := R * (T % 1000000) / 1000000) (by omega) (by omega), sat_Add_eq N (smul_I _ _) ⟨by omega, by omega⟩, Option.bind_some, e, Int.add_mul_ediv_left _ _ (by omega)]
  congr 1
  simp only [sadd, smul]
  have hB := Int.ediv_nonneg n (show (0 : Int) ≤ 1000000 by omega)
  generalize R * (T / 1000000) = A at *
  generalize R * (T % 1000000) / 1000000 = B at *
  simp only [cl]; omega

theorem leatref37_Room_eq (N : Nat) (rate time : Int) (hN : 2000 < N) : W.leatref37_Room N rate time = some (room rate time) := by
  have hr := clB (a := rate) (show (1 : Int) ≤ 1099511627776 by omega)
  have ht := clB (a := time) (show (0 : Int) ≤ 1125899906842624 by omega)
  simp only [W.leatref37_Room, leatref37_keep_eq N (show (1 : Int) ≤ 1099511627776 by omega), leatref37_keep_eq N (show (0 : Int) ≤ 1125899906842624 by omega), Option.bind_some, room]
  rw [leatref02_MulDiv_eq N ⟨by omega, by omega⟩ ⟨by omega, by omega⟩ ⟨by omega, by omega⟩ false hN, Option.bind_some]
  simp only [mdv, Bool.false_eq_true, false_and, if_false]
  rw [if_neg (by omega)]
  generalize cl rate 1 1099511627776 * cl time 0 1125899906842624 / 1000000 = q at *
  by_cases h : 9223372036854775807 < q
  · rw [if_pos h, show min q 9223372036854775807 = 9223372036854775807 by omega]; rfl
  · rw [if_neg h, show min q 9223372036854775807 = q by omega]; rfl

/-- A size is taken. -/
def ltake (l : LK) (now size : Int) : LK × Int × Int :=
  let v := lwi l
  let f := max (cl now 0 1125899906842624) v.2.1
  (lwi (v.1, f + span size v.1, v.2.2 + span size v.1), f, f + span size v.1)

theorem link_Take_eq (N : Nat) (l : LK) (now size : Int) : W.link_Take N l now size = some (ltake l now size) := by
  have hv := lwi_in l
  have hn := clB (a := now) (show (0 : Int) ≤ 1125899906842624 by omega)
  have hs := span_in size (lwi l).1
  simp only [W.link_Take, link_within_eq, sat_Clamp_eq, link_Span_eq, imx_eq, Option.bind_some, ltake]
  rw [wrapI64 (x := max (cl now 0 1125899906842624) (lwi l).2.1 + span size (lwi l).1) (by omega) (by omega), wrapI64 (x := (lwi l).2.2 + span size (lwi l).1) (by omega) (by omega)]

theorem leatref37_Take_eq (N : Nat) (l : LK) (now size : Int) : W.leatref37_Take N l now size = some (ltake l now size) := by
  have hv := lwi_in l
  have hn := clB (a := now) (show (0 : Int) ≤ 1125899906842624 by omega)
  have hs := span_in size (lwi l).1
  simp only [W.leatref37_Take, leatref37_Within_eq, leatref37_keep_eq N (show (0 : Int) ≤ 1125899906842624 by omega), leatref37_Span_eq, imx_eq, Option.bind_some, ltake]
  rw [wrapI64 (x := max (cl now 0 1125899906842624) (lwi l).2.1 + span size (lwi l).1) (by omega) (by omega), wrapI64 (x := (lwi l).2.2 + _) (by omega) (by omega), wrapI64 (x := (lwi l).2.2 + _ - _) (by omega) (by omega)]
  rw [show (lwi l).2.2 + (max (cl now 0 1125899906842624) (lwi l).2.1 + span size (lwi l).1) - max (cl now 0 1125899906842624) (lwi l).2.1 = (lwi l).2.2 + span size (lwi l).1 by omega]

theorem link_Idle_eq (N : Nat) (l : LK) (now : Int) : W.link_Idle N l now = some (decide ((lwi l).2.1 ≤ cl now 0 1125899906842624)) := by
  simp only [W.link_Idle, sat_Clamp_eq, link_within_eq, Option.bind_some]

theorem leatlaw37_works_eq (N : Nat) : W.leatlaw37_works N = some true := by
  simp only [W.leatlaw37_works, link_Span_eq, Option.bind_some]
  rfl

theorem LinkTakes_i (N : Nat) (hN : 2000 < N) (l : LK) (now size : Int) : W.leatlaw37_LinkTakes N l now size = some true := by
  have e : imn (imx now 0) 1125899906842624 = cl now 0 1125899906842624 := by simp only [imn_eq, imx_eq, cl]; omega
  simp only [W.leatlaw37_LinkTakes, link_Take_eq, leatref37_Take_eq, link_Span_eq, leatref37_Span_eq, link_Room_eq, leatref37_Room_eq N _ _ hN, link_Idle_eq, leatref37_Within_eq, leatlaw37_works_eq, e, Option.bind_some, beq_self_eq_true, Bool.and_self, cond_true]

theorem LinkTakes (x : RT [.agg [.int .i64, .int .i64, .int .i64], .sc (.int .i64), .sc (.int .i64)]) (_ : RT.wf _ x) : ∃ N, uncR [.agg [.int .i64, .int .i64, .int .i64], .sc (.int .i64), .sc (.int .i64)] (W.leatlaw37_LinkTakes N) x = some true := by
  obtain ⟨l, n, s⟩ := x
  exact ⟨3000, LinkTakes_i 3000 (by omega) l n s⟩

/-- What is known of what went. -/
structure Went (R : Int) (n : Nat) (b e s : List Int) : Prop where
  lb : b.length = n
  le : e.length = n
  ls : s.length = n
  at_ : ∀ k, k < n → 0 ≤ b.getD k 0 ∧ b.getD k 0 < e.getD k 0 ∧ e.getD k 0 ≤ 70000000000 * (k + 1) ∧ 1 ≤ s.getD k 0 ∧ s.getD k 0 ≤ 65536 ∧ s.getD k 0 * 1000000 ≤ R * (e.getD k 0 - b.getD k 0)
  row : ∀ k, k + 1 < n → e.getD k 0 ≤ b.getD (k + 1) 0

theorem getD_app {l : List Int} {x : Int} {k n : Nat} (h : l.length = n) : (l ++ [x]).getD k 0 = if k < n then l.getD k 0 else if k = n then x else 0 := by
  subst h
  split
  · rename_i hk; simp [List.getD, List.getElem?_append_left hk]
  · split
    · rename_i hk; subst hk; simp [List.getD]
    · simp [List.getD, List.getElem?_append_right (show l.length ≤ k by omega)]
      rw [List.getElem?_eq_none (by simp; omega)]; rfl

theorem Went.more {R : Int} {n : Nat} {b e s : List Int} (h : Went R n b e s) {x y z : Int} (hx : 0 ≤ x ∧ x < y) (hy : y ≤ 70000000000 * (n + 1)) (hz : 1 ≤ z ∧ z ≤ 65536) (hR : z * 1000000 ≤ R * (y - x)) (hl : n = 0 ∨ e.getD (n - 1) 0 ≤ x) :
    Went R (n + 1) (b ++ [x]) (e ++ [y]) (s ++ [z]) where
  lb := by simp [h.lb]
  le := by simp [h.le]
  ls := by simp [h.ls]
  at_ := fun k hk => by
    rw [getD_app h.lb, getD_app h.le, getD_app h.ls]
    by_cases hkn : k < n
    · simp only [hkn, if_true]; exact h.at_ k hkn
    · obtain rfl : k = n := by omega
      simp only [hkn, if_false, if_true]
      exact ⟨hx.1, hx.2, hy, hz.1, hz.2, hR⟩
  row := fun k hk => by
    rw [getD_app h.lb, getD_app h.le]
    by_cases hkn : k + 1 < n
    · simp only [hkn, if_true, show k < n by omega]; exact h.row k hkn
    · obtain rfl : k + 1 = n := by omega
      simp only [Nat.lt_irrefl, if_false, if_true, show k < k + 1 by omega]
      rcases hl with hl | hl
      · omega
      · simpa using hl

/-- The sums from one place on. -/
theorem runs_sum (N : Nat) {R fr bz : Int} {n : Nat} {b e s : List Int} (h : Went R n b e s) (hR : 1 ≤ R ∧ R ≤ 4294967296) (hn : n ≤ 40) (hN : 100 < N) (i : Nat) (hi : i < n) :
    iter (W.leatlaw37_LinkRuns_L20 N) N (((i : Int), (0, ((i : Int), ((n : Int), ((i : Int), ()))))), ((R, (fr, (bz, ()))), (b, (e, (s, ()))))) = some (.inr (((n : Int), ((i : Int), ())), ((R, (fr, (bz, ()))), (b, (e, (s, ())))))) := by
  obtain ⟨lb, le, ls, hat, hrow⟩ := h
  refine iter_some (round := W.leatlaw37_LinkRuns_L20 N) (fun x => ∃ (k : Nat) (a : Int), x = (((i : Int), (a, ((k : Int), ((n : Int), ((i : Int), ()))))), ((R, (fr, (bz, ()))), (b, (e, (s, ()))))) ∧ i ≤ k ∧ k ≤ n ∧ 0 ≤ a ∧ a ≤ 65536 * k ∧ (k = n ∨ (a * 1000000 ≤ R * (b.getD k 0 - b.getD i 0) ∧ b.getD i 0 ≤ b.getD k 0))) (fun x => 41 - x.1.2.2.1.toNat) _ ?_ N _ ⟨i, 0, rfl, by omega, by omega, by omega, by omega, .inr (by simp)⟩ (by simp; omega)
  rintro F x ⟨k, a, rfl, hik, hkn, ha0, ha1, hinv⟩
  by_cases hlt : k < n
  · left
    obtain ⟨h1, h2, h3, h4, h5, h6⟩ := hat k hlt
    obtain ⟨g1, g2, g3, g4, g5, g6⟩ := hat i hi
    have hinv := hinv.resolve_left (by omega)
    have hR2 : (a + s.getD k 0) * 1000000 ≤ R * (e.getD k 0 - b.getD i 0) := by
      have : R * (e.getD k 0 - b.getD i 0) = R * (e.getD k 0 - b.getD k 0) + R * (b.getD k 0 - b.getD i 0) := by grind
      omega
    have q1 : ((k : Int) < (b.length : Int)) = True := eq_true (by omega)
    have q2 : ((0 : Int) ≤ (k : Int)) = True := eq_true (by omega)
    have q3 : ((k : Int) < (s.length : Int)) = True := eq_true (by omega)
    have q4 : ((k : Int) < (e.length : Int)) = True := eq_true (by omega)
    have q5 : ((0 : Int) ≤ (i : Int)) = True := eq_true (by omega)
    have q6 : ((i : Int) < (b.length : Int)) = True := eq_true (by omega)
    have w1 := wrapI64 (x := e.getD k 0 - b.getD i 0) (by omega) (by omega)
    have w2 := wrapI64 (x := a + s.getD k 0) (by omega) (by omega)
    have w3 := wrapI64 (x := (k : Int) + 1) (by omega) (by omega)
    have hroom : (room R (e.getD k 0 - b.getD i 0) < a + s.getD k 0) = False := by
      apply eq_false
      have c1 : cl R 1 1099511627776 = R := by simp only [cl]; omega
      have c2 : cl (e.getD k 0 - b.getD i 0) 0 1125899906842624 = e.getD k 0 - b.getD i 0 := by simp only [cl]; omega
      simp only [room, c1, c2]
      have : a + s.getD k 0 ≤ R * (e.getD k 0 - b.getD i 0) / 1000000 := Int.le_ediv_of_mul_le (by omega) hR2
      omega
    refine ⟨(((i : Int), (a + s.getD k 0, (((k + 1 : Nat) : Int), ((n : Int), ((i : Int), ()))))), ((R, (fr, (bz, ()))), (b, (e, (s, ()))))), ⟨k + 1, _, rfl, by omega, by omega, by omega, by omega, ?_⟩, by simp; omega, ?_⟩
    · by_cases hk : k + 1 = n
      · exact .inl hk
      · right
        have hr := hrow k (by omega)
        refine ⟨?_, by omega⟩
        have := Int.mul_le_mul_of_nonneg_left (show e.getD k 0 - b.getD i 0 ≤ b.getD (k + 1) 0 - b.getD i 0 by omega) (show 0 ≤ R by omega)
        omega
    · simp only [W.leatlaw37_LinkRuns_L20, Int.toNat_natCast, q1, q2, q3, q4, q5, q6, w1, w2, w3, link_Room_eq, Option.bind_some, hroom, decide_true, decide_false, Bool.and_self, cond_true, cond_false]
      rfl
  · right
    obtain rfl : k = n := by omega
    simp only [W.leatlaw37_LinkRuns_L20]
    rw [biff (by omega)]

theorem runs_all (N : Nat) {R fr bz : Int} {n : Nat} {b e s : List Int} (h : Went R n b e s) (hR : 1 ≤ R ∧ R ≤ 4294967296) (hn : n ≤ 40) (hN : 100 < N) :
    iter (W.leatlaw37_LinkRuns_L16 N) N (((n : Int), (0, ())), ((R, (fr, (bz, ()))), (b, (e, (s, ()))))) = some (.inr ((), ())) := by
  refine iter_some (round := W.leatlaw37_LinkRuns_L16 N) (fun x => ∃ (i : Nat), x = (((n : Int), ((i : Int), ())), ((R, (fr, (bz, ()))), (b, (e, (s, ()))))) ∧ i ≤ n) (fun x => 41 - x.1.2.1.toNat) _ ?_ N _ ⟨0, rfl, by omega⟩ (by simp; omega)
  rintro F x ⟨i, rfl, hi⟩
  by_cases hlt : i < n
  · left
    refine ⟨_, ⟨i + 1, rfl, hlt⟩, by simp; omega, ?_⟩
    simp only [W.leatlaw37_LinkRuns_L16, runs_sum N h hR hn hN i hlt, Option.bind_some]
    rw [bift (by omega), wrapI64 (x := (i : Int) + 1) (by omega) (by omega)]
    rfl
  · right
    simp only [W.leatlaw37_LinkRuns_L16]
    rw [biff (by omega)]

theorem LinkRuns_i (N : Nat) (hN : 2000 < N) {rate : Int} (l : List (Int × Int)) (hr : 0 ≤ rate ∧ rate ≤ 4294967295) (hl : ∀ x ∈ l, (0 ≤ x.1 ∧ x.1 ≤ 65535) ∧ (0 ≤ x.2 ∧ x.2 ≤ 65535)) : W.leatlaw37_LinkRuns N rate l = some true := by
  have w0 := wrapI64 (x := rate) (by omega) (by omega)
  have w1 := wrapI64 (x := rate + 1) (by omega) (by omega)
  generalize hR : rate + 1 = R at *
  have hRb : 1 ≤ R ∧ R ≤ 4294967296 := by omega
  have cR : cl R 1 1099511627776 = R := by simp only [cl]; omega
  obtain ⟨y, ⟨n, fr, bz, b, e, s, rfl, hn, hw⟩, he⟩ := iter_done (round := W.leatlaw37_LinkRuns_L5 N) (fun x => ∃ (i : Nat) (now fr bz : Int) (b e s : List Int), x = ((now, ((i : Int), ())), (l, ((R, (fr, (bz, ()))), (b, (e, (s, ())))))) ∧ i ≤ 40 ∧ 0 ≤ now ∧ now ≤ 65535 * i ∧ 0 ≤ fr ∧ fr ≤ 70000000000 * i ∧ 0 ≤ bz ∧ bz ≤ 70000000000 * i ∧ Went R i b e s ∧ (i = 0 ∨ e.getD (i - 1) 0 = fr)) (fun x => 41 - x.1.2.1.toNat)
    (fun y => ∃ (n : Nat) (fr bz : Int) (b e s : List Int), y = .inr ((), ((R, (fr, (bz, ()))), (b, (e, (s, ()))))) ∧ n ≤ 40 ∧ Went R n b e s) (by
      rintro F x ⟨i, now, fr, bz, b, e, s, rfl, hi, n0, n1, f0, f1, z0, z1, hw, hlast⟩
      by_cases hlt : i < l.length
      · by_cases h40 : i < 40
        · left
          have hmem : l.getD i (0, 0) ∈ l := by
            have : l.getD i (0, 0) = l[i] := by simp [List.getD, hlt]
            rw [this]; exact List.getElem_mem hlt
          have hd := hl _ hmem
          obtain ⟨⟨p, q⟩, hg⟩ : ∃ z, l.getD i (0, 0) = z := ⟨_, rfl⟩
          rw [hg] at hd
          simp only [] at hd
          have v1 := wrapI64 (x := p) (by omega) (by omega)
          have v2 := wrapI64 (x := q) (by omega) (by omega)
          have v3 := wrapI64 (x := q + 1) (by omega) (by omega)
          have v4 := wrapI64 (x := now + p) (by omega) (by omega)
          have v5 := wrapI64 (x := (i : Int) + 1) (by omega) (by omega)
          have sp := span_in (q + 1) R
          have cS : cl (q + 1) 1 65536 = q + 1 := by simp only [cl]; omega
          rw [cR, cS] at sp
          have lw : lwi (R, fr, bz) = (R, fr, bz) := by simp only [lwi, cR, cl, Prod.mk.injEq, true_and]; omega
          have cn : cl (now + p) 0 1125899906842624 = now + p := by simp only [cl]; omega
          have lw2 : lwi (R, max (now + p) fr + span (q + 1) R, bz + span (q + 1) R) = (R, max (now + p) fr + span (q + 1) R, bz + span (q + 1) R) := by
            simp only [lwi, cR, cl, Prod.mk.injEq, true_and]; omega
          have ht : ltake (R, fr, bz) (now + p) (q + 1) = ((R, max (now + p) fr + span (q + 1) R, bz + span (q + 1) R), max (now + p) fr, max (now + p) fr + span (q + 1) R) := by
            simp only [ltake, lw, cn, lw2]
          generalize span (q + 1) R = S at *
          have v6 := wrapI64 (x := bz + S - bz) (by omega) (by omega)
          have v7 := wrapI64 (x := max (now + p) fr + S - max (now + p) fr) (by omega) (by omega)
          have v8 := wrapI64 (x := max (now + p) fr + S - 1) (by omega) (by omega)
          have cz : cl (max (now + p) fr + S - 1) 0 1125899906842624 = max (now + p) fr + S - 1 := by simp only [cl]; omega
          have q1 : ((i : Int) < (l.length : Int)) = True := eq_true (by omega)
          have q2 : ((0 : Int) ≤ (i : Int)) = True := eq_true (by omega)
          have q3 : ((i : Int) < 40) = True := eq_true (by omega)
          have q4 : (max (now + p) fr < now + p) = False := eq_false (by omega)
          have q5 : (max (now + p) fr < fr) = False := eq_false (by omega)
          have q6 : (max (now + p) fr + S ≤ max (now + p) fr) = False := eq_false (by omega)
          have q7 : (max (now + p) fr + S ≤ max (now + p) fr + S - 1) = False := eq_false (by omega)
          have e1 : bz + S - bz = S := by omega
          have e2 : max (now + p) fr + S - max (now + p) fr = S := by omega
          have c1 : ∀ z : Int, ((b.length + [z].length) * 8 : Nat) ≤ 140737488355328 := fun z => by simp [hw.lb]; omega
          have c2 : ∀ z : Int, ((e.length + [z].length) * 8 : Nat) ≤ 140737488355328 := fun z => by simp [hw.le]; omega
          have c3 : ∀ z : Int, ((s.length + [z].length) * 8 : Nat) ≤ 140737488355328 := fun z => by simp [hw.ls]; omega
          refine ⟨((now + p, (((i + 1 : Nat) : Int), ())), (l, ((R, (max (now + p) fr + S, (bz + S, ()))), (b ++ [max (now + p) fr], (e ++ [max (now + p) fr + S], (s ++ [q + 1], ())))))), ⟨i + 1, _, _, _, _, _, _, rfl, by omega, by omega, by omega, by omega, by omega, by omega, by omega, ?_, .inr ?_⟩, by simp; omega, ?_⟩
          · refine hw.more ⟨by omega, by omega⟩ (by omega) ⟨by omega, by omega⟩ (by rw [e2]; exact sp.2.2) ?_
            rcases hlast with h | h
            · exact .inl h
            · right; omega
          · rw [getD_app hw.le]; simp
          · simp only [W.leatlaw37_LinkRuns_L5, Int.toNat_natCast, hg, v1, v2, v3, v4, v5, v6, v7, v8, link_Take_eq, ht, link_Idle_eq, lw2, cz, imx_eq, Option.bind_some, q1, q2, q3, q4, q5, q6, q7, e1, e2, c1, c2, c3, decide_true, decide_false, Bool.and_self, cond_true, cond_false, beq_self_eq_true, Bool.not_true]
            rfl
        · right
          exact ⟨_, ⟨i, fr, bz, b, e, s, rfl, hi, hw⟩, by
            simp only [W.leatlaw37_LinkRuns_L5]
            rw [decide_eq_true (show (i : Int) < (l.length : Int) by omega), biff (show ¬ (i : Int) < 40 by omega)]
            rfl⟩
      · right
        exact ⟨_, ⟨i, fr, bz, b, e, s, rfl, hi, hw⟩, by
          simp only [W.leatlaw37_LinkRuns_L5]
          rw [decide_eq_false (show ¬ (i : Int) < (l.length : Int) by omega)]
          rfl⟩) N ((0, (0, ())), (l, ((R, (0, (0, ()))), ([], ([], ([], ())))))) ⟨0, 0, 0, 0, [], [], [], rfl, by omega, by omega, by omega, by omega, by omega, by omega, by omega, ⟨rfl, rfl, rfl, fun k hk => absurd hk (by omega), fun k hk => absurd hk (by omega)⟩, .inl rfl⟩ (by simp; omega)
  have ha := runs_all N (fr := fr) (bz := bz) hw hRb hn (by omega)
  have e0 : ((b.length : Nat) : Int) = (n : Int) := by rw [hw.lb]
  simp only [W.leatlaw37_LinkRuns, w0, hR, w1, he, Option.bind_some, e0, ha, leatlaw37_works_eq]

theorem u16_range {x : Int} (h : SK.wf (.int .u16) x) : 0 ≤ x ∧ x ≤ 65535 := by
  simp only [SK.wf, IntKind.min, IntKind.max, IntKind.signed, IntKind.bits] at h
  simp at h
  omega

theorem LinkRuns (x : RT [.sc (.int .u32), .row 49 [.int .u16, .int .u16]]) (h : RT.wf _ x) : ∃ N, uncR [.sc (.int .u32), .row 49 [.int .u16, .int .u16]] (W.leatlaw37_LinkRuns N) x = some true := by
  obtain ⟨r, l⟩ := x
  exact ⟨3000, LinkRuns_i 3000 (by omega) l (u32_range h.1) fun z hz => ⟨u16_range (h.2.2 z hz).1, u16_range (h.2.2 z hz).2⟩⟩

end Go.Proofs.Ytakjmminaolfnaa.Pure
