/- What the law of the timers computes is true: the program's timer and the document's one are the same numbers. -/
import Derived.Test.YtfiiifogplhppaaW1
import Derived.Test.YtfiiifogplhppaaEvQ
namespace Go.Proofs.Ytfiiifogplhppaa.Pure
open Go.Ev Go.RowKit
def cl (a lo hi : Int) : Int := max lo (min a hi)
theorem f44_eq (N : Nat) (a lo hi : Int) : W.f44 N a lo hi = some (cl a lo hi) := by
  simp only [W.f44, cl, Option.some.injEq]
  repeat' split
  all_goals omega
theorem f46_eq (N : Nat) (a : Int) : W.f46 N a = some (cl a 0 1152921504606846976) := by
  simp only [W.f46, cl, Option.some.injEq]
  repeat' split
  all_goals omega
def wi (t : Int × Int × Int × Int) : Int × Int × Int × Int :=
  (cl t.1 1 1125899906842624, cl t.2.1 (cl t.1 1 1125899906842624) 1125899906842624, cl t.2.2.1 0 32, t.2.2.2)
theorem f43_eq (N : Nat) (t : Int × Int × Int × Int) : W.f43 N t = some (wi t) := by
  simp only [W.f43, f44_eq, Option.bind_some, wi, cl, Option.some.injEq, Prod.mk.injEq, true_and, and_true]
  repeat' split
  all_goals omega
theorem f45_eq (N : Nat) (t : Int × Int × Int × Int) : W.f45 N t = some (wi t) := by
  simp only [W.f45, wi, cl, Option.some.injEq, Prod.mk.injEq, and_true]
  repeat' split
  all_goals omega
/-- A state within its ends. -/
def In (t : Int × Int × Int × Int) : Prop := 1 ≤ t.1 ∧ t.1 ≤ t.2.1 ∧ t.2.1 ≤ 1125899906842624 ∧ 0 ≤ t.2.2.1 ∧ t.2.2.1 ≤ 32
theorem wi_in (t : Int × Int × Int × Int) : In (wi t) := by
  simp only [In, wi, cl]
  omega
theorem wi_id {t : Int × Int × Int × Int} (h : In t) : wi t = t := by
  obtain ⟨a, b, c, d⟩ := t
  simp only [In] at h
  simp only [wi, cl, Prod.mk.injEq, and_true]
  omega
def wa (t : Int × Int × Int × Int) : Int := min t.2.1 (t.1 * 2 ^ t.2.2.1.toNat)
theorem pow_pos' (n : Nat) : (0 : Int) < 2 ^ n := Int.pow_pos (by omega)
theorem f18_eq (N : Nat) {t : Int × Int × Int × Int} (h : In t) : W.f18 N t = some (wa t) := by
  obtain ⟨a, b, c, d⟩ := t
  simp only [W.f18, f43_eq, Option.bind_some, wi_id h]
  simp only [In] at h
  simp only [wa]
  have hc : ¬ c < 0 := by omega
  have hm : min c.toNat 64 = c.toNat := by omega
  simp only [hc, decide_false, Bool.not_false, cond_true, hm]
  have hp := pow_pos' c.toNat
  generalize hq : (2 : Int) ^ c.toNat = q at hp ⊢
  have e : (b.fdiv q < a) ↔ b < a * q := by
    rw [Int.fdiv_eq_ediv_of_nonneg _ (by omega)]
    exact Int.ediv_lt_iff_lt_mul hp
  by_cases hlt : b.fdiv q < a
  · rw [decide_eq_true hlt]
    have := e.1 hlt
    simp only [cond_true, Option.some.injEq]
    omega
  · rw [decide_eq_false hlt]
    have : ¬ b < a * q := fun x => hlt (e.2 x)
    have h0 : 0 ≤ a * q := Int.mul_nonneg (by omega) (by omega)
    simp only [cond_false, Option.some.injEq]
    rw [wrapI64 (by omega) (by omega)]
    omega
theorem f47_eq {N : Nat} (hN : 40 ≤ N) {t : Int × Int × Int × Int} (h : In t) : W.f47 N t = some (wa t) := by
  obtain ⟨a, b, c, d⟩ := t
  simp only [W.f47, f45_eq, Option.bind_some, wi_id h]
  simp only [In] at h
  obtain ⟨y, hy, he⟩ := iter_done (round := W.L47_4 N) (fun x => ∃ j : Nat, x = ((a * 2 ^ j, ((j : Int), ())), ((a, (b, (c, (d, ())))), ())) ∧ (j : Int) ≤ c ∧ (j = 0 ∨ a * 2 ^ (j - 1) < b)) (fun x => 33 - x.1.2.1.toNat)
    (fun y => min y.2.1.2.1 y.1.1 = wa (a, b, c, d)) (by
      rintro F x ⟨j, rfl, hj, hb⟩
      have hp := pow_pos' j
      have hpos : 0 < a * 2 ^ j := Int.mul_pos (by omega) hp
      have hbig : a * 2 ^ j ≤ 2 * 1125899906842624 := by
        rcases hb with rfl | hb
        · simp; omega
        · cases j with
          | zero => simp; omega
          | succ j => rw [Int.pow_succ, ← Int.mul_assoc]; simp only [Nat.add_sub_cancel] at hb; omega
      by_cases h1 : (j : Int) < c
      · by_cases h2 : a * 2 ^ j < b
        · left
          refine ⟨((a * 2 ^ (j + 1), (((j + 1 : Nat) : Int), ())), ((a, (b, (c, (d, ())))), ())), ⟨j + 1, rfl, by omega, .inr (by simpa using h2)⟩, by simp; omega, ?_⟩
          simp only [W.L47_4, decide_eq_true h1, decide_eq_true h2, beq_self_eq_true, cond_true]
          rw [wrapI64 (by omega) (by omega), wrapI64 (by omega) (by omega)]
          have : a * 2 ^ j * 2 = a * 2 ^ (j + 1) := by rw [Int.pow_succ, Int.mul_assoc]
          rw [this]; simp
        · right
          refine ⟨((a * 2 ^ j, ()), ((a, (b, (c, (d, ())))), ())), ?_, ?_⟩
          · simp only [wa]
            obtain ⟨m, hm⟩ : ∃ m : Nat, c.toNat = j + m := ⟨c.toNat - j, by omega⟩
            have hq := pow_pos' m
            have : a * 2 ^ j * 1 ≤ a * 2 ^ j * 2 ^ m := Int.mul_le_mul_of_nonneg_left (by omega) (by omega)
            rw [hm, Int.pow_add, ← Int.mul_assoc]
            omega
          · simp only [W.L47_4, decide_eq_true h1, decide_eq_false h2, beq_self_eq_true, cond_true, cond_false]
      · right
        refine ⟨((a * 2 ^ j, ()), ((a, (b, (c, (d, ())))), ())), ?_, ?_⟩
        · have : c.toNat = j := by omega
          simp only [wa, this]
        · simp only [W.L47_4, decide_eq_false h1]
          rfl) N ((a, (0, ())), ((a, (b, (c, (d, ())))), ())) ⟨0, by simp, by omega, .inl rfl⟩ (by simp; omega)
  rw [he, Option.bind_some, ← hy]
  congr 1
  split <;> omega

/-- Both go off alike. -/
theorem f14_f15 {N : Nat} (hN : 40 ≤ N) (t : Int × Int × Int × Int) (now : Int) : ∃ r, W.f14 N t now = some r ∧ W.f15 N t now = some r := by
  simp only [W.f14, W.f15, f43_eq, f45_eq, Option.bind_some, f44_eq, f46_eq, W.f17]
  have hi := wi_in t
  generalize wi t = r at hi ⊢
  obtain ⟨a, b, c, d⟩ := r
  by_cases hd : d < 0
  · simp only [decide_eq_true hd]
    exact ⟨_, rfl, rfl⟩
  · simp only [decide_eq_false hd]
    by_cases hn : cl now 0 1152921504606846976 < d
    · simp only [decide_eq_true hn]
      exact ⟨_, rfl, rfl⟩
    · simp only [decide_eq_false hn]
      have hi' := hi
      simp only [In] at hi
      have hw : IntKind.wrap .i64 (c + 1) = c + 1 := wrapI64 (by omega) (by omega)
      rw [hw]
      by_cases hc : c < 32
      · simp only [decide_eq_true hc]
        have hm : (if 32 < c + 1 then 32 else c + 1) = c + 1 := by split <;> omega
        rw [hm]
        have hj : In (a, (b, (c + 1, d))) := ⟨by simp; omega, by simp; omega, by simp; omega, by simp; omega, by simp; omega⟩
        simp only [beq_self_eq_true, cond_true, cond_false, wi_id hj, f18_eq N hj, f47_eq hN hj, Option.bind_some]
        exact ⟨_, rfl, rfl⟩
      · simp only [decide_eq_false hc]
        have hm : (if 32 < c + 1 then 32 else c + 1) = c := by split <;> omega
        rw [hm]
        simp only [beq_self_eq_true, cond_true, cond_false, wi_id hi', f18_eq N hi', f47_eq hN hi', Option.bind_some]
        exact ⟨_, rfl, rfl⟩
theorem ex1 : W.f17 40 (10, (35, (0, 0))) 0 = some (10, (35, (0, 10))) := by kernel_rfl
theorem ex2 : W.f14 40 (10, (35, (0, 10))) 10 = some ((10, (35, (1, 30))), true) := by kernel_rfl
theorem ex3 : W.f14 40 (10, (35, (1, 30))) 30 = some ((10, (35, (2, 65))), true) := by kernel_rfl
theorem TimerFires (x : RT [.agg [.int .i64, .int .i64, .int .i64, .int .i64], .sc (.int .i64)]) (_h : RT.wf _ x) : ∃ N, uncR [.agg [.int .i64, .int .i64, .int .i64, .int .i64], .sc (.int .i64)] (W.f3 N) x = some true := by
  obtain ⟨t, now⟩ := x
  refine ⟨40, ?_⟩
  show W.f3 40 t now = some true
  obtain ⟨r, h1, h2⟩ := f14_f15 (N := 40) (by omega) t now
  simp only [W.f3, h1, h2, Option.bind_some, beq_self_eq_true, Bool.and_self, cond_true, ex1, ex2, ex3]
end Go.Proofs.Ytfiiifogplhppaa.Pure
