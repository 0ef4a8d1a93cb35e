/- What the law of the timers computes is true: the program's timer and the document's one are the same numbers. -/
import Derived.Test.YtfiiifogplhppaaW1
import Derived.Test.YtfiiifogplhppaaEvQ
namespace Go.Proofs.Ytfiiifogplhppaa.Pure
open Go.Ev Go.RowKit
def cl (a lo hi : Int) : Int := max lo (min a hi)
theorem f44_eq (N : Nat) (a lo hi : Int) : W.f44 N a lo hi = some (cl a lo hi) := by
  simp only [W.f44, cl, Option.some.injEq]
  repeat' split
  all_goals omega
theorem f46_eq (N : Nat) (a : Int) : W.f46 N a = some (cl a 0 1152921504606846976) := by
  simp only [W.f46, cl, Option.some.injEq]
  repeat' split
  all_goals omega
def wi (t : Int × Int × Int × Int) : Int × Int × Int × Int :=
  (cl t.1 1 1125899906842624, cl t.2.1 (cl t.1 1 1125899906842624) 1125899906842624, cl t.2.2.1 0 32, t.2.2.2)
theorem f43_eq (N : Nat) (t : Int × Int × Int × Int) : W.f43 N t = some (wi t) := by
  simp only [W.f43, f44_eq, Option.bind_some, wi, cl, Option.some.injEq, Prod.mk.injEq, true_and, and_true]
  repeat' split
  all_goals omega
theorem f45_eq (N : Nat) (t : Int × Int × Int × Int) : W.f45 N t = some (wi t) := by
  simp only [W.f45, wi, cl, Option.some.injEq, Prod.mk.injEq, and_true]
  repeat' split
  all_goals omega
/-- A state within its ends. -/
def In (t : Int × Int × Int × Int) : Prop := 1 ≤ t.1 ∧ t.1 ≤ t.2.1 ∧ t.2.1 ≤ 1125899906842624 ∧ 0 ≤ t.2.2.1 ∧ t.2.2.1 ≤ 32
theorem wi_in (t : Int × Int × Int × Int) : In (wi t) := by
  simp only [In, wi, cl]
  omega
theorem wi_id {t : Int × Int × Int × Int} (h : In t) : wi t = t := by
  obtain ⟨a, b, c, d⟩ := t
  simp only [In] at h
  simp only [wi, cl, Prod.mk.injEq, and_true]
  omega
def wa (t : Int × Int × Int × Int) : Int := min t.2.1 (t.1 * 2 ^ t.2.2.1.toNat)
theorem pow_pos' (n : Nat) : (0 : Int) < 2 ^ n := Int.pow_pos (by omega)
theorem f18_eq (N : Nat) {t : Int × Int × Int × Int} (h : In t) : W.f18 N t = some (wa t) := by
  obtain ⟨a, b, c, d⟩ := t
  simp only [W.f18, f43_eq, Option.bind_some, wi_id h]
  simp only [In] at h
  simp only [wa]
  have hc : ¬ c < 0 := by omega
  have hm : min c.toNat 64 = c.toNat := by omega
  simp only [hc, decide_false, Bool.not_false, cond_true, hm]
  have hp := pow_pos' c.toNat
  generalize hq : (2 : Int) ^ c.toNat = q at hp ⊢
  have e : (b.fdiv q < a) ↔ b < a * q := by
    rw [Int.fdiv_eq_ediv_of_nonneg _ (by omega)]
    exact Int.ediv_lt_iff_lt_mul hp
  by_cases hlt : b.fdiv q < a
  · rw [decide_eq_true hlt]
    have := e.1 hlt
    simp only [cond_true, Option.some.injEq]
    omega
  · rw [decide_eq_false hlt]
    have : ¬ b < a * q := fun x => hlt (e.2 x)
    have h0 : 0 ≤ a * q := Int.mul_nonneg (by omega) (by omega)
    simp only [cond_false, Option.some.injEq]
    rw [wrapI64 (by omega) (by omega)]
    omega
theorem f47_eq {N : Nat} (hN : 40 ≤ N) {t : Int × Int × Int × Int} (h : In t) : W.f47 N t = some (wa t) := by
  obtain ⟨a, b, c, d⟩ := t
  simp only [W.f47, f45_eq, Option.bind_some, wi_id h]
  simp only [In] at h
  obtain ⟨y, hy, he⟩ := iter_done (round := W.L47_4 N) (fun x => ∃ j : Nat, x = ((a * 2 ^ j, ((j : Int), ())), ((a, (b, (c, (d, ())))), ())) ∧ (j : Int) ≤ c ∧ (j = 0 ∨ a * 2 ^ (j - 1) < b)) (fun x => 33 - x.1.2.1.toNat)
    (fun y => min y.2.1.2.1 y.1.1 = wa (a, b, c, d)) (by
      rintro F x ⟨j, rfl, hj, hb⟩
      have hp := pow_pos' j
      have hpos : 0 < a * 2 ^ j := Int.mul_pos (by omega) hp
      have hbig : a * 2 ^ j ≤ 2 * 1125899906842624 := by
        rcases hb with rfl | hb
        · simp; omega
        · cases j with
          | zero => simp; omega
          | succ j => rw [Int.pow_succ, ← Int.mul_assoc]; simp only [Nat.add_sub_cancel] at hb; omega
      by_cases h1 : (j : Int) < c
      · by_cases h2 : a * 2 ^ j < b
        · left
          refine ⟨((a * 2 ^ (j + 1), (((j + 1 : Nat) : Int), ())), ((a, (b, (c, (d, ())))), ())), ⟨j + 1, rfl, by omega, .inr (by simpa using h2)⟩, by simp; omega, ?_⟩
          simp only [W.L47_4, decide_eq_true h1, decide_eq_true h2, beq_self_eq_true, cond_true]
          rw [wrapI64 (by omega) (by omega), wrapI64 (by omega) (by omega)]
          have : a * 2 ^ j * 2 = a * 2 ^ (j + 1) := by rw [Int.pow_succ, Int.mul_assoc]
          rw [this]; simp
        · right
          refine ⟨((a * 2 ^ j, ()), ((a, (b, (c, (d, ())))), ())), ?_, ?_⟩
          · simp only [wa]
            obtain ⟨m, hm⟩ : ∃ m : Nat, c.toNat = j + m := ⟨c.toNat - j, by omega⟩
            have hq := pow_pos' m
            have : a * 2 ^ j * 1 ≤ a * 2 ^ j * 2 ^ m := Int.mul_le_mul_of_nonneg_left (by omega) (by omega)
            rw [hm, Int.pow_add, ← Int.mul_assoc]
            omega
          · simp only [W.L47_4, decide_eq_true h1, decide_eq_false h2, beq_self_eq_true, cond_true, cond_false]
      · right
        refine ⟨((a * 2 ^ j, ()), ((a, (b, (c, (d, ())))), ())), ?_, ?_⟩
        · have : c.toNat = j := by omega
          simp only [wa, this]
        · simp only [W.L47_4, decide_eq_false h1]
          rfl) N ((a, (0, ())), ((a, (b, (c, (d, ())))), ())) ⟨0, by simp, by omega, .inl rfl⟩ (by simp; omega)
  rw [he, Option.bind_some, ← hy]
  congr 1
  split <;> omega

/-- Both go off alike. -/
theorem f14_f15 {N : Nat} (hN : 40 ≤ N) (t : Int × Int × Int × Int) (now : Int) : ∃ r, W.f14 N t now = some r ∧ W.f15 N t now = some r := by
  simp only [W.f14, W.f15, f43_eq, f45_eq, Option.bind_some, f44_eq, f46_eq, W.f17]
  have hi := wi_in t
  generalize wi t = r at hi ⊢
  obtain ⟨a, b, c, d⟩ := r
  by_cases hd : d < 0
  · simp only [decide_eq_true hd]
    exact ⟨_, rfl, rfl⟩
  · simp only [decide_eq_false hd]
    by_cases hn : cl now 0 1152921504606846976 < d
    · simp only [decide_eq_true hn]
      exact ⟨_, rfl, rfl⟩
    · simp only [decide_eq_false hn]
      have hi' := hi
      simp only [In] at hi
      have hw : IntKind.wrap .i64 (c + 1) = c + 1 := wrapI64 (by omega) (by omega)
      rw [hw]
      by_cases hc : c < 32
      · simp only [decide_eq_true hc]
        have hm : (if 32 < c + 1 then 32 else c + 1) = c + 1 := by split <;> omega
        rw [hm]
        have hj : In (a, (b, (c + 1, d))) := ⟨by simp; omega, by simp; omega, by simp; omega, by simp; omega, by simp; omega⟩
        simp only [beq_self_eq_true, cond_true, cond_false, wi_id hj, f18_eq N hj, f47_eq hN hj, Option.bind_some]
        exact ⟨_, rfl, rfl⟩
      · simp only [decide_eq_false hc]
        have hm : (if 32 < c + 1 then 32 else c + 1) = c := by split <;> omega
        rw [hm]
        simp only [beq_self_eq_true, cond_true, cond_false, wi_id hi', f18_eq N hi', f47_eq hN hi', Option.bind_some]
        exact ⟨_, rfl, rfl⟩
theorem wa_le {t : Int × Int × Int × Int} (h : In t) : t.1 ≤ wa t ∧ wa t ≤ 1125899906842624 := by
  obtain ⟨a, b, c, d⟩ := t
  simp only [In] at h
  simp only [wa]
  have hp : (1 : Int) ≤ 2 ^ c.toNat := pow_pos' c.toNat
  have : a * 1 ≤ a * 2 ^ c.toNat := Int.mul_le_mul_of_nonneg_left hp (by omega)
  omega
theorem wa_top {t : Int × Int × Int × Int} : wa t ≤ t.2.1 := by
  simp only [wa]; omega
theorem wa_mono {a b c c' d d' : Int} (h : In (a, (b, (c, d)))) (hc : c ≤ c') : wa (a, (b, (c, d))) ≤ wa (a, (b, (c', d'))) := by
  simp only [In] at h
  simp only [wa]
  obtain ⟨m, hm⟩ : ∃ m : Nat, c'.toNat = c.toNat + m := ⟨c'.toNat - c.toNat, by omega⟩
  have hp := pow_pos' c.toNat
  have hq : (1 : Int) ≤ 2 ^ m := pow_pos' m
  have h0 : 0 ≤ a * 2 ^ c.toNat := Int.mul_nonneg (by omega) (by omega)
  have : a * 2 ^ c.toNat * 1 ≤ a * 2 ^ c.toNat * 2 ^ m := Int.mul_le_mul_of_nonneg_left hq h0
  rw [hm, Int.pow_add, ← Int.mul_assoc]
  omega
theorem f14_wait {N : Nat} {a b c d now : Int} (h : In (a, (b, (c, d)))) (h0 : 0 ≤ now) (h1 : now < d) (h2 : now ≤ 1152921504606846976) : W.f14 N (a, (b, (c, d))) now = some ((a, (b, (c, d))), false) := by
  simp only [W.f14, f43_eq, Option.bind_some, f44_eq, wi_id h]
  have hc : cl now 0 1152921504606846976 = now := by simp only [cl]; omega
  rw [hc, decide_eq_false (show ¬ d < 0 by omega), decide_eq_true h1]
  rfl
theorem f17_eq {N : Nat} {a b c d now : Int} (h : In (a, (b, (c, d)))) (h0 : 0 ≤ now) (h2 : now ≤ 1152921504606846976) : W.f17 N (a, (b, (c, d))) now = some (a, (b, (c, now + wa (a, (b, (c, d)))))) := by
  simp only [W.f17, f43_eq, Option.bind_some, f44_eq, wi_id h, f18_eq N h]
  have hc : cl now 0 1152921504606846976 = now := by simp only [cl]; omega
  have := wa_le h
  simp only [In] at h
  rw [hc, wrapI64 (by omega) (by omega)]
theorem wa_due (a b c d d' : Int) : wa (a, (b, (c, d))) = wa (a, (b, (c, d'))) := rfl
theorem f14_fire {N : Nat} {a b c d now : Int} (h : In (a, (b, (c, d)))) (hd : 0 ≤ d) (h1 : d ≤ now) (h2 : now ≤ 1152921504606846976) :
    W.f14 N (a, (b, (c, d))) now = some ((a, (b, (min 32 (c + 1), now + wa (a, (b, (min 32 (c + 1), d)))))), true) := by
  simp only [W.f14, f43_eq, Option.bind_some, f44_eq, wi_id h]
  have hc : cl now 0 1152921504606846976 = now := by simp only [cl]; omega
  have h' := h
  simp only [In] at h
  rw [hc, decide_eq_false (show ¬ d < 0 by omega), decide_eq_false (show ¬ now < d by omega), wrapI64 (by omega) (by omega)]
  have hm : (if 32 < c + 1 then 32 else c + 1) = min 32 (c + 1) := by split <;> omega
  rw [hm]
  have hj : In (a, (b, (min 32 (c + 1), d))) := ⟨by simp; omega, by simp; omega, by simp; omega, by simp; omega, by simp; omega⟩
  simp only [beq_self_eq_true, cond_true, cond_false, f17_eq hj (show 0 ≤ now by omega) h2, Option.bind_some]
theorem ex4 : W.f16 60 = some true := by kernel_rfl
theorem backs (p q u : Int) (hu : 0 ≤ u ∧ u ≤ 4294967295) : W.f4 60 p q u = some true := by
  have e17 : W.f17 60 (p, (q, (0, 0))) (IntKind.wrap .i64 u) = W.f17 60 (wi (p, (q, (0, 0)))) u := by
    rw [wrapI64 (by omega) (by omega)]
    simp only [W.f17, f43_eq, Option.bind_some, wi_id (wi_in _)]
  have hi := wi_in (p, (q, (0, 0)))
  have hw3 : (wi (p, (q, (0, 0)))).2.2.1 = 0 := rfl
  simp only [W.f4, e17]
  generalize wi (p, (q, (0, 0))) = t at hi hw3 ⊢
  obtain ⟨a, b, c, d⟩ := t
  simp only at hw3
  subst hw3
  rw [f17_eq hi (by omega) (by omega), Option.bind_some]
  have hle := wa_le hi
  have hin : 1 ≤ a := hi.1
  obtain ⟨y, hy, he⟩ := iter_done (round := W.L4_3 60) (fun x => ∃ i k e : Int, x = ((i, ()), ((a, (b, (k, (e, ())))), ())) ∧ In (a, (b, (k, e))) ∧ 0 ≤ i ∧ i ≤ 40 ∧ 1 ≤ e ∧ e ≤ 4294967296 + 1125899906842624 * (i + 1)) (fun x => 50 - x.1.1.toNat)
    (fun y => ∃ z, y = .inr z) (by
      rintro F x ⟨i, k, e, rfl, hin2, h0, h40, he0, he1⟩
      by_cases hlt : i < 40
      · left
        have hk := hin2
        simp only [In] at hk
        have hin3 : In (a, (b, (min 32 (k + 1), e))) := ⟨by simp; omega, by simp; omega, by simp; omega, by simp; omega, by simp; omega⟩
        have hw3 := wa_le hin3
        have hwl := wa_le hin2
        have hwt := @wa_top (a, (b, (k, e)))
        have hmono := wa_mono (d' := e) hin2 (show k ≤ min 32 (k + 1) by omega)
        have hin4 : In (a, (b, (min 32 (k + 1), e + wa (a, (b, (min 32 (k + 1), e)))))) := hin3
        refine ⟨((i + 1, ()), ((a, (b, (min 32 (k + 1), (e + wa (a, (b, (min 32 (k + 1), e))), ())))), ())), ⟨i + 1, min 32 (k + 1), _, rfl, hin4, by omega, by omega, by omega, by omega⟩, by simp; omega, ?_⟩
        simp only at hwl hwt
        simp only [W.L4_3, decide_eq_true hlt, cond_true, f18_eq 60 hin2, Option.bind_some]
        rw [decide_eq_false (show ¬ wa (a, (b, (k, e))) < a by omega), decide_eq_false (show ¬ b < wa (a, (b, (k, e))) by omega), wrapI64 (x := e - 1) (by omega) (by omega), f14_wait hin2 (by omega) (by omega) (by omega), f14_fire hin2 (by omega) (Int.le_refl e) (by omega)]
        simp only [Option.bind_some, beq_self_eq_true, cond_true, cond_false, Bool.not_true, f18_eq 60 hin4]
        rw [decide_eq_false (show ¬ wa (a, (b, (min 32 (k + 1), e + wa (a, (b, (min 32 (k + 1), e)))))) < wa (a, (b, (k, e))) from by rw [wa_due _ _ _ _ e]; omega), wrapI64 (by omega) (by omega), wrapI64 (x := i + 1) (by omega) (by omega), wa_due _ _ (min 32 (k + 1)) (e + wa (a, (b, (min 32 (k + 1), e)))) e]
        have ed : e + wa (a, (b, (min 32 (k + 1), e))) - e = wa (a, (b, (min 32 (k + 1), e))) := by omega
        rw [ed]
        simp only [beq_self_eq_true, cond_true, cond_false, Bool.not_true]
      · right
        refine ⟨.inr ((), ((a, (b, (k, (e, ())))), ())), ⟨_, rfl⟩, ?_⟩
        simp only [W.L4_3, decide_eq_false hlt, cond_false]) 60 ((0, ()), ((a, (b, (0, (u + wa (a, (b, (0, d))), ())))), ())) ⟨0, 0, _, rfl, hi, by omega, by omega, by omega, by omega⟩ (by simp)
  obtain ⟨z, rfl⟩ := hy
  rw [he, Option.bind_some]
  simp only [W.f19, f43_eq, Option.bind_some, W.f14]
  have hneg : (wi ((wi (z.2.1.1, (z.2.1.2.1, (z.2.1.2.2.1, z.2.1.2.2.2.1)))).1, ((wi (z.2.1.1, (z.2.1.2.1, (z.2.1.2.2.1, z.2.1.2.2.2.1)))).2.1, ((wi (z.2.1.1, (z.2.1.2.1, (z.2.1.2.2.1, z.2.1.2.2.2.1)))).2.2.1, -1)))).2.2.2 < 0 := by simp [wi]
  rw [decide_eq_true hneg]
  simp only [ex4, Option.bind_some]
  rfl
theorem TimerBacks (x : RT [.sc (.int .i64), .sc (.int .i64), .sc (.int .u32)]) (h : RT.wf [.sc (.int .i64), .sc (.int .i64), .sc (.int .u32)] x) : ∃ N, uncR [.sc (.int .i64), .sc (.int .i64), .sc (.int .u32)] (W.f4 N) x = some true :=
  ⟨60, backs x.1 x.2.1 x.2.2 (u32_range h.2.2)⟩
theorem ex5 : W.f16 40 = some true := by kernel_rfl
theorem TimerFires (x : RT [.agg [.int .i64, .int .i64, .int .i64, .int .i64], .sc (.int .i64)]) (_h : RT.wf _ x) : ∃ N, uncR [.agg [.int .i64, .int .i64, .int .i64, .int .i64], .sc (.int .i64)] (W.f3 N) x = some true := by
  obtain ⟨t, now⟩ := x
  refine ⟨40, ?_⟩
  show W.f3 40 t now = some true
  obtain ⟨r, h1, h2⟩ := f14_f15 (N := 40) (by omega) t now
  simp only [W.f3, h1, h2, Option.bind_some, beq_self_eq_true, Bool.and_self, cond_true, ex5]
end Go.Proofs.Ytfiiifogplhppaa.Pure
