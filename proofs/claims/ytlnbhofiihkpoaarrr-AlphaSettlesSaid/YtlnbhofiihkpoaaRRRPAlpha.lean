/- The share of marked bytes, round by round: what the program and the document's answer compute; the laws. -/
import Derived.Test.YtlnbhofiihkpoaaRRRPFixedL
namespace Go.Proofs.YtlnbhofiihkpoaaRRR.Pure
open Go.Ev Go.RowKit

def ai (t : Int × Int × Int × Int) : Int × Int × Int × Int := (cl t.1 0 1048576, cl t.2.1 0 1099511627776, cl t.2.2.1 0 (cl t.2.1 0 1099511627776), t.2.2.2)

def afr (t : Int × Int × Int × Int) : Int := if (ai t).2.1 = 0 then 0 else ratio (ai t).2.2.1 (ai t).2.1

def acnt (t : Int × Int × Int × Int) (acked marked : Int) : Int × Int × Int × Int :=
  ai ((ai t).1, (ai t).2.1 + cl acked 0 16777216, (ai t).2.2.1 + cl marked 0 (cl acked 0 16777216), t.2.2.2)

def atake (t : Int × Int × Int × Int) (acked marked upto next : Int) : (Int × Int × Int × Int) × Bool :=
  if upto < t.2.2.2 then (acnt t acked marked, false) else ((toward (acnt t acked marked).1 (afr (acnt t acked marked)) 4, 0, 0, next), true)

theorem ai_in (t : Int × Int × Int × Int) : 0 ≤ (ai t).1 ∧ (ai t).1 ≤ 1048576 ∧ 0 ≤ (ai t).2.1 ∧ (ai t).2.1 ≤ 1099511627776 ∧ 0 ≤ (ai t).2.2.1 ∧ (ai t).2.2.1 ≤ (ai t).2.1 ∧ (ai t).2.2.2 = t.2.2.2 := by
  simp only [ai, cl, and_true]
  omega

theorem afr_in (t : Int × Int × Int × Int) : 0 ≤ afr t ∧ afr t ≤ 1048576 := by
  simp only [afr]
  split
  · omega
  · exact ratio_in _ _

theorem cl_in' {a lo hi : Int} (h : lo ≤ hi) : lo ≤ cl a lo hi ∧ cl a lo hi ≤ hi := by simp only [cl]; omega

theorem alpha_within_eq (N : Nat) (t : Int × Int × Int × Int) : W.alpha_within N t = some (ai t) := by
  simp only [W.alpha_within, sat_Clamp_eq, Option.bind_some, ai]

theorem leatref25_Within_eq (N : Nat) (t : Int × Int × Int × Int) : W.leatref25_Within N t = some (ai t) := by
  have e : (if 1099511627776 < (if 0 > t.2.1 then 0 else t.2.1) then 1099511627776 else (if 0 > t.2.1 then 0 else t.2.1)) = cl t.2.1 0 1099511627776 := by simp only [cl]; split <;> split <;> omega
  simp only [W.leatref25_Within, leatref04_Share_eq, Option.bind_some, e, ai, Option.some.injEq, Prod.mk.injEq, true_and, and_true]
  simp only [cl]
  split <;> split <;> omega

theorem alpha_Start_eq (N : Nat) (s e : Int) : W.alpha_Start N s e = some (cl s 0 1048576, 0, 0, e) := by
  simp only [W.alpha_Start, alpha_within_eq, Option.bind_some, ai]
  rfl

theorem alpha_Fraction_eq (N : Nat) (t : Int × Int × Int × Int) (hN : 2000 < N) : W.alpha_Fraction N t = some (afr t) := by
  have h := ai_in t
  simp only [W.alpha_Fraction, alpha_within_eq, Option.bind_some, afr]
  rw [fixed_Ratio_eq N ⟨by omega, by omega⟩ ⟨by omega, by omega⟩ hN]
  by_cases h0 : (ai t).2.1 = 0
  · rw [h0]; rfl
  · rw [beq_false_of_ne h0, if_neg h0]; rfl

theorem leatref25_Fraction_eq (N : Nat) (t : Int × Int × Int × Int) (hN : 2000 < N) : W.leatref25_Fraction N t = some (afr t) := by
  have h := ai_in t
  simp only [W.leatref25_Fraction, leatref25_Within_eq, Option.bind_some, afr]
  rw [leatref04_Ratio_eq N ⟨by omega, by omega⟩ ⟨by omega, by omega⟩ hN]
  by_cases h0 : (ai t).2.1 = 0
  · rw [h0]; rfl
  · rw [beq_false_of_ne h0, if_neg h0]; rfl

theorem atoward_in (t : Int × Int × Int × Int) (a m : Int) : 0 ≤ toward (acnt t a m).1 (afr (acnt t a m)) 4 ∧ toward (acnt t a m).1 (afr (acnt t a m)) 4 ≤ 1048576 := by
  have h1 := ai_in ((ai t).1, (ai t).2.1 + cl a 0 16777216, (ai t).2.2.1 + cl m 0 (cl a 0 16777216), t.2.2.2)
  have h2 := afr_in (acnt t a m)
  have h3 : 0 ≤ (acnt t a m).1 ∧ (acnt t a m).1 ≤ 1048576 := ⟨h1.1, h1.2.1⟩
  have := toward_between (x := (acnt t a m).1) (y := afr (acnt t a m)) 4 ⟨by omega, by omega⟩ ⟨by omega, by omega⟩
  omega

theorem alpha_Take_eq (N : Nat) (t : Int × Int × Int × Int) (a m u n : Int) (hN : 2000 < N) : W.alpha_Take N t a m u n = some (atake t a m u n) := by
  have h := ai_in t
  have h2 := afr_in (acnt t a m)
  have h3 := ai_in ((ai t).1, (ai t).2.1 + cl a 0 16777216, (ai t).2.2.1 + cl m 0 (cl a 0 16777216), t.2.2.2)
  have h4 := atoward_in t a m
  have hc : 0 ≤ cl a 0 16777216 ∧ cl a 0 16777216 ≤ 16777216 := by simp only [cl]; omega
  have hm : 0 ≤ cl m 0 (cl a 0 16777216) ∧ cl m 0 (cl a 0 16777216) ≤ cl a 0 16777216 := cl_in' hc.1
  simp only [W.alpha_Take, sat_Clamp_eq, alpha_within_eq, Option.bind_some, alpha_Fraction_eq N _ hN, alpha_Start_eq]
  rw [wrapI64 (x := (ai t).2.1 + cl a 0 16777216) (by omega) (by omega), wrapI64 (x := (ai t).2.2.1 + cl m 0 (cl a 0 16777216)) (by omega) (by omega)]
  simp only [h.2.2.2.2.2.2]
  change (bif decide (u < (acnt t a m).2.2.2) then some (acnt t a m, false) else (W.fixed_Toward N (acnt t a m).1 (afr (acnt t a m)) 4).bind fun r => some ((cl r 0 1048576, 0, 0, n), true)) = some (atake t a m u n)
  have e4 : (acnt t a m).2.2.2 = t.2.2.2 := h3.2.2.2.2.2.2
  have e1 : 0 ≤ (acnt t a m).1 ∧ (acnt t a m).1 ≤ 1048576 := ⟨h3.1, h3.2.1⟩
  rw [fixed_Toward_eq N 4 (x := (acnt t a m).1) (y := afr (acnt t a m)) ⟨by omega, by omega⟩ ⟨by omega, by omega⟩, Option.bind_some, e4]
  have e5 : cl (toward (acnt t a m).1 (afr (acnt t a m)) 4) 0 1048576 = toward (acnt t a m).1 (afr (acnt t a m)) 4 := by
    generalize toward (acnt t a m).1 (afr (acnt t a m)) 4 = z at *; simp only [cl]; omega
  rw [e5, bifd]
  simp only [atake]
  split <;> rfl

theorem leatref25_Take_eq (N : Nat) (t : Int × Int × Int × Int) (a m u n : Int) (hN : 2000 < N) : W.leatref25_Take N t a m u n = some (atake t a m u n) := by
  have h := ai_in t
  have h2 := afr_in (acnt t a m)
  have h3 := ai_in ((ai t).1, (ai t).2.1 + cl a 0 16777216, (ai t).2.2.1 + cl m 0 (cl a 0 16777216), t.2.2.2)
  have hc : 0 ≤ cl a 0 16777216 ∧ cl a 0 16777216 ≤ 16777216 := by simp only [cl]; omega
  have hm : 0 ≤ cl m 0 (cl a 0 16777216) ∧ cl m 0 (cl a 0 16777216) ≤ cl a 0 16777216 := cl_in' hc.1
  have ea : (if 16777216 < (if 0 > a then 0 else a) then 16777216 else (if 0 > a then 0 else a)) = cl a 0 16777216 := by simp only [cl]; split <;> split <;> omega
  have em : (if cl a 0 16777216 < (if 0 > m then 0 else m) then cl a 0 16777216 else (if 0 > m then 0 else m)) = cl m 0 (cl a 0 16777216) := by
    generalize cl a 0 16777216 = c at *; simp only [cl]; split <;> split <;> omega
  simp only [W.leatref25_Take, leatref25_Within_eq, Option.bind_some, leatref25_Fraction_eq N _ hN, ea, em]
  rw [wrapI64 (x := (ai t).2.1 + cl a 0 16777216) (by omega) (by omega), wrapI64 (x := (ai t).2.2.1 + cl m 0 (cl a 0 16777216)) (by omega) (by omega)]
  simp only [h.2.2.2.2.2.2]
  change (bif decide (u < (acnt t a m).2.2.2) then some (acnt t a m, false) else (W.leatref04_Toward N (acnt t a m).1 (afr (acnt t a m)) 4).bind fun r => some ((r, 0, 0, n), true)) = some (atake t a m u n)
  have e4 : (acnt t a m).2.2.2 = t.2.2.2 := h3.2.2.2.2.2.2
  have e1 : 0 ≤ (acnt t a m).1 ∧ (acnt t a m).1 ≤ 1048576 := ⟨h3.1, h3.2.1⟩
  rw [leatref04_Toward_eq N 4 (x := (acnt t a m).1) (y := afr (acnt t a m)) ⟨by omega, by omega⟩ ⟨by omega, by omega⟩ hN, Option.bind_some, e4, bifd]
  simp only [atake]
  split <;> rfl

theorem leatlaw25_works_eq (N : Nat) (hN : 2000 < N) : W.leatlaw25_works N = some true := by
  simp only [W.leatlaw25_works, alpha_Start_eq, alpha_Take_eq N _ _ _ _ _ hN, Option.bind_some]
  rfl

theorem AlphaTakes_i (t : Int × Int × Int × Int) (a b c d : Int) : W.leatlaw25_AlphaTakes 3000 t (a, b) (c, d) = some true := by
  have hN : 2000 < 3000 := by omega
  simp only [W.leatlaw25_AlphaTakes, alpha_Take_eq _ _ _ _ _ _ hN, leatref25_Take_eq _ _ _ _ _ _ hN, alpha_Start_eq, alpha_Fraction_eq _ _ hN, leatref25_Fraction_eq _ _ hN, leatref25_Within_eq, leatlaw25_works_eq _ hN, Option.bind_some, beq_self_eq_true, Bool.and_self, cond_true, ai]
  rfl

theorem AlphaTakes (x : RT [.agg [.int .i64, .int .i64, .int .i64, .int .i64], .agg [.int .i64, .int .i64], .agg [.int .i64, .int .i64]]) (_ : RT.wf _ x) : ∃ N, uncR [.agg [.int .i64, .int .i64, .int .i64, .int .i64], .agg [.int .i64, .int .i64], .agg [.int .i64, .int .i64]] (W.leatlaw25_AlphaTakes N) x = some true := by
  obtain ⟨t, ⟨a, b⟩, c, d⟩ := x
  exact ⟨3000, AlphaTakes_i t a b c d⟩

/-- A round of its own. -/
theorem atake_round {s e u n : Int} (a m : Int) (hs : 0 ≤ s ∧ s ≤ 1048576) (ha : 1 ≤ a ∧ a ≤ 16777216) (he : e ≤ u) : atake (s, 0, 0, e) a m u n = ((toward s (ratio (cl m 0 a) a) 4, 0, 0, n), true) := by
  have ca : cl a 0 16777216 = a := by simp only [cl]; omega
  have hm : 0 ≤ cl m 0 a ∧ cl m 0 a ≤ a := by simp only [cl]; omega
  have e0 : ai (s, 0, 0, e) = (s, 0, 0, e) := by simp only [ai, cl, Prod.mk.injEq, and_true]; omega
  have e1 : acnt (s, 0, 0, e) a m = (s, a, cl m 0 a, e) := by
    simp only [acnt, e0, ca]
    generalize cl m 0 a = k at *
    simp only [ai, cl, Prod.mk.injEq, and_true]; omega
  have e2 : ai (s, a, cl m 0 a, e) = (s, a, cl m 0 a, e) := by
    generalize cl m 0 a = k at *
    simp only [ai, cl, Prod.mk.injEq, and_true]; omega
  simp only [atake, e1, afr, e2]
  rw [if_neg (by omega), if_neg (by omega)]

theorem AlphaKeeps_i (s : Int) (l : List (Int × Int)) (hl : ∀ x ∈ l, (0 ≤ x.1 ∧ x.1 ≤ 65535) ∧ (0 ≤ x.2 ∧ x.2 ≤ 65535)) : W.leatlaw25_AlphaKeeps 3000 s l = some true := by
  have hN : 2000 < 3000 := by omega
  obtain ⟨y, rfl, he⟩ := iter_done (round := W.leatlaw25_AlphaKeeps_L3 3000) (fun x => ∃ (s e : Int) (i : Nat), x = (((l.length : Int), ((i : Int), ())), ((s, (0, (0, (e, ())))), (l, ()))) ∧ 0 ≤ s ∧ s ≤ 1048576 ∧ e ≤ i ∧ i ≤ 60) (fun x => 61 - x.1.2.1.toNat)
    (fun y => y = .inl ((), ())) (by
      rintro F x ⟨s, e, i, rfl, h0, h1, h2, h3⟩
      by_cases hlt : i < l.length
      · by_cases h60 : i = 60
        · right
          refine ⟨_, rfl, ?_⟩
          subst h60
          simp only [W.leatlaw25_AlphaKeeps_L3]
          rw [bift (by omega), decide_eq_true (by omega), decide_eq_true (by omega)]
          rfl
        · left
          have hmem : l.getD i (0, 0) ∈ l := by
            have : l.getD i (0, 0) = l[i] := by simp [List.getD, hlt]
            rw [this]; exact List.getElem_mem hlt
          have hd := hl _ hmem
          obtain ⟨⟨p, q⟩, hg⟩ : ∃ z, l.getD i (0, 0) = z := ⟨_, rfl⟩
          rw [hg] at hd
          simp only [] at hd
          have w1 := wrapI64 (x := p) (by omega) (by omega)
          have w2 := wrapI64 (x := p + 1) (by omega) (by omega)
          have w3 := wrapI64 (x := q) (by omega) (by omega)
          have w4 := wrapI64 (x := (i : Int) + 1) (by omega) (by omega)
          have ht := alpha_Take_eq 3000 (s, 0, 0, e) (p + 1) q (i : Int) (i : Int) hN
          rw [atake_round (p + 1) q ⟨h0, h1⟩ (by omega) h2] at ht
          have hr := ratio_in (cl q 0 (p + 1)) (p + 1)
          have hb := toward_between (x := s) (y := ratio (cl q 0 (p + 1)) (p + 1)) 4 ⟨by omega, by omega⟩ ⟨by omega, by omega⟩
          have hz : q = 0 → ratio (cl q 0 (p + 1)) (p + 1) = 0 := by
            intro h; have e : cl q 0 (p + 1) = 0 := by simp only [cl]; omega
            rw [e]; rfl
          have hf : p + 1 ≤ q → ratio (cl q 0 (p + 1)) (p + 1) = 1048576 := by
            intro h; have e : cl q 0 (p + 1) = p + 1 := by simp only [cl]; omega
            rw [e]; simp only [ratio]; rw [if_neg (by omega), if_pos (by omega)]
          generalize toward s (ratio (cl q 0 (p + 1)) (p + 1)) 4 = z at *
          have c1 : ((i : Int) < (l.length : Int)) = True := eq_true (by omega)
          have c2 : ((0 : Int) ≤ (i : Int)) = True := eq_true (by omega)
          have c3 : ((60 : Int) ≤ (i : Int)) = False := eq_false (by omega)
          have c4 : (z < 0) = False := eq_false (by omega)
          have c5 : (1048576 < z) = False := eq_false (by omega)
          refine ⟨_, ⟨z, i, i + 1, rfl, by omega, by omega, by omega, by omega⟩, by simp; omega, ?_⟩
          simp only [W.leatlaw25_AlphaKeeps_L3, Int.toNat_natCast, hg, w1, w2, w3, w4, ht, Option.bind_some, c1, c2, c3, c4, c5, decide_true, decide_false, Bool.and_self, cond_true, cond_false, beq_self_eq_true, Bool.not_true]
          by_cases hq : q = 0
          · have c6 : (s < z) = False := eq_false (by rw [hz hq] at hb; omega)
            have c7 : (p + 1 ≤ 0) = False := eq_false (by omega)
            simp only [c6, c7, decide_false, hq, beq_self_eq_true, cond_true]
            rfl
          · rw [beq_false_of_ne hq]
            by_cases hp : p + 1 ≤ q
            · have c6 : (z < s) = False := eq_false (by rw [hf hp] at hb; omega)
              simp only [c6, decide_eq_true hp, decide_false]
              rfl
            · simp only [decide_eq_false hp]
              rfl
      · right
        refine ⟨_, rfl, ?_⟩
        simp only [W.leatlaw25_AlphaKeeps_L3]
        rw [biff (by omega)]) 3000 (((l.length : Int), (0, ())), ((cl s 0 1048576, (0, (0, (0, ())))), (l, ()))) ⟨_, 0, 0, rfl, (cls20 s).1, (cls20 s).2, by omega, by omega⟩ (by simp)
  simp only [W.leatlaw25_AlphaKeeps, alpha_Start_eq, Option.bind_some, he, leatlaw25_works_eq _ hN]

theorem u16_range {x : Int} (h : SK.wf (.int .u16) x) : 0 ≤ x ∧ x ≤ 65535 := by
  simp only [SK.wf, IntKind.min, IntKind.max, IntKind.signed, IntKind.bits] at h
  simp at h
  omega

theorem AlphaKeeps (x : RT [.sc (.int .i64), .row 34 [.int .u16, .int .u16]]) (h : RT.wf _ x) : ∃ N, uncR [.sc (.int .i64), .row 34 [.int .u16, .int .u16]] (W.leatlaw25_AlphaKeeps N) x = some true := by
  obtain ⟨s, l⟩ := x
  exact ⟨3000, AlphaKeeps_i s l fun z hz => ⟨u16_range (h.2.2 z hz).1, u16_range (h.2.2 z hz).2⟩⟩

def upS (s : Int) : Int := s + (1048576 - s) / 16

def dnS (s : Int) : Int := s + (0 - s) / 16

def rep (f : Int → Int) : Nat → Int → Int
  | 0, s => s
  | n + 1, s => f (rep f n s)

theorem rep_up : 983040 < rep upS 50 0 := by decide +kernel

theorem rep_dn : rep dnS 50 1048576 < 65536 := by decide +kernel

theorem AlphaSettles_i (s0 : Int) : W.leatlaw25_AlphaSettles 3000 s0 = some true := by
  have hN : 2000 < 3000 := by omega
  have hc := cls20 s0
  have tU : ∀ s : Int, 0 ≤ s → s ≤ 1048576 → toward s 1048576 4 = upS s := by
    intro s h0 h1
    have e : ssub 1048576 s = 1048576 - s := by simp only [ssub, cl]; omega
    have e4 : (2 : Int) ^ (cl 4 0 62).toNat = 16 := rfl
    simp only [toward, e, e4, upS]; simp only [sadd, cl]; omega
  have tD : ∀ s : Int, 0 ≤ s → s ≤ 1048576 → toward s 0 4 = dnS s := by
    intro s h0 h1
    have e : ssub 0 s = 0 - s := by simp only [ssub, cl]; omega
    have e4 : (2 : Int) ^ (cl 4 0 62).toNat = 16 := rfl
    simp only [toward, e, e4, dnS]; simp only [sadd, cl]; omega
  obtain ⟨y, ⟨u, d, rfl, hu, hd⟩, he⟩ := iter_done (round := W.leatlaw25_AlphaSettles_L3 3000) (fun x => ∃ (u d : Int) (i : Nat), x = (((i : Int), ()), ((u, (0, (0, (0, ())))), ((d, (0, (0, (0, ())))), ()))) ∧ i ≤ 50 ∧ 0 ≤ u ∧ u ≤ 1048576 ∧ 0 ≤ d ∧ d ≤ 1048576 ∧ rep upS i 0 ≤ u ∧ d ≤ rep dnS i 1048576) (fun x => 51 - x.1.1.toNat)
    (fun y => ∃ u d : Int, y = ((), ((u, (0, (0, (0, ())))), ((d, (0, (0, (0, ())))), ()))) ∧ rep upS 50 0 ≤ u ∧ d ≤ rep dnS 50 1048576) (by
      rintro F x ⟨u, d, i, rfl, hi, u0, u1, d0, d1, hu, hd⟩
      by_cases hlt : i < 50
      · left
        have w4 := wrapI64 (x := (i : Int) + 1) (by omega) (by omega)
        have h1 := alpha_Take_eq 3000 (u, 0, 0, 0) 10 10 0 0 hN
        have h2 := alpha_Take_eq 3000 (d, 0, 0, 0) 10 0 0 0 hN
        rw [atake_round 10 10 ⟨u0, u1⟩ (by omega) (by omega), show ratio (cl 10 0 10) 10 = 1048576 from rfl, tU u u0 u1] at h1
        rw [atake_round 10 0 ⟨d0, d1⟩ (by omega) (by omega), show ratio (cl 0 0 10) 10 = 0 from rfl, tD d d0 d1] at h2
        have e1 : rep upS (i + 1) 0 = upS (rep upS i 0) := rfl
        have e2 : rep dnS (i + 1) 1048576 = dnS (rep dnS i 1048576) := rfl
        refine ⟨_, ⟨upS u, dnS d, i + 1, rfl, hlt, ?_, ?_, ?_, ?_, ?_, ?_⟩, by simp; omega, ?_⟩
        · simp only [upS]; omega
        · simp only [upS]; omega
        · simp only [dnS]; omega
        · simp only [dnS]; omega
        · rw [e1]; simp only [upS]; omega
        · rw [e2]; simp only [dnS]; omega
        · simp only [W.leatlaw25_AlphaSettles_L3, h1, h2, Option.bind_some, w4]
          rw [bift (by omega)]
          rfl
      · right
        have e50 : i = 50 := by omega
        rw [e50] at hu hd
        refine ⟨_, ⟨u, d, rfl, hu, hd⟩, ?_⟩
        simp only [W.leatlaw25_AlphaSettles_L3]
        rw [biff (by omega)]) 3000 ((0, ()), ((cl s0 0 1048576, (0, (0, (0, ())))), ((cl s0 0 1048576, (0, (0, (0, ())))), ()))) ⟨_, _, 0, rfl, by omega, hc.1, hc.2, hc.1, hc.2, hc.1, hc.2⟩ (by simp)
  have k1 := rep_up
  have k2 := rep_dn
  simp only [W.leatlaw25_AlphaSettles, alpha_Start_eq, Option.bind_some, he, leatlaw25_works_eq _ hN]
  rw [decide_eq_true (show 983040 < u by omega), decide_eq_true (show d < 65536 by omega)]
  rfl

theorem AlphaSettles (x : RT [.sc (.int .i64)]) (_ : RT.wf _ x) : ∃ N, uncR [.sc (.int .i64)] (W.leatlaw25_AlphaSettles N) x = some true :=
  ⟨3000, by simp only [uncR]; exact AlphaSettles_i x⟩

end Go.Proofs.YtlnbhofiihkpoaaRRR.Pure
