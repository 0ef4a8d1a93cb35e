/- The score of a classic queue: what the program and the document's answer compute; the laws. -/
import Derived.Test.YtfiiifogplhppaaPFixed
namespace Go.Proofs.Ytfiiifogplhppaa.Pure
open Go.Ev Go.RowKit

/-- A round. -/
def cround (s : Int) (m : Bool) (d l : Int) : Int :=
  if m = false then toward (cl s 0 2097152) 0 6 else if d ≤ max l 1 then toward (cl s 0 2097152) 0 3
  else min (cl s 0 2097152 + ratio (ssub d (max l 1)) (max l 1) / 4) 2097152

theorem classic_within_eq (N : Nat) (s : Int) : W.classic_within N s = some (cl s 0 2097152) := by
  simp only [W.classic_within, sat_Clamp_eq, Option.bind_some]

theorem cls (s : Int) : 0 ≤ cl s 0 2097152 ∧ cl s 0 2097152 ≤ 2097152 := by simp only [cl]; omega

theorem classic_Round_eq (N : Nat) {s d l : Int} (m : Bool) (hd : I64 d) (hl : I64 l) (hN : 2000 < N) : W.classic_Round N s m d l = some (cround s m d l) := by
  have h := cls s
  have hr := ratio_in (ssub d (max l 1)) (max l 1)
  have e : (if 1 > l then 1 else l) = max l 1 := by split <;> omega
  simp only [W.classic_Round, classic_within_eq, Option.bind_some, fixed_Toward_eq N _ (show I64 (cl s 0 2097152) from ⟨by omega, by omega⟩) (show I64 0 from ⟨by omega, by omega⟩), e, sat_Sub_eq N hd (show I64 (max l 1) from ⟨by omega, by omega⟩),
    fixed_Ratio_eq N (ssub_I _ _) (show I64 (max l 1) from ⟨by omega, by omega⟩) hN, fixed_Halve_eq N _ _ hN, halve, show (cl 2 0 64).toNat = 2 from rfl, cround]
  cases m
  · rfl
  · simp only [Bool.not_true, cond_false, bifd, Bool.true_eq_false, if_false]
    split
    · rfl
    · rw [wrapI64 (by omega) (by omega)]
      simp only [cl, Option.some.injEq]
      omega

theorem leatref27_Round_eq (N : Nat) {s d l : Int} (m : Bool) (hd : I64 d) (hl : I64 l) (hN : 2000 < N) : W.leatref27_Round N s m d l = some (cround s m d l) := by
  have h := cls s
  have e : (if 2097152 < (if 0 > s then 0 else s) then 2097152 else (if 0 > s then 0 else s)) = cl s 0 2097152 := by
    simp only [cl]; split <;> split <;> omega
  have t := fun n => leatref04_Toward_eq N (x := cl s 0 2097152) (y := 0) n ⟨by omega, by omega⟩ ⟨by omega, by omega⟩ hN
  have key : ∀ k : Int, max l 1 = k → (bif !m then (some (toward (cl s 0 2097152) 0 6)) else bif decide (d ≤ k) then some (toward (cl s 0 2097152) 0 3) else (W.leatref01_Sub N d k).bind fun r => (W.leatref04_Ratio N r k).bind fun q => some (if 2097152 < IntKind.wrap .i64 (cl s 0 2097152 + IntKind.wrap .i64 (q.tdiv 4)) then 2097152 else IntKind.wrap .i64 (cl s 0 2097152 + IntKind.wrap .i64 (q.tdiv 4)))) = some (cround s m d l) := by
    rintro k rfl
    have hr := ratio_in (ssub d (max l 1)) (max l 1)
    rw [leatref01_Sub_eq N hd ⟨by omega, by omega⟩, Option.bind_some, leatref04_Ratio_eq N (ssub_I _ _) ⟨by omega, by omega⟩ hN, Option.bind_some, tdiv_nn hr.1]
    rw [wrapI64 (x := ratio (ssub d (max l 1)) (max l 1) / 4) (by omega) (by omega), wrapI64 (by omega) (by omega)]
    simp only [cround]
    cases m
    · rfl
    · simp only [Bool.not_true, cond_false, bifd, Bool.true_eq_false, if_false]
      split
      · rfl
      · simp only [Option.some.injEq]; split <;> omega
  simp only [W.leatref27_Round, e, t, Option.bind_some]
  by_cases hl1 : l < 1
  · rw [bift hl1]; exact key 1 (by omega)
  · rw [biff hl1]; exact key l (by omega)

theorem classic_Old_eq (N : Nat) (s : Int) : W.classic_Old N s = some (decide (1048576 ≤ s)) := rfl

theorem leatlaw27_works_eq (N : Nat) (hN : 2000 < N) : W.leatlaw27_works N = some true := by
  simp only [W.leatlaw27_works, classic_Round_eq N true (show I64 10000 from ⟨by omega, by omega⟩) (show I64 5000 from ⟨by omega, by omega⟩) hN, classic_Old_eq, Option.bind_some]
  rfl

theorem ClassicRounds_i (s d l : Int) (m : Bool) (hd : I64 d) (hl : I64 l) : W.leatlaw27_ClassicRounds 3000 s m (d, l) = some true := by
  have hN : 2000 < 3000 := by omega
  simp only [W.leatlaw27_ClassicRounds, classic_Round_eq _ m hd hl hN, leatref27_Round_eq _ m hd hl hN, classic_Old_eq, leatlaw27_works_eq _ hN, Option.bind_some, beq_self_eq_true, Bool.and_self, cond_true]

theorem ClassicRounds (x : RT [.agg [.int .i64], .sc .bool, .agg [.int .i64, .int .i64]]) (h : RT.wf _ x) : ∃ N, uncR [.agg [.int .i64], .sc .bool, .agg [.int .i64, .int .i64]] (W.leatlaw27_ClassicRounds N) x = some true := by
  obtain ⟨s, m, d, l⟩ := x
  exact ⟨3000, ClassicRounds_i s d l m (i64_range h.2.2.1) (i64_range h.2.2.2)⟩

theorem toward_zero {s : Int} (n : Int) (h : 0 ≤ s ∧ s ≤ 2097152) : 0 ≤ toward s 0 n ∧ toward s 0 n ≤ s := by
  have hp := pow_pos' (cl n 0 62).toNat
  have e : ssub 0 s = -s := by simp only [ssub, cl]; omega
  have h1 : -s ≤ -s / 2 ^ (cl n 0 62).toNat := by
    apply Int.le_ediv_of_mul_le hp
    have := Int.mul_le_mul_of_nonneg_left (show 1 ≤ (2 : Int) ^ (cl n 0 62).toNat by omega) h.1
    rw [Int.neg_mul]; omega
  have h2 : -s / 2 ^ (cl n 0 62).toNat ≤ 0 := by
    have := Int.ediv_le_ediv hp (show -s ≤ 0 by omega)
    rwa [Int.zero_ediv] at this
  simp only [toward, e, sadd, cl] at *
  omega

theorem cround_in {s d l : Int} (m : Bool) (h : 0 ≤ s ∧ s ≤ 2097152) : 0 ≤ cround s m d l ∧ cround s m d l ≤ 2097152 ∧ ((m = true ∧ max l 1 < d) → s ≤ cround s m d l ∧ cround s m d l ≤ s + 262144) ∧ (¬ (m = true ∧ max l 1 < d) → cround s m d l ≤ s) := by
  have e : cl s 0 2097152 = s := by simp only [cl]; omega
  have hr := ratio_in (ssub d (max l 1)) (max l 1)
  have t6 := toward_zero 6 h
  have t3 := toward_zero 3 h
  simp only [cround, e]
  cases m
  · simp only [if_true, Bool.false_eq_true, false_and, not_false_eq_true, forall_const, false_imp_iff, true_and]; omega
  · simp only [Bool.true_eq_false, if_false, true_and]
    split <;> omega

theorem ClassicWaits_i (l : List (Bool × Int)) (lim : Int) (hl : ∀ x ∈ l, I64 x.2) (hlim : I64 lim) : W.leatlaw27_ClassicWaits 3000 l lim = some true := by
  have hN : 2000 < 3000 := by omega
  obtain ⟨y, rfl, he⟩ := iter_done (round := W.leatlaw27_ClassicWaits_L4 3000) (fun x => ∃ (s : Int) (k i : Nat), x = ((lim, ((k : Int), ((l.length : Int), ((i : Int), ())))), ((s, ()), (l, ()))) ∧ 0 ≤ s ∧ s ≤ 2097152 ∧ s ≤ 262144 * k ∧ k ≤ i ∧ i ≤ 60) (fun x => 61 - x.1.2.2.2.1.toNat)
    (fun y => y = .inl ((), ())) (by
      rintro F x ⟨s, k, i, rfl, h0, h1, h2, h3, h4⟩
      by_cases hlt : i < l.length
      · by_cases h60 : i = 60
        · right
          refine ⟨_, rfl, ?_⟩
          subst h60
          simp only [W.leatlaw27_ClassicWaits_L4]
          rw [bift (by omega), decide_eq_true (by omega), decide_eq_true (by omega)]
          rfl
        · left
          have hw := wrapI64 (x := (i : Int) + 1) (by omega) (by omega)
          have hw2 := wrapI64 (x := (k : Int) + 1) (by omega) (by omega)
          have em : (if 1 > lim then 1 else lim) = max lim 1 := by split <;> omega
          have hmem : l.getD i (false, 0) ∈ l := by
            have : l.getD i (false, 0) = l[i] := by simp [List.getD, hlt]
            rw [this]; exact List.getElem_mem hlt
          have hd := hl _ hmem
          obtain ⟨⟨m, d⟩, hg⟩ : ∃ z, l.getD i (false, 0) = z := ⟨_, rfl⟩
          rw [hg] at hd
          have c := cround_in (s := s) (d := d) (l := lim) m ⟨h0, h1⟩
          have hr := classic_Round_eq 3000 (s := s) m hd hlim hN
          simp only [] at hr hd
          have c1 : ((i : Int) < (l.length : Int)) = True := eq_true (by omega)
          have c2 : ((0 : Int) ≤ (i : Int)) = True := eq_true (by omega)
          have c3 : ((60 : Int) ≤ (i : Int)) = False := eq_false (by omega)
          have c4 : (cround s m d lim < 0) = False := eq_false (by omega)
          have c5 : (2097152 < cround s m d lim) = False := eq_false (by omega)
          by_cases his : m = true ∧ max lim 1 < d
          · have c6 := c.2.2.1 his
            have c7 : (max lim 1 < d) = True := eq_true his.2
            have c8 : (cround s true d lim < s) = False := eq_false (by rw [← his.1]; omega)
            have c9 : 1048576 ≤ cround s true d lim → ((k : Int) + 1 < 4) = False := fun hh => eq_false (by rw [← his.1] at hh; omega)
            refine ⟨((lim, (((k + 1 : Nat) : Int), ((l.length : Int), (((i + 1 : Nat) : Int), ())))), ((cround s m d lim, ()), (l, ()))), ⟨_, k + 1, i + 1, rfl, by omega, by omega, by omega, by omega, by omega⟩, by simp; omega, ?_⟩
            obtain rfl := his.1
            simp only [W.leatlaw27_ClassicWaits_L4, Int.toNat_natCast, hg, hr, Option.bind_some, classic_Old_eq, em, hw, hw2, c1, c2, c3, c4, c5, c7, c8, decide_true, decide_false, Bool.and_self, cond_true, cond_false, beq_self_eq_true, Bool.not_true, show (false == true) = false from rfl]
            by_cases h10 : 1048576 ≤ cround s true d lim
            · simp only [decide_eq_true h10, c9 h10, decide_false, beq_self_eq_true, cond_true, cond_false]; rfl
            · simp only [decide_eq_false h10]; rfl
          · have c6 := c.2.2.2 his
            have c8 : (s < cround s m d lim) = False := eq_false (by omega)
            have c9 : 1048576 ≤ cround s m d lim → ((k : Int) < 4) = False := fun hh => eq_false (by omega)
            refine ⟨((lim, ((k : Int), ((l.length : Int), (((i + 1 : Nat) : Int), ())))), ((cround s m d lim, ()), (l, ()))), ⟨_, k, i + 1, rfl, by omega, by omega, by omega, by omega, by omega⟩, by simp; omega, ?_⟩
            have c7 : m = true → (max lim 1 < d) = False := fun h => eq_false (fun g => his ⟨h, g⟩)
            cases m with
            | true =>
              simp only [W.leatlaw27_ClassicWaits_L4, Int.toNat_natCast, hg, hr, Option.bind_some, classic_Old_eq, em, hw, c1, c2, c3, c4, c5, c7 rfl, c8, decide_true, decide_false, Bool.and_self, cond_true, cond_false, beq_self_eq_true, Bool.not_false, show (false == true) = false from rfl]
              by_cases h10 : 1048576 ≤ cround s true d lim
              · simp only [decide_eq_true h10, c9 h10, decide_false, beq_self_eq_true, cond_true, cond_false]; rfl
              · simp only [decide_eq_false h10]; rfl
            | false =>
              simp only [W.leatlaw27_ClassicWaits_L4, Int.toNat_natCast, hg, hr, Option.bind_some, classic_Old_eq, em, hw, c1, c2, c3, c4, c5, c8, decide_true, decide_false, Bool.and_self, cond_true, cond_false, beq_self_eq_true, show (false == true) = false from rfl]
              by_cases h10 : 1048576 ≤ cround s false d lim
              · simp only [decide_eq_true h10, c9 h10, decide_false, beq_self_eq_true, cond_true, cond_false]; rfl
              · simp only [decide_eq_false h10]; rfl
      · right
        refine ⟨_, rfl, ?_⟩
        simp only [W.leatlaw27_ClassicWaits_L4]
        rw [biff (by omega)]) 3000 ((lim, (0, ((l.length : Int), (0, ())))), ((0, ()), (l, ()))) ⟨0, 0, 0, rfl, by omega, by omega, by omega, by omega, by omega⟩ (by simp)
  simp only [W.leatlaw27_ClassicWaits, he, Option.bind_some, leatlaw27_works_eq _ hN]

theorem ClassicWaits (x : RT [.row 66 [.bool, .int .i64], .sc (.int .i64)]) (h : RT.wf _ x) : ∃ N, uncR [.row 66 [.bool, .int .i64], .sc (.int .i64)] (W.leatlaw27_ClassicWaits N) x = some true := by
  obtain ⟨l, lim⟩ := x
  exact ⟨3000, ClassicWaits_i l lim (fun z hz => i64_range (h.1.2 z hz).2) (i64_range h.2)⟩

end Go.Proofs.Ytfiiifogplhppaa.Pure
