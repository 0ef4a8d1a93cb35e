/- DualKeeps, as plain Lean: what came is what went, was lost and waits. -/
import Derived.Test.YteidghhjccohdaaPDualPl
namespace Go.Proofs.Yteidghhjccohdaa.Pure
open Go.Ev Go.RowKit

structure Fair (n : Int) (t : T9) : Prop where
  a : t.1 = t.2.1 + t.2.2.1 + t.2.2.2.1
  b : t.2.2.2.2.1 = t.2.2.2.2.2.1 + t.2.2.2.2.2.2.1 + t.2.2.2.2.2.2.2.1
  p1 : 0 ≤ t.2.1
  p2 : 0 ≤ t.2.2.1
  p3 : 0 ≤ t.2.2.2.1
  p4 : 0 ≤ t.2.2.2.2.2.1
  p5 : 0 ≤ t.2.2.2.2.2.2.1
  p6 : 0 ≤ t.2.2.2.2.2.2.2.1
  m1 : 0 ≤ t.2.2.2.2.2.2.2.2
  m2 : t.2.2.2.2.2.2.2.2 ≤ t.2.1
  n1 : t.1 ≤ n
  n2 : t.2.2.2.2.1 ≤ 65536 * n

theorem Fair_acc {n : Int} {t : T9} {c : Int} (F : Fair n t) (hc : 1 ≤ c ∧ c ≤ 65536) (hn : n ≤ 1000) : Fair (n + 1) (tAcc t c) := by
  obtain ⟨a, b, p1, p2, p3, p4, p5, p6, m1, m2, n1, n2⟩ := F
  have w1 := wrapI64 (x := t.1 + 1) (by omega) (by omega)
  have w2 := wrapI64 (x := t.2.2.2.1 + 1) (by omega) (by omega)
  have w3 := wrapI64 (x := t.2.2.2.2.1 + c) (by omega) (by omega)
  have w4 := wrapI64 (x := t.2.2.2.2.2.2.2.1 + c) (by omega) (by omega)
  constructor <;> simp only [tAcc, w1, w2, w3, w4] <;> omega

theorem Fair_rej {n : Int} {t : T9} {c : Int} (F : Fair n t) (hc : 1 ≤ c ∧ c ≤ 65536) (hn : n ≤ 1000) : Fair (n + 1) (tRej t c) := by
  obtain ⟨a, b, p1, p2, p3, p4, p5, p6, m1, m2, n1, n2⟩ := F
  have w1 := wrapI64 (x := t.1 + 1) (by omega) (by omega)
  have w2 := wrapI64 (x := t.2.2.1 + 1) (by omega) (by omega)
  have w3 := wrapI64 (x := t.2.2.2.2.1 + c) (by omega) (by omega)
  have w4 := wrapI64 (x := t.2.2.2.2.2.2.1 + c) (by omega) (by omega)
  constructor <;> simp only [tRej, w1, w2, w3, w4] <;> omega

theorem Fair_lost {n : Int} {t : T9} {c : Int} (F : Fair n t) (hc : 0 ≤ c ∧ c ≤ t.2.2.2.2.2.2.2.1) (h1 : 1 ≤ t.2.2.2.1) (hn : n ≤ 1000) : Fair n (tLost (tOut t c) c) := by
  obtain ⟨a, b, p1, p2, p3, p4, p5, p6, m1, m2, n1, n2⟩ := F
  have w1 := wrapI64 (x := t.2.2.1 + 1) (by omega) (by omega)
  have w2 := wrapI64 (x := t.2.2.2.1 - 1) (by omega) (by omega)
  have w3 := wrapI64 (x := t.2.2.2.2.2.2.1 + c) (by omega) (by omega)
  have w4 := wrapI64 (x := t.2.2.2.2.2.2.2.1 - c) (by omega) (by omega)
  constructor <;> simp only [tLost, tOut, w1, w2, w3, w4] <;> omega

theorem Fair_went {n : Int} {t : T9} {c : Int} (m : Bool) (F : Fair n t) (hc : 0 ≤ c ∧ c ≤ t.2.2.2.2.2.2.2.1) (h1 : 1 ≤ t.2.2.2.1) (hn : n ≤ 1000) : Fair n (tWent (tOut t c) c m) := by
  obtain ⟨a, b, p1, p2, p3, p4, p5, p6, m1, m2, n1, n2⟩ := F
  have w1 := wrapI64 (x := t.2.1 + 1) (by omega) (by omega)
  have w2 := wrapI64 (x := t.2.2.2.1 - 1) (by omega) (by omega)
  have w3 := wrapI64 (x := t.2.2.2.2.2.1 + c) (by omega) (by omega)
  have w4 := wrapI64 (x := t.2.2.2.2.2.2.2.1 - c) (by omega) (by omega)
  have w5 := wrapI64 (x := t.2.2.2.2.2.2.2.2 + 1) (by omega) (by omega)
  cases m <;> constructor <;> simp only [tWent, tOut, w1, w2, w3, w4, w5, cond_true, cond_false] <;> omega

theorem Fair.mono {n : Int} {t : T9} (F : Fair n t) : Fair (n + 1) t := by
  obtain ⟨a, b, p1, p2, p3, p4, p5, p6, m1, m2, n1, n2⟩ := F
  constructor <;> omega

theorem fair_eq (N : Nat) {n : Int} {t : T9} (F : Fair n t) (hn : n ≤ 1000) (h : 0 < t.2.2.2.1 ↔ 0 < t.2.2.2.2.2.2.2.1) : W.leatlaw36_fair N t = some true := by
  obtain ⟨a, b, p1, p2, p3, p4, p5, p6, m1, m2, n1, n2⟩ := F
  have w1 : IntKind.wrap .i64 (IntKind.wrap .i64 (t.2.1 + t.2.2.1) + t.2.2.2.1) = t.1 := by
    rw [wrapI64 (x := t.2.1 + t.2.2.1) (by omega) (by omega), wrapI64 (by omega) (by omega)]; omega
  have w2 : IntKind.wrap .i64 (IntKind.wrap .i64 (t.2.2.2.2.2.1 + t.2.2.2.2.2.2.1) + t.2.2.2.2.2.2.2.1) = t.2.2.2.2.1 := by
    rw [wrapI64 (x := t.2.2.2.2.2.1 + t.2.2.2.2.2.2.1) (by omega) (by omega), wrapI64 (by omega) (by omega)]; omega
  have e : decide (0 < t.2.2.2.1) = decide (0 < t.2.2.2.2.2.2.2.1) := by rw [decide_eq_decide]; exact h
  simp only [W.leatlaw36_fair, w1, w2, BEq.rfl, p3, p6, m2, decide_true, cond_true, e]

theorem tSum_eq {n : Int} {a b : T9} (A : Fair n a) (B : Fair n b) (hn : n ≤ 1000) : tSum a b = (a.1 + b.1, (a.2.1 + b.2.1, (a.2.2.1 + b.2.2.1, (a.2.2.2.1 + b.2.2.2.1, (a.2.2.2.2.1 + b.2.2.2.2.1, (a.2.2.2.2.2.1 + b.2.2.2.2.2.1, (a.2.2.2.2.2.2.1 + b.2.2.2.2.2.2.1, (a.2.2.2.2.2.2.2.1 + b.2.2.2.2.2.2.2.1, a.2.2.2.2.2.2.2.2 + b.2.2.2.2.2.2.2.2)))))))) := by
  obtain ⟨a1, b1, p1, p2, p3, p4, p5, p6, m1, m2, n1, n2⟩ := A
  obtain ⟨a2, b2, r1, r2, r3, r4, r5, r6, k1, k2, l1, l2⟩ := B
  simp only [tSum]
  rw [wrapI64 (x := a.1 + b.1) (by omega) (by omega), wrapI64 (x := a.2.1 + b.2.1) (by omega) (by omega), wrapI64 (x := a.2.2.1 + b.2.2.1) (by omega) (by omega), wrapI64 (x := a.2.2.2.1 + b.2.2.2.1) (by omega) (by omega), wrapI64 (x := a.2.2.2.2.1 + b.2.2.2.2.1) (by omega) (by omega), wrapI64 (x := a.2.2.2.2.2.1 + b.2.2.2.2.2.1) (by omega) (by omega), wrapI64 (x := a.2.2.2.2.2.2.1 + b.2.2.2.2.2.2.1) (by omega) (by omega), wrapI64 (x := a.2.2.2.2.2.2.2.1 + b.2.2.2.2.2.2.2.1) (by omega) (by omega), wrapI64 (x := a.2.2.2.2.2.2.2.2 + b.2.2.2.2.2.2.2.2) (by omega) (by omega)]

theorem Fair_sum {n : Int} {a b : T9} (A : Fair n a) (B : Fair n b) (hn : n ≤ 1000) : Fair (2 * n) (tSum a b) := by
  rw [tSum_eq A B hn]
  obtain ⟨a1, b1, p1, p2, p3, p4, p5, p6, m1, m2, n1, n2⟩ := A
  obtain ⟨a2, b2, r1, r2, r3, r4, r5, r6, k1, k2, l1, l2⟩ := B
  constructor <;> simp only <;> omega

structure KInv (n : Nat) (l : L8) (s : St) : Prop where
  g : Good n s
  f1 : Fair n s.t1
  f2 : Fair n s.t2
  hb : sumS s.q1 + sumS s.q2 ≤ l.1
  hl : s.l = l

theorem KInv_gone1 {D : List Int} {now : Int} {n : Nat} {l : L8} {s : St} (K : KInv n l s) (hn : n ≤ 100) (hq : s.q1 ≠ []) : KInv n l (gone1 D now s) ∧ KInv n l (went1 D now s) := by
  have g := K.g
  have g1 := g.w1; have g3 := g.b1; have g5 := sumS_in g.sz1
  have hl := List.length_pos_iff.2 hq
  have hp := sz_in g.sz1
  have ht := sumS_tail hq
  have hs : 0 ≤ sumS s.q1.tail := (Int.le_trans (by omega) (sumS_in (q := s.q1.tail) fun p hp => g.sz1 p (List.mem_of_mem_tail hp)).1)
  have ju := judge_used D (out1 s) 1 (hd s.q1) (dl now s.q1)
  have g7 := g.u0
  have hu : 0 ≤ (j1 D now s).1 ∧ (j1 D now s).1 ≤ s.used + 2 := by simp only [j1]; simp only [out1] at ju ⊢; omega
  have hb := K.hb
  refine ⟨⟨Good_gone1 g hn hq, Fair_lost K.f1 (by omega) (by omega) (by omega), K.f2, ?_, K.hl⟩, ⟨Good_out1 g hq hn _ _ _ hu rfl rfl, Fair_went _ K.f1 (by omega) (by omega) (by omega), K.f2, ?_, K.hl⟩⟩
  · simp only [gone1, out1]; omega
  · simp only [went1, out1]; omega

theorem KInv_gone2 {D : List Int} {now : Int} {n : Nat} {l : L8} {s : St} (K : KInv n l s) (hn : n ≤ 100) (hq : s.q2 ≠ []) : KInv n l (gone2 D now s) ∧ KInv n l (went2 D now s) := by
  have g := K.g
  have g1 := g.w2; have g3 := g.b2; have g5 := sumS_in g.sz2
  have hl := List.length_pos_iff.2 hq
  have hp := sz_in g.sz2
  have ht := sumS_tail hq
  have hs : 0 ≤ sumS s.q2.tail := (Int.le_trans (by omega) (sumS_in (q := s.q2.tail) fun p hp => g.sz2 p (List.mem_of_mem_tail hp)).1)
  have ju := judge_used D (out2 s) 2 (hd s.q2) (dl now s.q2)
  have g7 := g.u0
  have hu : 0 ≤ (j2 D now s).1 ∧ (j2 D now s).1 ≤ s.used + 2 := by simp only [j2]; simp only [out2] at ju ⊢; omega
  have hb := K.hb
  refine ⟨⟨Good_gone2 g hn hq, K.f1, Fair_lost K.f2 (by omega) (by omega) (by omega), ?_, K.hl⟩, ⟨Good_out2 g hq hn _ _ _ hu rfl rfl, K.f1, Fair_went _ K.f2 (by omega) (by omega) (by omega), ?_, K.hl⟩⟩
  · simp only [gone2, out2]; omega
  · simp only [went2, out2]; omega

theorem KInv_take (D : List Int) (now : Int) {n : Nat} {l : L8} (hn : n ≤ 100) : ∀ (f : Nat) (s : St) (lost : List Pk), KInv n l s → KInv n l (take D now f s lost).1 := by
  intro f
  induction f with
  | zero => intro s lost K; exact K
  | succ f ih =>
    intro s lost K
    by_cases he : s.q1 = [] ∧ s.q2 = []
    · rw [take_empty D now _ s lost he]; exact K
    · rcases pick_cases K.g he with ⟨hp, hq⟩ | ⟨hp, hq⟩
      · cases hj : (j1 D now s).2.2 with
        | true => simp only [take, he, hp, hj, if_true, if_false, cond_true]; exact ih _ _ (KInv_gone1 K hn hq).1
        | false => simp only [take, he, hp, hj, if_true, if_false, cond_false]; exact (KInv_gone1 K hn hq).2
      · have hp1 : ¬ ((2 : Int) = 1) := by omega
        cases hj : (j2 D now s).2.2 with
        | true => simp only [take, he, hp, hp1, hj, if_false, cond_true]; exact ih _ _ (KInv_gone2 K hn hq).1
        | false => simp only [take, he, hp, hp1, hj, if_false, cond_false]; exact (KInv_gone2 K hn hq).2

theorem KInv.mono {n : Nat} {l : L8} {s : St} (K : KInv n l s) : KInv (n + 1) l s := ⟨K.g.mono, by have := K.f1.mono; simpa using this, by have := K.f2.mono; simpa using this, K.hb, K.hl⟩

theorem KInv_put {n : Nat} {l : L8} {s : St} (now : Int) (p : Pk) (K : KInv n l s) (hn : n ≤ 99) : KInv (n + 1) l (put s now p).1 := by
  have hc : 1 ≤ cl p.2.2.1 1 65536 ∧ cl p.2.2.1 1 65536 ≤ 65536 := cl_in (by omega)
  have hb := K.hb
  have hl := K.hl
  have e : ((n + 1 : Nat) : Int) = (n : Int) + 1 := by omega
  refine ⟨Good_put now p K.g hn, ?_, ?_, ?_, ?_⟩
  · rw [e]; unfold put; split
    · split
      · exact Fair_rej K.f1 hc (by omega)
      · exact Fair_acc K.f1 hc (by omega)
    · split
      · exact K.f1.mono
      · exact K.f1.mono
  · rw [e]; unfold put; split
    · split
      · exact K.f2.mono
      · exact K.f2.mono
    · split
      · exact Fair_rej K.f2 hc (by omega)
      · exact Fair_acc K.f2 hc (by omega)
  · unfold put; split
    · split
      · exact hb
      · rename_i h; rw [hl] at h; simp only [sumS_app, putP]; omega
    · split
      · exact hb
      · rename_i h; rw [hl] at h; simp only [sumS_app, putP]; omega
  · unfold put; split
    · split
      · exact hl
      · exact hl
    · split
      · exact hl
      · exact hl

theorem KInv_act {D : List Int} {n : Nat} {l : L8} {s : St} (a : Int × Int × Pk) (K : KInv n l s) (hn : n ≤ 99) : KInv (n + 1) l (act D s a) := by
  unfold act
  split
  · exact (KInv_take D _ (by omega) _ _ _ K).mono
  · split
    · exact (⟨Good_upd _ K.g, K.f1, K.f2, K.hb, K.hl⟩ : KInv n l (upd s a.2.1)).mono
    · exact KInv_put _ _ K hn

theorem waits_iff {n : Nat} {s : St} (G : Good n s) : (0 < s.t1.2.2.2.1 ↔ 0 < s.t1.2.2.2.2.2.2.2.1) ∧ (0 < s.t2.2.2.2.1 ↔ 0 < s.t2.2.2.2.2.2.2.2.1) := by
  have g1 := G.w1; have g2 := G.w2; have g3 := G.b1; have g4 := G.b2; have g5 := sumS_in G.sz1; have g6 := sumS_in G.sz2
  constructor <;> omega

theorem Fair0 : Fair ((0 : Nat) : Int) z9 := by constructor <;> decide

abbrev cK (l : L8) (acts : List (Int × Int × Pk)) (i : Int) (s : St) (h : Hid) (D : List Int) : (Int × Int × Unit) × (L8 × Unit) × (L8 × T9 × T9 × T9 × (Int × Int) × Int × Unit) × List (Int × Int × Pk) × (Int × Int × Int × Unit) × (Int × Int × Int × Unit) × (Int × Unit) × List Pk × List Pk × Unit × (Int × Unit) × List Int × Unit :=
  (((acts.length : Int), (i, ())), ((l, ()), (cA s, (acts, ((h.f1, (h.m1, (65536, ()))), ((h.f2, (h.m2, (65536, ()))), ((s.used, ()), (h.r1, (h.r2, ((), ((h.dat, ()), (D, ())))))))))))) 

theorem keeps_loop (l : L8) (acts : List (Int × Int × Pk)) {D : List Int} (hD : DOK D) : iter (W.leatlaw36_DualKeeps_L4 3000) 3000 (cK l acts 0 (st0 l) hid0 D) = some (.inl ((), ())) := by
  have hN : 2000 < 3000 := by omega
  refine iter_some (fun x => ∃ (i : Nat) (s : St) (h : Hid), i ≤ 80 ∧ Rep D s h ∧ KInv i (lim l) s ∧ x = cK l acts i s h D) (fun x => (80 - x.1.2.1).toNat) _ ?_ 3000 _ ⟨0, st0 l, hid0, by omega, Rep0 D l, ⟨Good0 l, Fair0, Fair0, by have := (Good0 l).lim; simp only [st0, sumS] at this ⊢; omega, rfl⟩, rfl⟩ (by simp only; omega)
  rintro F x ⟨i, s, h, hi, R, K, rfl⟩
  by_cases hc : i < acts.length
  · have c1 : (i : Int) < acts.length := by omega
    have c2 : (0 : Int) ≤ i := by omega
    by_cases h80 : i = 80
    · right
      have c3 : (80 : Int) ≤ i := by omega
      simp only [W.leatlaw36_DualKeeps_L4, c1, c2, c3, decide_true, cond_true, Bool.and_self]
    · left
      have c3 : ¬ (80 : Int) ≤ i := by omega
      generalize ha : acts.getD i (0, (0, (0, (0, (0, (0, 0)))))) = a
      have K' := KInv_act (D := D) a K (by omega)
      have w2 : IntKind.wrap .i64 ((i : Int) + 1) = ((i + 1 : Nat) : Int) := by rw [wrapI64 (by omega) (by omega)]; omega
      have rest : ∀ s' : St, KInv (i + 1) (lim l) s' → W.leatlaw36_fair 3000 s'.t1 = some true ∧ W.leatlaw36_fair 3000 s'.t2 = some true ∧ W.leatlaw36_fair 3000 (tSum s'.t1 s'.t2) = some true ∧ decide ((lim l).1 < (tSum s'.t1 s'.t2).2.2.2.2.2.2.2.1) = false := by
        intro s' K
        have wi := waits_iff K.g
        have es := tSum_eq K.f1 K.f2 (by omega)
        have p1 := K.f1.p3; have p2 := K.f2.p3; have p3 := K.f1.p6; have p4 := K.f2.p6
        refine ⟨fair_eq 3000 K.f1 (by omega) wi.1, fair_eq 3000 K.f2 (by omega) wi.2, fair_eq 3000 (Fair_sum K.f1 K.f2 (by omega)) (by omega) ?_, ?_⟩
        · rw [es]; simp only; omega
        · rw [es]; have := K.hb; have := K.g.b1; have := K.g.b2; exact decide_eq_false (by simp only; omega)
      by_cases h1 : a.1 = 1
      · obtain ⟨h', e, R', G'⟩ := dual_Take 3000 hN hD a.2.1 (show i ≤ 100 by omega) R K.g
        have b : (a.1 == 1) = true := by rw [h1]; rfl
        have ea : act D s a = (takeA D a.2.1 s).1 := by unfold act; rw [if_pos h1]
        rw [ea] at K'
        obtain ⟨r1, r2, r3, r4⟩ := rest _ K'
        have eT := dual_Tally 3000 (takeA D a.2.1 s).1
        have e5 : ((tSum (takeA D a.2.1 s).1.t1 (takeA D a.2.1 s).1.t2).1 == IntKind.wrap .i64 ((takeA D a.2.1 s).1.t1.1 + (takeA D a.2.1 s).1.t2.1)) = true := BEq.rfl
        refine ⟨cK l acts (i + 1 : Nat) (takeA D a.2.1 s).1 h' D, ⟨i + 1, _, h', by omega, R', K', rfl⟩, by simp only; omega, ?_⟩
        simp only [W.leatlaw36_DualKeeps_L4, c1, c2, c3, decide_true, decide_false, cond_true, cond_false, Bool.and_self, Int.toNat_natCast, ha, b, e, Option.bind_some, eT.1, eT.2.1, eT.2.2, r1, r2, r3, r4, Bool.not_true, bff, ref_Limit_eq, e5, w2]
      · have b1 : (a.1 == 1) = false := beq_false_of_ne h1
        by_cases h2 : a.1 = 2
        · have b2 : (a.1 == 2) = true := by rw [h2]; rfl
          have e := dual_Update 3000 a.2.1 R
          have ea : act D s a = upd s a.2.1 := by unfold act; rw [if_neg h1, if_pos h2]
          rw [ea] at K'
          obtain ⟨r1, r2, r3, r4⟩ := rest _ K'
          have eT := dual_Tally 3000 (upd s a.2.1)
          have e5 : ((tSum (upd s a.2.1).t1 (upd s a.2.1).t2).1 == IntKind.wrap .i64 ((upd s a.2.1).t1.1 + (upd s a.2.1).t2.1)) = true := BEq.rfl
          refine ⟨cK l acts (i + 1 : Nat) (upd s a.2.1) h D, ⟨i + 1, upd s a.2.1, h, by omega, ⟨R.r1, R.r2, R.hat⟩, K', rfl⟩, by simp only; omega, ?_⟩
          simp only [W.leatlaw36_DualKeeps_L4, c1, c2, c3, decide_true, decide_false, cond_true, cond_false, Bool.and_self, Int.toNat_natCast, ha, b1, b2, e, Option.bind_some, eT.1, eT.2.1, eT.2.2, r1, r2, r3, r4, Bool.not_true, bff, ref_Limit_eq, e5, w2]
        · have b2 : (a.1 == 2) = false := beq_false_of_ne h2
          obtain ⟨h', e, R'⟩ := dual_Put 3000 a.2.1 a.2.2 R K.g (by omega) hN
          have ea : act D s a = (put s a.2.1 a.2.2).1 := by unfold act; rw [if_neg h1, if_neg h2]
          rw [ea] at K'
          obtain ⟨r1, r2, r3, r4⟩ := rest _ K'
          have eT := dual_Tally 3000 (put s a.2.1 a.2.2).1
          have e5 : ((tSum (put s a.2.1 a.2.2).1.t1 (put s a.2.1 a.2.2).1.t2).1 == IntKind.wrap .i64 ((put s a.2.1 a.2.2).1.t1.1 + (put s a.2.1 a.2.2).1.t2.1)) = true := BEq.rfl
          refine ⟨cK l acts (i + 1 : Nat) (put s a.2.1 a.2.2).1 h' D, ⟨i + 1, _, h', by omega, R', K', rfl⟩, by simp only; omega, ?_⟩
          simp only [W.leatlaw36_DualKeeps_L4, c1, c2, c3, decide_true, decide_false, cond_true, cond_false, Bool.and_self, Int.toNat_natCast, ha, b1, b2, e, Option.bind_some, eT.1, eT.2.1, eT.2.2, r1, r2, r3, r4, Bool.not_true, bff, ref_Limit_eq, e5, w2]
  · right
    have c1 : ¬ (i : Int) < acts.length := by omega
    simp only [W.leatlaw36_DualKeeps_L4, c1, decide_false, cond_false]

theorem DualKeeps_i (l : L8) (draws : List Int) (acts : List (Int × Int × Pk)) (h : ∀ d ∈ draws, 0 ≤ d ∧ d ≤ 4294967295) : W.leatlaw36_DualKeeps 3000 l draws acts = some true := by
  have hD := cutL_DOK h
  have c1 : (0 : Int) ≤ imn ((draws.length : Nat) : Int) 50 := by rw [imn_eq]; omega
  have c2 : imn ((draws.length : Nat) : Int) 50 ≤ (draws.length : Int) := by rw [imn_eq]; omega
  have k := keeps_loop l acts hD
  simp only [cK] at k
  simp only [W.leatlaw36_DualKeeps, c1, c2, decide_true, Bool.and_self, cond_true, dual_New_eq 3000 l hD, Option.bind_some, k, dual_works3]

theorem DualKeeps (x : RT [.agg [.int .i64, .int .i64, .int .i64, .int .i64, .int .i64, .int .i64, .int .i64, .int .i64], .row 91 [.int .u32], .row 31 [.int .i64, .int .i64, .int .i64, .int .i64, .int .i64, .int .i64, .int .i64]]) (h : RT.wf _ x) : ∃ N, uncR [.agg [.int .i64, .int .i64, .int .i64, .int .i64, .int .i64, .int .i64, .int .i64, .int .i64], .row 91 [.int .u32], .row 31 [.int .i64, .int .i64, .int .i64, .int .i64, .int .i64, .int .i64, .int .i64]] (W.leatlaw36_DualKeeps N) x = some true := by
  obtain ⟨l, d, acts⟩ := x
  exact ⟨3000, DualKeeps_i l d acts fun z hz => du32_range (h.2.1.2 z hz)⟩

end Go.Proofs.Yteidghhjccohdaa.Pure
