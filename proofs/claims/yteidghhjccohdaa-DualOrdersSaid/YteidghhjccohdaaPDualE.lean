/- DualKeeps, as plain Lean: what came is what went, was lost and waits. -/
import Derived.Test.YteidghhjccohdaaPDualPl
namespace Go.Proofs.Yteidghhjccohdaa.Pure
open Go.Ev Go.RowKit

structure Fair (n : Int) (t : T9) : Prop where
  a : t.1 = t.2.1 + t.2.2.1 + t.2.2.2.1
  b : t.2.2.2.2.1 = t.2.2.2.2.2.1 + t.2.2.2.2.2.2.1 + t.2.2.2.2.2.2.2.1
  p1 : 0 ≤ t.2.1
  p2 : 0 ≤ t.2.2.1
  p3 : 0 ≤ t.2.2.2.1
  p4 : 0 ≤ t.2.2.2.2.2.1
  p5 : 0 ≤ t.2.2.2.2.2.2.1
  p6 : 0 ≤ t.2.2.2.2.2.2.2.1
  m1 : 0 ≤ t.2.2.2.2.2.2.2.2
  m2 : t.2.2.2.2.2.2.2.2 ≤ t.2.1
  n1 : t.1 ≤ n
  n2 : t.2.2.2.2.1 ≤ 65536 * n

theorem Fair_acc {n : Int} {t : T9} {c : Int} (F : Fair n t) (hc : 1 ≤ c ∧ c ≤ 65536) (hn : n ≤ 1000) : Fair (n + 1) (tAcc t c) := by
  obtain ⟨a, b, p1, p2, p3, p4, p5, p6, m1, m2, n1, n2⟩ := F
  have w1 := wrapI64 (x := t.1 + 1) (by omega) (by omega)
  have w2 := wrapI64 (x := t.2.2.2.1 + 1) (by omega) (by omega)
  have w3 := wrapI64 (x := t.2.2.2.2.1 + c) (by omega) (by omega)
  have w4 := wrapI64 (x := t.2.2.2.2.2.2.2.1 + c) (by omega) (by omega)
  constructor <;> simp only [tAcc, w1, w2, w3, w4] <;> omega

theorem Fair_rej {n : Int} {t : T9} {c : Int} (F : Fair n t) (hc : 1 ≤ c ∧ c ≤ 65536) (hn : n ≤ 1000) : Fair (n + 1) (tRej t c) := by
  obtain ⟨a, b, p1, p2, p3, p4, p5, p6, m1, m2, n1, n2⟩ := F
  have w1 := wrapI64 (x := t.1 + 1) (by omega) (by omega)
  have w2 := wrapI64 (x := t.2.2.1 + 1) (by omega) (by omega)
  have w3 := wrapI64 (x := t.2.2.2.2.1 + c) (by omega) (by omega)
  have w4 := wrapI64 (x := t.2.2.2.2.2.2.1 + c) (by omega) (by omega)
  constructor <;> simp only [tRej, w1, w2, w3, w4] <;> omega

theorem Fair_lost {n : Int} {t : T9} {c : Int} (F : Fair n t) (hc : 0 ≤ c ∧ c ≤ t.2.2.2.2.2.2.2.1) (h1 : 1 ≤ t.2.2.2.1) (hn : n ≤ 1000) : Fair n (tLost (tOut t c) c) := by
  obtain ⟨a, b, p1, p2, p3, p4, p5, p6, m1, m2, n1, n2⟩ := F
  have w1 := wrapI64 (x := t.2.2.1 + 1) (by omega) (by omega)
  have w2 := wrapI64 (x := t.2.2.2.1 - 1) (by omega) (by omega)
  have w3 := wrapI64 (x := t.2.2.2.2.2.2.1 + c) (by omega) (by omega)
  have w4 := wrapI64 (x := t.2.2.2.2.2.2.2.1 - c) (by omega) (by omega)
  constructor <;> simp only [tLost, tOut, w1, w2, w3, w4] <;> omega

theorem Fair_went {n : Int} {t : T9} {c : Int} (m : Bool) (F : Fair n t) (hc : 0 ≤ c ∧ c ≤ t.2.2.2.2.2.2.2.1) (h1 : 1 ≤ t.2.2.2.1) (hn : n ≤ 1000) : Fair n (tWent (tOut t c) c m) := by
  obtain ⟨a, b, p1, p2, p3, p4, p5, p6, m1, m2, n1, n2⟩ := F
  have w1 := wrapI64 (x := t.2.1 + 1) (by omega) (by omega)
  have w2 := wrapI64 (x := t.2.2.2.1 - 1) (by omega) (by omega)
  have w3 := wrapI64 (x := t.2.2.2.2.2.1 + c) (by omega) (by omega)
  have w4 := wrapI64 (x := t.2.2.2.2.2.2.2.1 - c) (by omega) (by omega)
  have w5 := wrapI64 (x := t.2.2.2.2.2.2.2.2 + 1) (by omega) (by omega)
  cases m <;> constructor <;> simp only [tWent, tOut, w1, w2, w3, w4, w5, cond_true, cond_false] <;> omega

theorem Fair.mono {n : Int} {t : T9} (F : Fair n t) : Fair (n + 1) t := by
  obtain ⟨a, b, p1, p2, p3, p4, p5, p6, m1, m2, n1, n2⟩ := F
  constructor <;> omega

theorem tSum_eq {n : Int} {a b : T9} (A : Fair n a) (B : Fair n b) (hn : n ≤ 1000) : tSum a b = (a.1 + b.1, (a.2.1 + b.2.1, (a.2.2.1 + b.2.2.1, (a.2.2.2.1 + b.2.2.2.1, (a.2.2.2.2.1 + b.2.2.2.2.1, (a.2.2.2.2.2.1 + b.2.2.2.2.2.1, (a.2.2.2.2.2.2.1 + b.2.2.2.2.2.2.1, (a.2.2.2.2.2.2.2.1 + b.2.2.2.2.2.2.2.1, a.2.2.2.2.2.2.2.2 + b.2.2.2.2.2.2.2.2)))))))) := by
  obtain ⟨a1, b1, p1, p2, p3, p4, p5, p6, m1, m2, n1, n2⟩ := A
  obtain ⟨a2, b2, r1, r2, r3, r4, r5, r6, k1, k2, l1, l2⟩ := B
  simp only [tSum]
  rw [wrapI64 (x := a.1 + b.1) (by omega) (by omega), wrapI64 (x := a.2.1 + b.2.1) (by omega) (by omega), wrapI64 (x := a.2.2.1 + b.2.2.1) (by omega) (by omega), wrapI64 (x := a.2.2.2.1 + b.2.2.2.1) (by omega) (by omega), wrapI64 (x := a.2.2.2.2.1 + b.2.2.2.2.1) (by omega) (by omega), wrapI64 (x := a.2.2.2.2.2.1 + b.2.2.2.2.2.1) (by omega) (by omega), wrapI64 (x := a.2.2.2.2.2.2.1 + b.2.2.2.2.2.2.1) (by omega) (by omega), wrapI64 (x := a.2.2.2.2.2.2.2.1 + b.2.2.2.2.2.2.2.1) (by omega) (by omega), wrapI64 (x := a.2.2.2.2.2.2.2.2 + b.2.2.2.2.2.2.2.2) (by omega) (by omega)]

theorem Fair_sum {n : Int} {a b : T9} (A : Fair n a) (B : Fair n b) (hn : n ≤ 1000) : Fair (2 * n) (tSum a b) := by
  rw [tSum_eq A B hn]
  obtain ⟨a1, b1, p1, p2, p3, p4, p5, p6, m1, m2, n1, n2⟩ := A
  obtain ⟨a2, b2, r1, r2, r3, r4, r5, r6, k1, k2, l1, l2⟩ := B
  constructor <;> simp only <;> omega

structure KInv (n : Nat) (l : L8) (s : St) : Prop where
  g : Good n s
  f1 : Fair n s.t1
  f2 : Fair n s.t2
  hb : sumS s.q1 + sumS s.q2 ≤ l.1
  hl : s.l = l

theorem KInv_gone1 {D : List Int} {now : Int} {n : Nat} {l : L8} {s : St} (K : KInv n l s) (hn : n ≤ 100) (hq : s.q1 ≠ []) : KInv n l (gone1 D now s) ∧ KInv n l (went1 D now s) := by
  have g := K.g
  have g1 := g.w1; have g3 := g.b1; have g5 := sumS_in g.sz1
  have hl := List.length_pos_iff.2 hq
  have hp := sz_in g.sz1
  have ht := sumS_tail hq
  have hs : 0 ≤ sumS s.q1.tail := (Int.le_trans (by omega) (sumS_in (q := s.q1.tail) fun p hp => g.sz1 p (List.mem_of_mem_tail hp)).1)
  have ju := judge_used D (out1 s) 1 (hd s.q1) (dl now s.q1)
  have g7 := g.u0
  have hu : 0 ≤ (j1 D now s).1 ∧ (j1 D now s).1 ≤ s.used + 2 := by simp only [j1]; simp only [out1] at ju ⊢; omega
  have hb := K.hb
  refine ⟨⟨Good_gone1 g hn hq, Fair_lost K.f1 (by omega) (by omega) (by omega), K.f2, ?_, K.hl⟩, ⟨Good_out1 g hq hn _ _ _ hu rfl rfl, Fair_went _ K.f1 (by omega) (by omega) (by omega), K.f2, ?_, K.hl⟩⟩
  · simp only [gone1, out1]; omega
  · simp only [went1, out1]; omega

theorem KInv_gone2 {D : List Int} {now : Int} {n : Nat} {l : L8} {s : St} (K : KInv n l s) (hn : n ≤ 100) (hq : s.q2 ≠ []) : KInv n l (gone2 D now s) ∧ KInv n l (went2 D now s) := by
  have g := K.g
  have g1 := g.w2; have g3 := g.b2; have g5 := sumS_in g.sz2
  have hl := List.length_pos_iff.2 hq
  have hp := sz_in g.sz2
  have ht := sumS_tail hq
  have hs : 0 ≤ sumS s.q2.tail := (Int.le_trans (by omega) (sumS_in (q := s.q2.tail) fun p hp => g.sz2 p (List.mem_of_mem_tail hp)).1)
  have ju := judge_used D (out2 s) 2 (hd s.q2) (dl now s.q2)
  have g7 := g.u0
  have hu : 0 ≤ (j2 D now s).1 ∧ (j2 D now s).1 ≤ s.used + 2 := by simp only [j2]; simp only [out2] at ju ⊢; omega
  have hb := K.hb
  refine ⟨⟨Good_gone2 g hn hq, K.f1, Fair_lost K.f2 (by omega) (by omega) (by omega), ?_, K.hl⟩, ⟨Good_out2 g hq hn _ _ _ hu rfl rfl, K.f1, Fair_went _ K.f2 (by omega) (by omega) (by omega), ?_, K.hl⟩⟩
  · simp only [gone2, out2]; omega
  · simp only [went2, out2]; omega

theorem KInv_take (D : List Int) (now : Int) {n : Nat} {l : L8} (hn : n ≤ 100) : ∀ (f : Nat) (s : St) (lost : List Pk), KInv n l s → KInv n l (take D now f s lost).1 := by
  intro f
  induction f with
  | zero => intro s lost K; exact K
  | succ f ih =>
    intro s lost K
    by_cases he : s.q1 = [] ∧ s.q2 = []
    · rw [take_empty D now _ s lost he]; exact K
    · rcases pick_cases K.g he with ⟨hp, hq⟩ | ⟨hp, hq⟩
      · cases hj : (j1 D now s).2.2 with
        | true => simp only [take, he, hp, hj, if_true, if_false, cond_true]; exact ih _ _ (KInv_gone1 K hn hq).1
        | false => simp only [take, he, hp, hj, if_true, if_false, cond_false]; exact (KInv_gone1 K hn hq).2
      · have hp1 : ¬ ((2 : Int) = 1) := by omega
        cases hj : (j2 D now s).2.2 with
        | true => simp only [take, he, hp, hp1, hj, if_false, cond_true]; exact ih _ _ (KInv_gone2 K hn hq).1
        | false => simp only [take, he, hp, hp1, hj, if_false, cond_false]; exact (KInv_gone2 K hn hq).2

theorem KInv.mono {n : Nat} {l : L8} {s : St} (K : KInv n l s) : KInv (n + 1) l s := ⟨K.g.mono, by have := K.f1.mono; simpa using this, by have := K.f2.mono; simpa using this, K.hb, K.hl⟩

theorem KInv_put {n : Nat} {l : L8} {s : St} (now : Int) (p : Pk) (K : KInv n l s) (hn : n ≤ 99) : KInv (n + 1) l (put s now p).1 := by
  have hc : 1 ≤ cl p.2.2.1 1 65536 ∧ cl p.2.2.1 1 65536 ≤ 65536 := cl_in (by omega)
  have hb := K.hb
  have hl := K.hl
  have e : ((n + 1 : Nat) : Int) = (n : Int) + 1 := by omega
  refine ⟨Good_put now p K.g hn, ?_, ?_, ?_, ?_⟩
  · rw [e]; unfold put; split
    · split
      · exact Fair_rej K.f1 hc (by omega)
      · exact Fair_acc K.f1 hc (by omega)
    · split
      · exact K.f1.mono
      · exact K.f1.mono
  · rw [e]; unfold put; split
    · split
      · exact K.f2.mono
      · exact K.f2.mono
    · split
      · exact Fair_rej K.f2 hc (by omega)
      · exact Fair_acc K.f2 hc (by omega)
  · unfold put; split
    · split
      · exact hb
      · rename_i h; rw [hl] at h; simp only [sumS_app, putP]; omega
    · split
      · exact hb
      · rename_i h; rw [hl] at h; simp only [sumS_app, putP]; omega
  · unfold put; split
    · split
      · exact hl
      · exact hl
    · split
      · exact hl
      · exact hl

theorem KInv_act {D : List Int} {n : Nat} {l : L8} {s : St} (a : Int × Int × Pk) (K : KInv n l s) (hn : n ≤ 99) : KInv (n + 1) l (act D s a) := by
  unfold act
  split
  · exact (KInv_take D _ (by omega) _ _ _ K).mono
  · split
    · exact (⟨Good_upd _ K.g, K.f1, K.f2, K.hb, K.hl⟩ : KInv n l (upd s a.2.1)).mono
    · exact KInv_put _ _ K hn

theorem waits_iff {n : Nat} {s : St} (G : Good n s) : (0 < s.t1.2.2.2.1 ↔ 0 < s.t1.2.2.2.2.2.2.2.1) ∧ (0 < s.t2.2.2.2.1 ↔ 0 < s.t2.2.2.2.2.2.2.2.1) := by
  have g1 := G.w1; have g2 := G.w2; have g3 := G.b1; have g4 := G.b2; have g5 := sumS_in G.sz1; have g6 := sumS_in G.sz2
  constructor <;> omega

theorem Fair0 : Fair ((0 : Nat) : Int) z9 := by constructor <;> decide

abbrev cK (l : L8) (acts : List (Int × Int × Pk)) (i : Int) (s : St) (h : Hid) (D : List Int) : (Int × Int × Unit) × (L8 × Unit) × (L8 × T9 × T9 × T9 × (Int × Int) × Int × Unit) × List (Int × Int × Pk) × (Int × Int × Int × Unit) × (Int × Int × Int × Unit) × (Int × Unit) × List Pk × List Pk × Unit × (Int × Unit) × List Int × Unit :=
  (((acts.length : Int), (i, ())), ((l, ()), (cA s, (acts, ((h.f1, (h.m1, (65536, ()))), ((h.f2, (h.m2, (65536, ()))), ((s.used, ()), (h.r1, (h.r2, ((), ((h.dat, ()), (D, ())))))))))))) 

end Go.Proofs.Yteidghhjccohdaa.Pure
