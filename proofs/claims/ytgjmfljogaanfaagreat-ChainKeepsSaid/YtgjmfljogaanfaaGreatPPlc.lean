/- A hop: what happens next, said once; both texts do it. -/
import Derived.Test.YtgjmfljogaanfaaGreatPSrn
import Derived.Test.YtgjmfljogaanfaaGreatPDualQ
import Derived.Test.YtgjmfljogaanfaaGreatPLink
namespace Go.Proofs.YtgjmfljogaanfaaGreat.Pure
open Go.Ev Go.RowKit

abbrev H10 := Int × Int × L8

/-- A hop, and what is there. -/
structure Wd where
  s : St
  free : Int
  next : Int
  out : List Pk
  lost : List Pk

def wt (w : Wd) : Nat := w.s.q1.length + w.s.q2.length

/-- A packet that comes to the end of a link. -/
def arr (t : Int) (p : Pk) : Pk := (p.1, (p.2.1, (p.2.2.1, (p.2.2.2.1, min t 67108864))))

def tk (D : List Int) (h : H10) (w : Wd) : Wd :=
  bif (takeA D w.free w.s).2.2.2 then
    { s := (takeA D w.free w.s).1, free := w.free + span (takeA D w.free w.s).2.1.2.2.1 h.1, next := w.next, out := w.out ++ [arr (w.free + span (takeA D w.free w.s).2.1.2.2.1 h.1 + h.2.1) (takeA D w.free w.s).2.1], lost := w.lost ++ (takeA D w.free w.s).2.2.1 }
  else { s := (takeA D w.free w.s).1, free := w.free, next := w.next, out := w.out, lost := w.lost ++ (takeA D w.free w.s).2.2.1 }

def stp (h : H10) (w : Wd) : Wd := { s := upd w.s w.next, free := w.free, next := w.next + h.2.2.2.2.1, out := w.out, lost := w.lost }

def one (D : List Int) (h : H10) (t : Int) (w : Wd) : Option Wd :=
  if 0 < wt w ∧ w.free ≤ t ∧ w.free ≤ w.next then some (tk D h w) else if w.next ≤ t then some (stp h w) else none

/-- A hop's numbers within their ends. -/
def limH (h : H10) : H10 := (cl h.1 100000 1099511627776, (cl h.2.1 0 16777216, ((lim h.2.2).1, ((lim h.2.2).2.1, (max (lim h.2.2).2.2.1 1000, (lim h.2.2).2.2.2)))))

structure HOK (h : H10) : Prop where
  r : 100000 ≤ h.1 ∧ h.1 ≤ 1099511627776
  d : 0 ≤ h.2.1 ∧ h.2.1 ≤ 16777216
  e : 1000 ≤ h.2.2.2.2.1 ∧ h.2.2.2.2.1 ≤ 1125899906842624

theorem limH_ok (h : H10) : HOK (limH h) := by
  refine ⟨cl_in (by omega), cl_in (by omega), ?_⟩
  have := cl_in (a := h.2.2.2.2.1) (show (1 : Int) ≤ 1125899906842624 by omega)
  simp only [limH, lim]; omega

theorem span_bd {n r : Int} (h : 100000 ≤ r ∧ r ≤ 1099511627776) : 1 ≤ span n r ∧ span n r ≤ 655361 := by
  refine ⟨(span_in n r).1, ?_⟩
  have hc := clB (a := n) (show (1 : Int) ≤ 65536 by omega)
  have hr : cl r 1 1099511627776 = r := by simp only [cl]; omega
  unfold span
  rw [hr]
  have : (cl n 1 65536 * 1000000 + r - 1) / r ≤ 655361 := by
    have h1 : cl n 1 65536 * 1000000 + r - 1 < r * 655362 := by omega
    have := Int.ediv_lt_of_lt_mul (show 0 < r by omega) (show cl n 1 65536 * 1000000 + r - 1 < 655362 * r by omega)
    omega
  exact this

/-- What is so at all times: n packets have come. -/
structure PI (n : Nat) (h : H10) (w : Wd) : Prop where
  g : Good n w.s
  f0 : 0 ≤ w.free
  f1 : w.free ≤ 67108864 + 655361 * (w.out.length : Int)
  x0 : 0 ≤ w.next
  x1 : w.next ≤ 2251799813685248
  cnt : w.out.length + w.lost.length + wt w = n
  hh : HOK h

theorem Good_went1 {D : List Int} {now : Int} {s : St} {n : Nat} (G : Good n s) (hn : n ≤ 100) (hq : s.q1 ≠ []) : Good n (went1 D now s) := by
  have ju := judge_used D (out1 s) 1 (hd s.q1) (dl now s.q1)
  have g7 := G.u0
  exact Good_out1 G hq hn _ _ _ (by simp only [j1]; simp only [out1] at ju ⊢; omega) rfl rfl

theorem Good_went2 {D : List Int} {now : Int} {s : St} {n : Nat} (G : Good n s) (hn : n ≤ 100) (hq : s.q2 ≠ []) : Good n (went2 D now s) := by
  have ju := judge_used D (out2 s) 2 (hd s.q2) (dl now s.q2)
  have g7 := G.u0
  exact Good_out2 G hq hn _ _ _ (by simp only [j2]; simp only [out2] at ju ⊢; omega) rfl rfl

/-- Of what is taken out nothing goes astray. -/
theorem take_cnt (D : List Int) (now : Int) {n : Nat} (hn : n ≤ 100) : ∀ (f : Nat) (s : St) (lost : List Pk), Good n s → s.q1.length + s.q2.length ≤ f →
    Good n (take D now f s lost).1 ∧ (take D now f s lost).1.q1.length + (take D now f s lost).1.q2.length + (take D now f s lost).2.2.1.length + (bif (take D now f s lost).2.2.2 then 1 else 0) = s.q1.length + s.q2.length + lost.length ∧ (take D now f s lost).1.l = s.l := by
  intro f
  induction f with
  | zero => intro s lost G hf; exact ⟨G, by simp [take], rfl⟩
  | succ f ih =>
    intro s lost G hf
    by_cases he : s.q1 = [] ∧ s.q2 = []
    · rw [take_empty D now _ s lost he]; exact ⟨G, by simp, rfl⟩
    · rcases pick_cases G he with ⟨hp, hq⟩ | ⟨hp, hq⟩
      · have ht := List.length_pos_iff.2 hq
        cases hj : (j1 D now s).2.2 with
        | true =>
          have et : take D now (f + 1) s lost = take D now f (gone1 D now s) (lost ++ [hd s.q1]) := by simp only [take, he, hp, hj, if_true, if_false, cond_true]
          have := ih (gone1 D now s) (lost ++ [hd s.q1]) (Good_gone1 G hn hq) (by simp only [gone1, out1, List.length_tail]; omega)
          rw [et]
          refine ⟨this.1, ?_, this.2.2⟩
          have h2 := this.2.1
          simp only [List.length_append, List.length_singleton] at h2
          rw [h2]
          simp only [gone1, out1, List.length_tail]; omega
        | false =>
          have et : take D now (f + 1) s lost = (went1 D now s, pk1 D now s, lost, true) := by simp only [take, he, hp, hj, if_true, if_false, cond_false]
          rw [et]
          refine ⟨Good_went1 G hn hq, ?_, rfl⟩
          simp only [went1, out1, List.length_tail, cond_true]; omega
      · have ht := List.length_pos_iff.2 hq
        have hp1 : ¬ ((2 : Int) = 1) := by omega
        cases hj : (j2 D now s).2.2 with
        | true =>
          have et : take D now (f + 1) s lost = take D now f (gone2 D now s) (lost ++ [hd s.q2]) := by simp only [take, he, hp, hp1, hj, if_false, cond_true]
          have := ih (gone2 D now s) (lost ++ [hd s.q2]) (Good_gone2 G hn hq) (by simp only [gone2, out2, List.length_tail]; omega)
          rw [et]
          refine ⟨this.1, ?_, this.2.2⟩
          have h2 := this.2.1
          simp only [List.length_append, List.length_singleton] at h2
          rw [h2]
          simp only [gone2, out2, List.length_tail]; omega
        | false =>
          have et : take D now (f + 1) s lost = (went2 D now s, pk2 D now s, lost, true) := by simp only [take, he, hp, hp1, hj, if_false, cond_false]
          rw [et]
          refine ⟨Good_went2 G hn hq, ?_, rfl⟩
          simp only [went2, out2, List.length_tail, cond_true]; omega

/-- If something waits something is taken out. -/
theorem take_less (D : List Int) (now : Int) {n : Nat} (hn : n ≤ 100) : ∀ (f : Nat) (s : St) (lost : List Pk), Good n s → s.q1.length + s.q2.length ≤ f → 0 < s.q1.length + s.q2.length →
    (take D now f s lost).1.q1.length + (take D now f s lost).1.q2.length < s.q1.length + s.q2.length := by
  intro f
  induction f with
  | zero => intro s lost G hf h0; omega
  | succ f ih =>
    intro s lost G hf h0
    have he : ¬ (s.q1 = [] ∧ s.q2 = []) := by rintro ⟨h1, h2⟩; rw [h1, h2] at h0; simp at h0
    rcases pick_cases G he with ⟨hp, hq⟩ | ⟨hp, hq⟩
    · have ht := List.length_pos_iff.2 hq
      cases hj : (j1 D now s).2.2 with
      | true =>
        have et : take D now (f + 1) s lost = take D now f (gone1 D now s) (lost ++ [hd s.q1]) := by simp only [take, he, hp, hj, if_true, if_false, cond_true]
        rw [et]
        have hl : (gone1 D now s).q1.length + (gone1 D now s).q2.length + 1 = s.q1.length + s.q2.length := by simp only [gone1, out1, List.length_tail]; omega
        by_cases hz : 0 < (gone1 D now s).q1.length + (gone1 D now s).q2.length
        · have := ih (gone1 D now s) (lost ++ [hd s.q1]) (Good_gone1 G hn hq) (by omega) hz
          omega
        · have := (take_cnt D now hn f (gone1 D now s) (lost ++ [hd s.q1]) (Good_gone1 G hn hq) (by omega)).2.1
          have h2 : (gone1 D now s).q1 = [] ∧ (gone1 D now s).q2 = [] := ⟨List.length_eq_zero_iff.1 (by omega), List.length_eq_zero_iff.1 (by omega)⟩
          rw [take_empty D now f _ _ h2]
          simp only; omega
      | false =>
        have et : take D now (f + 1) s lost = (went1 D now s, pk1 D now s, lost, true) := by simp only [take, he, hp, hj, if_true, if_false, cond_false]
        rw [et]
        simp only [went1, out1, List.length_tail]; omega
    · have ht := List.length_pos_iff.2 hq
      have hp1 : ¬ ((2 : Int) = 1) := by omega
      cases hj : (j2 D now s).2.2 with
      | true =>
        have et : take D now (f + 1) s lost = take D now f (gone2 D now s) (lost ++ [hd s.q2]) := by simp only [take, he, hp, hp1, hj, if_false, cond_true]
        rw [et]
        have hl : (gone2 D now s).q1.length + (gone2 D now s).q2.length + 1 = s.q1.length + s.q2.length := by simp only [gone2, out2, List.length_tail]; omega
        by_cases hz : 0 < (gone2 D now s).q1.length + (gone2 D now s).q2.length
        · have := ih (gone2 D now s) (lost ++ [hd s.q2]) (Good_gone2 G hn hq) (by omega) hz
          omega
        · have h2 : (gone2 D now s).q1 = [] ∧ (gone2 D now s).q2 = [] := ⟨List.length_eq_zero_iff.1 (by omega), List.length_eq_zero_iff.1 (by omega)⟩
          rw [take_empty D now f _ _ h2]
          simp only; omega
      | false =>
        have et : take D now (f + 1) s lost = (went2 D now s, pk2 D now s, lost, true) := by simp only [take, he, hp, hp1, hj, if_false, cond_false]
        rw [et]
        simp only [went2, out2, List.length_tail]; omega

theorem PI_tk {D : List Int} {n : Nat} {h : H10} {w : Wd} (I : PI n h w) (hn : n ≤ 100) (h0 : 0 < wt w) : PI n h (tk D h w) ∧ wt (tk D h w) < wt w ∧ (tk D h w).next = w.next ∧ w.free ≤ (tk D h w).free := by
  obtain ⟨q1, q2, _⟩ := take_cnt D w.free hn (w.s.q1.length + w.s.q2.length) w.s [] I.g (Nat.le_refl _)
  have q3 := take_less D w.free hn (w.s.q1.length + w.s.q2.length) w.s [] I.g (Nat.le_refl _) h0
  have f0 := I.f0; have f1 := I.f1; have hc := I.cnt
  have hs := span_bd (n := (takeA D w.free w.s).2.1.2.2.1) I.hh.r
  simp only [List.length_nil, Nat.add_zero] at q2
  unfold tk
  cases hb : (takeA D w.free w.s).2.2.2 with
  | true =>
    simp only [takeA] at hb hs ⊢
    rw [hb] at q2
    simp only [cond_true] at q2 ⊢
    refine ⟨⟨q1, by first | omega | (simp only; omega), by simp only [List.length_append, List.length_singleton]; omega, I.x0, I.x1, ?_, I.hh⟩, q3, trivial, by first | omega | (simp only; omega)⟩
    simp only [wt] at hc ⊢
    simp only [List.length_append, List.length_singleton]; omega
  | false =>
    simp only [takeA] at hb hs ⊢
    rw [hb] at q2
    simp only [cond_false] at q2 ⊢
    refine ⟨⟨q1, f0, f1, I.x0, I.x1, ?_, I.hh⟩, q3, trivial, Int.le_refl _⟩
    simp only [wt] at hc ⊢
    simp only [List.length_append]; omega

theorem PI_stp {n : Nat} {h : H10} {w : Wd} (I : PI n h w) (hx : w.next ≤ 268435456) : PI n h (stp h w) := by
  have he := I.hh.e; have x0 := I.x0
  exact ⟨Good_upd _ I.g, I.f0, I.f1, by simp only [stp]; omega, by simp only [stp]; omega, I.cnt, I.hh⟩

theorem free_bd {n : Nat} {h : H10} {w : Wd} (I : PI n h w) (hn : n ≤ 100) : w.free ≤ 140000000 := by
  have := I.f1; have := I.cnt
  omega

/- The program's place. -/
abbrev pS (h : H10) (b : Int) (w : Wd) (v : Hid) (D : List Int) : (H10 × (Int × Int × Int) × Int × Unit) × (L8 × T9 × T9 × T9 × (Int × Int) × Int × Unit) × (Int × Int × Int × Unit) × (Int × Int × Int × Unit) × (Int × Unit) × Unit × (Int × Unit) × List Pk × List Pk × List Int × List Pk × List Pk × Unit :=
  ((h, ((h.1, (w.free, b)), (w.next, ()))), (cA w.s, ((v.f1, (v.m1, (65536, ()))), ((v.f2, (v.m2, (65536, ()))), ((w.s.used, ()), ((), ((v.dat, ()), (v.r1, (v.r2, (D, (w.out, (w.lost, ()))))))))))))

theorem waits_eq (N : Nat) {n : Nat} {s : St} (G : Good n s) (hn : n ≤ 100) : W.dual_Queue_Waits N ((), (cA s, ())) = some (decide (0 < s.q1.length + s.q2.length)) := by
  have g1 := G.w1; have g2 := G.w2; have g8 := G.len; have g7 := G.u0
  have e : IntKind.wrap .i64 (s.t1.2.2.2.1 + s.t2.2.2.2.1) = s.t1.2.2.2.1 + s.t2.2.2.2.1 := wrapI64 (by omega) (by omega)
  have h1 : W.dual_Queue_Waits N ((), (cA s, ())) = some (decide (0 < IntKind.wrap .i64 (s.t1.2.2.2.1 + s.t2.2.2.2.1))) := rfl
  rw [h1, e]
  congr 1
  rw [decide_eq_decide]
  omega

theorem place_take (N : Nat) (hN : big < N) {D : List Int} (hD : DOK D) {n : Nat} (hn : n ≤ 100) {h : H10} {w : Wd} {v : Hid} (b : Int) (I : PI n h w) (R : Rep D w.s v) :
    ∃ b' v', W.chain_place_take N ((), pS h b w v D) = some ((), pS h b' (tk D h w) v' D) ∧ Rep D (tk D h w).s v' := by
  simp only [big] at hN
  obtain ⟨v', e, R', G'⟩ := dual_Take N (by omega) hD w.free hn R I.g
  have f0 := I.f0; have fb := free_bd I hn; have hc := I.cnt
  have hs := span_bd (n := (takeA D w.free w.s).2.1.2.2.1) I.hh.r
  have hr := I.hh.r; have hd := I.hh.d
  have q2 := (take_cnt D w.free hn (w.s.q1.length + w.s.q2.length) w.s [] I.g (Nat.le_refl _)).2.1
  simp only [List.length_nil, Nat.add_zero] at q2
  have hll : (takeA D w.free w.s).2.2.1.length ≤ 100 := by
    simp only [takeA]
    simp only [wt] at hc
    omega
  simp only [wt] at hc
  have L1 : (w.lost.length + (takeA D w.free w.s).2.2.1.length) * 40 ≤ 140737488355328 := by omega
  have L2 : (w.out.length + 1) * 40 ≤ 140737488355328 := by omega
  have w1 : lwi (h.1, w.free, b) = (h.1, w.free, cl b 0 1152921504606846976) := by
    simp only [lwi, Prod.mk.injEq, and_true]
    constructor <;> (simp only [cl]; omega)
  have w2 : cl w.free 0 1125899906842624 = w.free := by simp only [cl]; omega
  have w3 : ∀ y, ∃ y', lwi (h.1, w.free + span (takeA D w.free w.s).2.1.2.2.1 h.1, y) = (h.1, w.free + span (takeA D w.free w.s).2.1.2.2.1 h.1, y') := fun y => ⟨cl y 0 1152921504606846976, by
    simp only [lwi, Prod.mk.injEq, and_true]
    constructor <;> (simp only [cl]; omega)⟩
  have w4 : max w.free w.free = w.free := by omega
  have w5 : IntKind.wrap .i64 (w.free + span (takeA D w.free w.s).2.1.2.2.1 h.1 + h.2.1) = w.free + span (takeA D w.free w.s).2.1.2.2.1 h.1 + h.2.1 := wrapI64 (by omega) (by omega)
  obtain ⟨y', w3'⟩ := w3 (cl b 0 1152921504606846976 + span (takeA D w.free w.s).2.1.2.2.1 h.1)
  cases hb : (takeA D w.free w.s).2.2.2 with
  | false =>
    refine ⟨b, v', ?_, by simpa only [tk, hb, cond_false] using R'⟩
    rw [hb] at e
    simp only [W.chain_place_take, e, Option.bind_some, L1, decide_true, cond_true, Bool.not_false, tk, hb, cond_false]
  | true =>
    refine ⟨y', v', ?_, by simpa only [tk, hb, cond_true] using R'⟩
    rw [hb] at e
    simp only [W.chain_place_take, e, Option.bind_some, L1, L2, decide_true, cond_true, Bool.not_true, cond_false, link_Take_eq, ltake, w1, w2, w4, w3', w5, imn_eq, tk, hb, arr]

theorem place_step (N : Nat) {D : List Int} {n : Nat} {h : H10} {w : Wd} {v : Hid} (b : Int) (I : PI n h w) (R : Rep D w.s v) (hx : w.next ≤ 268435456) :
    W.chain_place_step N ((), pS h b w v D) = some ((), pS h b (stp h w) v D) ∧ Rep D (stp h w).s v := by
  have he := I.hh.e; have x0 := I.x0
  have w1 : IntKind.wrap .i64 (w.next + h.2.2.2.2.1) = w.next + h.2.2.2.2.1 := wrapI64 (by omega) (by omega)
  refine ⟨?_, ⟨R.r1, R.r2, R.hat⟩⟩
  simp only [W.chain_place_step, dual_Update N w.next R, Option.bind_some, w1, stp]

end Go.Proofs.YtgjmfljogaanfaaGreat.Pure
