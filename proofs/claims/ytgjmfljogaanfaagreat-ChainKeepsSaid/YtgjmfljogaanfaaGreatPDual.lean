/- Two queues: what one act does, said once; both texts do it. -/
import Derived.Test.YtgjmfljogaanfaaGreatPRing
namespace Go.Proofs.YtgjmfljogaanfaaGreat.Pure
open Go.Ev Go.RowKit

abbrev L8 := Int × Int × Int × Int × Int × Int × Int × Int

abbrev T9 := Int × Int × Int × Int × Int × Int × Int × Int × Int

structure St where
  l : L8
  z : T9
  t1 : T9
  t2 : T9
  pi : Int × Int
  owed : Int
  used : Int
  q1 : List Pk
  q2 : List Pk

structure Hid where
  f1 : Int
  m1 : Int
  f2 : Int
  m2 : Int
  dat : Int
  r1 : List Pk
  r2 : List Pk

abbrev cA (s : St) : L8 × T9 × T9 × T9 × (Int × Int) × Int × Unit := (s.l, (s.z, (s.t1, (s.t2, (s.pi, (s.owed, ()))))))

abbrev cS (s : St) (h : Hid) (D : List Int) : (L8 × T9 × T9 × T9 × (Int × Int) × Int × Unit) × (Int × Int × Int × Unit) × (Int × Int × Int × Unit) × (Int × Unit) × Unit × (Int × Unit) × List Pk × List Pk × List Int × Unit :=
  (cA s, ((h.f1, (h.m1, (65536, ()))), ((h.f2, (h.m2, (65536, ()))), ((s.used, ()), ((), ((h.dat, ()), (h.r1, (h.r2, (D, ())))))))))

abbrev rA (s : St) : L8 × T9 × T9 × T9 × (Int × Int) × Int × Int × Unit := (s.l, (s.z, (s.t1, (s.t2, (s.pi, (s.owed, (s.used, ())))))))

abbrev rB (s : St) (D : List Int) : List Pk × List Pk × List Int × Unit := (s.q1, (s.q2, (D, ())))

structure Rep (D : List Int) (s : St) (h : Hid) : Prop where
  r1 : RingR h.f1 h.m1 h.r1 s.q1
  r2 : RingR h.f2 h.m2 h.r2 s.q2
  hat : D ≠ [] → h.dat = s.used % (D.length : Int)

def sumS : List Pk → Int
  | [] => 0
  | p :: q => p.2.2.1 + sumS q

theorem sumS_app (q : List Pk) (p : Pk) : sumS (q ++ [p]) = sumS q + p.2.2.1 := by
  induction q with
  | nil => simp [sumS]
  | cons a q ih => simp only [List.cons_append, sumS, ih]; omega

abbrev SzOK (q : List Pk) : Prop := ∀ p ∈ q, 1 ≤ p.2.2.1 ∧ p.2.2.1 ≤ 65536

theorem sumS_in {q : List Pk} (h : SzOK q) : (q.length : Int) ≤ sumS q ∧ sumS q ≤ 65536 * q.length := by
  induction q with
  | nil => simp [sumS]
  | cons a q ih =>
    have := ih fun p hp => h p (List.mem_cons_of_mem _ hp)
    have := h a List.mem_cons_self
    simp only [sumS, List.length_cons]; omega

structure Good (n : Nat) (s : St) : Prop where
  w1 : s.t1.2.2.2.1 = s.q1.length
  w2 : s.t2.2.2.2.1 = s.q2.length
  b1 : s.t1.2.2.2.2.2.2.2.1 = sumS s.q1
  b2 : s.t2.2.2.2.2.2.2.2.1 = sumS s.q2
  sz1 : SzOK s.q1
  sz2 : SzOK s.q2
  c1 : ∀ p ∈ s.q1, p.2.2.2.1 = 1 ∨ p.2.2.2.1 = 3
  u0 : 0 ≤ s.used
  len : s.used + 2 * (s.q1.length + s.q2.length) ≤ 2 * n
  lim : 1 ≤ s.l.1 ∧ s.l.1 ≤ 1073741824

/- Put. -/
def putP (now : Int) (p : Pk) : Pk := (p.1, (p.2.1, (cl p.2.2.1 1 65536, (p.2.2.2.1, cl now 0 1125899906842624))))

def tAcc (t : T9) (n : Int) : T9 := (IntKind.wrap .i64 (t.1 + 1), (t.2.1, (t.2.2.1, (IntKind.wrap .i64 (t.2.2.2.1 + 1), (IntKind.wrap .i64 (t.2.2.2.2.1 + n), (t.2.2.2.2.2.1, (t.2.2.2.2.2.2.1, (IntKind.wrap .i64 (t.2.2.2.2.2.2.2.1 + n), t.2.2.2.2.2.2.2.2))))))))

def tRej (t : T9) (n : Int) : T9 := (IntKind.wrap .i64 (t.1 + 1), (t.2.1, (IntKind.wrap .i64 (t.2.2.1 + 1), (t.2.2.2.1, (IntKind.wrap .i64 (t.2.2.2.2.1 + n), (t.2.2.2.2.2.1, (IntKind.wrap .i64 (t.2.2.2.2.2.2.1 + n), (t.2.2.2.2.2.2.2.1, t.2.2.2.2.2.2.2.2))))))))

def isLow (c : Int) : Prop := c = 1 ∨ c = 3

instance (c : Int) : Decidable (isLow c) := by unfold isLow; infer_instance

def put (s : St) (now : Int) (p : Pk) : St × Bool :=
  if isLow p.2.2.2.1 then
    if s.l.1 < sumS s.q1 + sumS s.q2 + cl p.2.2.1 1 65536 then ({ s with t1 := tRej s.t1 (cl p.2.2.1 1 65536) }, false)
    else ({ s with t1 := tAcc s.t1 (cl p.2.2.1 1 65536), q1 := s.q1 ++ [putP now p] }, true)
  else
    if s.l.1 < sumS s.q1 + sumS s.q2 + cl p.2.2.1 1 65536 then ({ s with t2 := tRej s.t2 (cl p.2.2.1 1 65536) }, false)
    else ({ s with t2 := tAcc s.t2 (cl p.2.2.1 1 65536), q2 := s.q2 ++ [putP now p] }, true)

theorem btf : (true == false) = false := rfl

theorem bff : (false == false) = true := rfl

theorem btt : (true == true) = true := rfl

theorem bft : (false == true) = false := rfl

theorem ecn_Low_eq (N : Nat) (c : Int) : W.ecn_Low N c = some (decide (isLow c)) := by
  by_cases h : 0 ≤ c ∧ c ≤ 3
  · have : c = 0 ∨ c = 1 ∨ c = 2 ∨ c = 3 := by omega
    rcases this with rfl | rfl | rfl | rfl <;> rfl
  · have h1 : ¬ isLow c := by unfold isLow; omega
    simp only [W.ecn_Low, W.ecn_is, h1, decide_false]
    by_cases h2 : 0 ≤ c
    · have h3 : ¬ c ≤ 3 := by omega
      simp [h2, h3]
    · simp [h2]

theorem leatref36_keep_eq (N : Nat) (a lo hi : Int) (h : lo ≤ hi) : W.leatref36_keep N a lo hi = some (cl a lo hi) := by
  simp only [W.leatref36_keep, imn_eq, imx_eq, cl, Option.some.injEq]; omega

theorem dual_Put (N : Nat) {D : List Int} {s : St} {h : Hid} {n : Nat} (now : Int) (p : Pk) (R : Rep D s h) (G : Good n s) (hn : n ≤ 100) (hN : 2000 < N) : ∃ h', W.dual_Queue_Put N ((now, (p, ())), cS s h D) = some (((put s now p).2, ()), cS (put s now p).1 h' D) ∧ Rep D (put s now p).1 h' := by
  have g1 := G.w1; have g2 := G.w2; have g3 := G.b1; have g4 := G.b2; have g5 := sumS_in G.sz1; have g6 := sumS_in G.sz2; have g7 := G.u0; have g8 := G.len; have g9 := G.lim
  have hc : 1 ≤ cl p.2.2.1 1 65536 ∧ cl p.2.2.1 1 65536 ≤ 65536 := cl_in (by omega)
  have ew : IntKind.wrap .i64 (IntKind.wrap .i64 (s.t1.2.2.2.2.2.2.2.1 + s.t2.2.2.2.2.2.2.2.1) + cl p.2.2.1 1 65536) = sumS s.q1 + sumS s.q2 + cl p.2.2.1 1 65536 := by
    rw [g3, g4, wrapI64 (x := sumS s.q1 + sumS s.q2) (by omega) (by omega), wrapI64 (by omega) (by omega)]
  by_cases hl : isLow p.2.2.2.1
  · by_cases hb : s.l.1 < sumS s.q1 + sumS s.q2 + cl p.2.2.1 1 65536
    · refine ⟨h, ?_, ?_⟩
      · simp only [W.dual_Queue_Put, sat_Clamp_eq, ecn_Low_eq, Option.bind_some, ew, hl, hb, put, decide_true, if_true, cond_true, cond_false, tRej, btf, bff, Bool.not_true]
      · simp only [put, hl, hb, if_true]; exact ⟨R.r1, R.r2, R.hat⟩
    · obtain ⟨f', m', rows', e, hr⟩ := ring_Push N (putP now p) R.r1 (by omega) (by omega)
      refine ⟨{ h with f1 := f', m1 := m', r1 := rows' }, ?_, ?_⟩
      · simp only [putP] at e
        simp only [W.dual_Queue_Put, sat_Clamp_eq, ecn_Low_eq, Option.bind_some, ew, hl, hb, put, decide_true, decide_false, if_true, if_false, cond_true, cond_false, tAcc, btf, bff, Bool.not_false, e, BEq.rfl, Bool.not_true, putP]
      · simp only [put, hl, hb, if_true, if_false]; exact ⟨hr, R.r2, R.hat⟩
  · by_cases hb : s.l.1 < sumS s.q1 + sumS s.q2 + cl p.2.2.1 1 65536
    · refine ⟨h, ?_, ?_⟩
      · simp only [W.dual_Queue_Put, sat_Clamp_eq, ecn_Low_eq, Option.bind_some, ew, hl, hb, put, decide_true, decide_false, if_true, if_false, cond_true, cond_false, tRej, btf, bff, Bool.not_true]
      · simp only [put, hl, hb, if_true, if_false]; exact ⟨R.r1, R.r2, R.hat⟩
    · obtain ⟨f', m', rows', e, hr⟩ := ring_Push N (putP now p) R.r2 (by omega) (by omega)
      refine ⟨{ h with f2 := f', m2 := m', r2 := rows' }, ?_, ?_⟩
      · simp only [putP] at e
        simp only [W.dual_Queue_Put, sat_Clamp_eq, ecn_Low_eq, Option.bind_some, ew, hl, hb, put, decide_true, decide_false, if_true, if_false, cond_true, cond_false, tAcc, btf, bff, Bool.not_false, e, BEq.rfl, Bool.not_true, putP]
      · simp only [put, hl, hb, if_true, if_false]; exact ⟨R.r1, hr, R.hat⟩

theorem sumS_take (q : List Pk) (i : Nat) (h : i < q.length) : sumS (q.take i) + (q.getD i z5).2.2.1 = sumS (q.take (i + 1)) := by
  induction q generalizing i with
  | nil => simp at h
  | cons a q ih =>
    cases i with
    | zero => simp [sumS]
    | succ i =>
      have := ih i (by simpa using h)
      simp only [List.take_succ_cons, sumS, List.getD_cons_succ]; omega

theorem SzOK_take {q : List Pk} (h : SzOK q) (i : Nat) : SzOK (q.take i) := fun p hp => h p (List.mem_of_mem_take hp)

end Go.Proofs.YtgjmfljogaanfaaGreat.Pure
