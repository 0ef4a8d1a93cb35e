/- Two queues: what one act does, said once; both texts do it. -/
import Derived.Test.YtgjmfljogaanfaaGreatPRing
namespace Go.Proofs.YtgjmfljogaanfaaGreat.Pure
open Go.Ev Go.RowKit

abbrev L8 := Int × Int × Int × Int × Int × Int × Int × Int

abbrev T9 := Int × Int × Int × Int × Int × Int × Int × Int × Int

structure St where
  l : L8
  z : T9
  t1 : T9
  t2 : T9
  pi : Int × Int
  owed : Int
  used : Int
  q1 : List Pk
  q2 : List Pk

structure Hid where
  f1 : Int
  m1 : Int
  f2 : Int
  m2 : Int
  dat : Int
  r1 : List Pk
  r2 : List Pk

abbrev cA (s : St) : L8 × T9 × T9 × T9 × (Int × Int) × Int × Unit := (s.l, (s.z, (s.t1, (s.t2, (s.pi, (s.owed, ()))))))

abbrev cS (s : St) (h : Hid) (D : List Int) : (L8 × T9 × T9 × T9 × (Int × Int) × Int × Unit) × (Int × Int × Int × Unit) × (Int × Int × Int × Unit) × (Int × Unit) × Unit × (Int × Unit) × List Pk × List Pk × List Int × Unit :=
  (cA s, ((h.f1, (h.m1, (65536, ()))), ((h.f2, (h.m2, (65536, ()))), ((s.used, ()), ((), ((h.dat, ()), (h.r1, (h.r2, (D, ())))))))))

abbrev rA (s : St) : L8 × T9 × T9 × T9 × (Int × Int) × Int × Int × Unit := (s.l, (s.z, (s.t1, (s.t2, (s.pi, (s.owed, (s.used, ())))))))

abbrev rB (s : St) (D : List Int) : List Pk × List Pk × List Int × Unit := (s.q1, (s.q2, (D, ())))

structure Rep (D : List Int) (s : St) (h : Hid) : Prop where
  r1 : RingR h.f1 h.m1 h.r1 s.q1
  r2 : RingR h.f2 h.m2 h.r2 s.q2
  hat : D ≠ [] → h.dat = s.used % (D.length : Int)

def sumS : List Pk → Int
  | [] => 0
  | p :: q => p.2.2.1 + sumS q

theorem sumS_app (q : List Pk) (p : Pk) : sumS (q ++ [p]) = sumS q + p.2.2.1 := by
  induction q with
  | nil => simp [sumS]
  | cons a q ih => simp only [List.cons_append, sumS, ih]; omega

abbrev SzOK (q : List Pk) : Prop := ∀ p ∈ q, 1 ≤ p.2.2.1 ∧ p.2.2.1 ≤ 65536

theorem sumS_in {q : List Pk} (h : SzOK q) : (q.length : Int) ≤ sumS q ∧ sumS q ≤ 65536 * q.length := by
  induction q with
  | nil => simp [sumS]
  | cons a q ih =>
    have := ih fun p hp => h p (List.mem_cons_of_mem _ hp)
    have := h a List.mem_cons_self
    simp only [sumS, List.length_cons]; omega

structure Good (n : Nat) (s : St) : Prop where
  w1 : s.t1.2.2.2.1 = s.q1.length
  w2 : s.t2.2.2.2.1 = s.q2.length
  b1 : s.t1.2.2.2.2.2.2.2.1 = sumS s.q1
  b2 : s.t2.2.2.2.2.2.2.2.1 = sumS s.q2
  sz1 : SzOK s.q1
  sz2 : SzOK s.q2
  c1 : ∀ p ∈ s.q1, p.2.2.2.1 = 1 ∨ p.2.2.2.1 = 3
  u0 : 0 ≤ s.used
  len : s.used + 2 * (s.q1.length + s.q2.length) ≤ 2 * n
  lim : 1 ≤ s.l.1 ∧ s.l.1 ≤ 1073741824

/- Put. -/
def putP (now : Int) (p : Pk) : Pk := (p.1, (p.2.1, (cl p.2.2.1 1 65536, (p.2.2.2.1, cl now 0 1125899906842624))))

def tAcc (t : T9) (n : Int) : T9 := (IntKind.wrap .i64 (t.1 + 1), (t.2.1, (t.2.2.1, (IntKind.wrap .i64 (t.2.2.2.1 + 1), (IntKind.wrap .i64 (t.2.2.2.2.1 + n), (t.2.2.2.2.2.1, (t.2.2.2.2.2.2.1, (IntKind.wrap .i64 (t.2.2.2.2.2.2.2.1 + n), t.2.2.2.2.2.2.2.2))))))))

def tRej (t : T9) (n : Int) : T9 := (IntKind.wrap .i64 (t.1 + 1), (t.2.1, (IntKind.wrap .i64 (t.2.2.1 + 1), (t.2.2.2.1, (IntKind.wrap .i64 (t.2.2.2.2.1 + n), (t.2.2.2.2.2.1, (IntKind.wrap .i64 (t.2.2.2.2.2.2.1 + n), (t.2.2.2.2.2.2.2.1, t.2.2.2.2.2.2.2.2))))))))

def isLow (c : Int) : Prop := c = 1 ∨ c = 3

instance (c : Int) : Decidable (isLow c) := by unfold isLow; infer_instance

def put (s : St) (now : Int) (p : Pk) : St × Bool :=
  if isLow p.2.2.2.1 then
    if s.l.1 < sumS s.q1 + sumS s.q2 + cl p.2.2.1 1 65536 then ({ s with t1 := tRej s.t1 (cl p.2.2.1 1 65536) }, false)
    else ({ s with t1 := tAcc s.t1 (cl p.2.2.1 1 65536), q1 := s.q1 ++ [putP now p] }, true)
  else
    if s.l.1 < sumS s.q1 + sumS s.q2 + cl p.2.2.1 1 65536 then ({ s with t2 := tRej s.t2 (cl p.2.2.1 1 65536) }, false)
    else ({ s with t2 := tAcc s.t2 (cl p.2.2.1 1 65536), q2 := s.q2 ++ [putP now p] }, true)

theorem btf : (true == false) = false := rfl

theorem bff : (false == false) = true := rfl

theorem btt : (true == true) = true := rfl

theorem bft : (false == true) = false := rfl

theorem ecn_Low_eq (N : Nat) (c : Int) : W.ecn_Low N c = some (decide (isLow c)) := by
  by_cases h : 0 ≤ c ∧ c ≤ 3
  · have : c = 0 ∨ c = 1 ∨ c = 2 ∨ c = 3 := by omega
    rcases this with rfl | rfl | rfl | rfl <;> rfl
  · have h1 : ¬ isLow c := by unfold isLow; omega
    simp only [W.ecn_Low, W.ecn_is, h1, decide_false]
    by_cases h2 : 0 ≤ c
    · have h3 : ¬ c ≤ 3 := by omega
      simp [h2, h3]
    · simp [h2]

theorem leatref36_keep_eq (N : Nat) (a lo hi : Int) (h : lo ≤ hi) : W.leatref36_keep N a lo hi = some (cl a lo hi) := by
  simp only [W.leatref36_keep, imn_eq, imx_eq, cl, Option.some.injEq]; omega

theorem dual_Put (N : Nat) {D : List Int} {s : St} {h : Hid} {n : Nat} (now : Int) (p : Pk) (R : Rep D s h) (G : Good n s) (hn : n ≤ 100) (hN : 2000 < N) : ∃ h', W.dual_Queue_Put N ((now, (p, ())), cS s h D) = some (((put s now p).2, ()), cS (put s now p).1 h' D) ∧ Rep D (put s now p).1 h' := by
  have g1 := G.w1; have g2 := G.w2; have g3 := G.b1; have g4 := G.b2; have g5 := sumS_in G.sz1; have g6 := sumS_in G.sz2; have g7 := G.u0; have g8 := G.len; have g9 := G.lim
  have hc : 1 ≤ cl p.2.2.1 1 65536 ∧ cl p.2.2.1 1 65536 ≤ 65536 := cl_in (by omega)
  have ew : IntKind.wrap .i64 (IntKind.wrap .i64 (s.t1.2.2.2.2.2.2.2.1 + s.t2.2.2.2.2.2.2.2.1) + cl p.2.2.1 1 65536) = sumS s.q1 + sumS s.q2 + cl p.2.2.1 1 65536 := by
    rw [g3, g4, wrapI64 (x := sumS s.q1 + sumS s.q2) (by omega) (by omega), wrapI64 (by omega) (by omega)]
  by_cases hl : isLow p.2.2.2.1
  · by_cases hb : s.l.1 < sumS s.q1 + sumS s.q2 + cl p.2.2.1 1 65536
    · refine ⟨h, ?_, ?_⟩
      · simp only [W.dual_Queue_Put, sat_Clamp_eq, ecn_Low_eq, Option.bind_some, ew, hl, hb, put, decide_true, if_true, cond_true, cond_false, tRej, btf, bff, Bool.not_true]
      · simp only [put, hl, hb, if_true]; exact ⟨R.r1, R.r2, R.hat⟩
    · obtain ⟨f', m', rows', e, hr⟩ := ring_Push N (putP now p) R.r1 (by omega) (by omega)
      refine ⟨{ h with f1 := f', m1 := m', r1 := rows' }, ?_, ?_⟩
      · simp only [putP] at e
        simp only [W.dual_Queue_Put, sat_Clamp_eq, ecn_Low_eq, Option.bind_some, ew, hl, hb, put, decide_true, decide_false, if_true, if_false, cond_true, cond_false, tAcc, btf, bff, Bool.not_false, e, BEq.rfl, Bool.not_true, putP]
      · simp only [put, hl, hb, if_true, if_false]; exact ⟨hr, R.r2, R.hat⟩
  · by_cases hb : s.l.1 < sumS s.q1 + sumS s.q2 + cl p.2.2.1 1 65536
    · refine ⟨h, ?_, ?_⟩
      · simp only [W.dual_Queue_Put, sat_Clamp_eq, ecn_Low_eq, Option.bind_some, ew, hl, hb, put, decide_true, decide_false, if_true, if_false, cond_true, cond_false, tRej, btf, bff, Bool.not_true]
      · simp only [put, hl, hb, if_true, if_false]; exact ⟨R.r1, R.r2, R.hat⟩
    · obtain ⟨f', m', rows', e, hr⟩ := ring_Push N (putP now p) R.r2 (by omega) (by omega)
      refine ⟨{ h with f2 := f', m2 := m', r2 := rows' }, ?_, ?_⟩
      · simp only [putP] at e
        simp only [W.dual_Queue_Put, sat_Clamp_eq, ecn_Low_eq, Option.bind_some, ew, hl, hb, put, decide_true, decide_false, if_true, if_false, cond_true, cond_false, tAcc, btf, bff, Bool.not_false, e, BEq.rfl, Bool.not_true, putP]
      · simp only [put, hl, hb, if_true, if_false]; exact ⟨R.r1, hr, R.hat⟩

theorem sumS_take (q : List Pk) (i : Nat) (h : i < q.length) : sumS (q.take i) + (q.getD i z5).2.2.1 = sumS (q.take (i + 1)) := by
  induction q generalizing i with
  | nil => simp at h
  | cons a q ih =>
    cases i with
    | zero => simp [sumS]
    | succ i =>
      have := ih i (by simpa using h)
      simp only [List.take_succ_cons, sumS, List.getD_cons_succ]; omega

theorem SzOK_take {q : List Pk} (h : SzOK q) (i : Nat) : SzOK (q.take i) := fun p hp => h p (List.mem_of_mem_take hp)

theorem bytes1 (N : Nat) (a : L8 × T9 × T9 × T9 × (Int × Int) × Int × Int × Unit) (q1 q2 : List Pk) (D : List Int) (h1 : SzOK q1) (l1 : q1.length ≤ 100) (hN : 2000 < N) : iter (W.leatref36_Bytes_L6 N) N ((0, (1, (0, ()))), (a, (q1, (q2, (D, ()))))) = some ((sumS q1, (1, ())), (a, (q1, (q2, (D, ()))))) := by
  refine iter_some (fun x => ∃ i : Nat, i ≤ q1.length ∧ x = ((sumS (q1.take i), (1, ((i : Int), ()))), (a, (q1, (q2, (D, ())))))) (fun x => ((q1.length : Int) - x.1.2.2.1).toNat) _ ?_ N _ ⟨0, by omega, by simp [sumS]⟩ (by simp only; omega)
  rintro F x ⟨i, hi, rfl⟩
  have g := sumS_in (SzOK_take h1 i)
  have e1 : ¬ ((1 : Int) = 0) := by omega
  by_cases hc : i < q1.length
  · left
    have g2 := sumS_in (SzOK_take h1 (i + 1))
    have l2 : (q1.take i).length ≤ 100 := by simp; omega
    have l3 : (q1.take (i + 1)).length ≤ 100 := by simp; omega
    have c1 : (i : Int) < q1.length := by omega
    have c2 : (0 : Int) ≤ i := by omega
    have w1 : IntKind.wrap .i64 (sumS (q1.take i) + (q1.getD i z5).2.2.1) = sumS (q1.take (i + 1)) := by rw [sumS_take q1 i hc]; exact wrapI64 (by omega) (by omega)
    have w2 : IntKind.wrap .i64 ((i : Int) + 1) = ((i + 1 : Nat) : Int) := by rw [wrapI64 (by omega) (by omega)]; omega
    refine ⟨((sumS (q1.take (i + 1)), (1, (((i + 1 : Nat) : Int), ()))), (a, (q1, (q2, (D, ()))))), ⟨i + 1, by omega, rfl⟩, by simp only; omega, ?_⟩
    simp only [W.leatref36_Bytes_L6, e1, c1, c2, decide_true, decide_false, cond_true, cond_false, Bool.and_self, Int.toNat_natCast, w1, w2]
  · right
    have c1 : ¬ (i : Int) < q1.length := by omega
    have e2 : q1.take i = q1 := List.take_of_length_le (by omega)
    simp only [W.leatref36_Bytes_L6, e1, c1, decide_true, decide_false, cond_true, cond_false, e2]

theorem bytes2 (N : Nat) (a : L8 × T9 × T9 × T9 × (Int × Int) × Int × Int × Unit) (q1 q2 : List Pk) (D : List Int) (n : Int) (hn : 0 ≤ n ∧ n ≤ 6553600) (h1 : SzOK q2) (l1 : q2.length ≤ 100) (hN : 2000 < N) : iter (W.leatref36_Bytes_L6 N) N ((n, (2, (0, ()))), (a, (q1, (q2, (D, ()))))) = some ((n + sumS q2, (2, ())), (a, (q1, (q2, (D, ()))))) := by
  refine iter_some (fun x => ∃ i : Nat, i ≤ q2.length ∧ x = ((n + sumS (q2.take i), (2, ((i : Int), ()))), (a, (q1, (q2, (D, ())))))) (fun x => ((q2.length : Int) - x.1.2.2.1).toNat) _ ?_ N _ ⟨0, by omega, by simp [sumS]⟩ (by simp only; omega)
  rintro F x ⟨i, hi, rfl⟩
  have g := sumS_in (SzOK_take h1 i)
  have e1 : ¬ ((2 : Int) = 0) := by omega
  have e3 : ¬ ((2 : Int) = 1) := by omega
  by_cases hc : i < q2.length
  · left
    have g2 := sumS_in (SzOK_take h1 (i + 1))
    have l2 : (q2.take i).length ≤ 100 := by simp; omega
    have l3 : (q2.take (i + 1)).length ≤ 100 := by simp; omega
    have c1 : (i : Int) < q2.length := by omega
    have c2 : (0 : Int) ≤ i := by omega
    have w1 : IntKind.wrap .i64 (n + sumS (q2.take i) + (q2.getD i z5).2.2.1) = n + sumS (q2.take (i + 1)) := by rw [Int.add_assoc, sumS_take q2 i hc]; exact wrapI64 (by omega) (by omega)
    have w2 : IntKind.wrap .i64 ((i : Int) + 1) = ((i + 1 : Nat) : Int) := by rw [wrapI64 (by omega) (by omega)]; omega
    refine ⟨((n + sumS (q2.take (i + 1)), (2, (((i + 1 : Nat) : Int), ()))), (a, (q1, (q2, (D, ()))))), ⟨i + 1, by omega, rfl⟩, by simp only; omega, ?_⟩
    simp only [W.leatref36_Bytes_L6, e1, e3, c1, c2, decide_true, decide_false, cond_true, cond_false, Bool.and_self, Int.toNat_natCast, w1, w2]
  · right
    have c1 : ¬ (i : Int) < q2.length := by omega
    have e2 : q2.take i = q2 := List.take_of_length_le (by omega)
    simp only [W.leatref36_Bytes_L6, e1, e3, c1, decide_true, decide_false, cond_true, cond_false, e2]

theorem ref_Bytes (N : Nat) (a : L8 × T9 × T9 × T9 × (Int × Int) × Int × Int × Unit) (q1 q2 : List Pk) (D : List Int) (h1 : SzOK q1) (l1 : q1.length ≤ 100) (h2 : SzOK q2) (l2 : q2.length ≤ 100) (hN : 2000 < N) : W.leatref36_Bytes N ((a, ()), (q1, (q2, (D, ())))) = some (sumS q1 + sumS q2) := by
  obtain ⟨a1, a2, a3, a4, a5, a6, a7, ⟨⟩⟩ := a
  have b1 := bytes1 N (a1, a2, a3, a4, a5, a6, a7, ()) q1 q2 D h1 l1 hN
  have g := sumS_in h1
  have b2 := bytes2 N (a1, a2, a3, a4, a5, a6, a7, ()) q1 q2 D (sumS q1) (by omega) h2 l2 hN
  have w2 : IntKind.wrap .i64 (1 + 1) = 2 := rfl
  have w3 : IntKind.wrap .i64 (2 + 1) = 3 := rfl
  have c1 : (1 : Int) < 3 := by omega
  have c2 : (2 : Int) < 3 := by omega
  have c3 : ¬ (3 : Int) < 3 := by omega
  have s1 : ∀ F, W.leatref36_Bytes_L3 N F ((0, (1, ())), ((a1, a2, a3, a4, a5, a6, a7, ()), (q1, (q2, (D, ()))))) = F ((sumS q1, (2, ())), ((a1, a2, a3, a4, a5, a6, a7, ()), (q1, (q2, (D, ()))))) := by
    intro F; simp only [W.leatref36_Bytes_L3, b1, Option.bind_some, w2, c1, decide_true, cond_true]
  have s2 : ∀ F, W.leatref36_Bytes_L3 N F ((sumS q1, (2, ())), ((a1, a2, a3, a4, a5, a6, a7, ()), (q1, (q2, (D, ()))))) = F ((sumS q1 + sumS q2, (3, ())), ((a1, a2, a3, a4, a5, a6, a7, ()), (q1, (q2, (D, ()))))) := by
    intro F; simp only [W.leatref36_Bytes_L3, b2, Option.bind_some, w3, c2, decide_true, cond_true]
  have s3 : ∀ F, W.leatref36_Bytes_L3 N F ((sumS q1 + sumS q2, (3, ())), ((a1, a2, a3, a4, a5, a6, a7, ()), (q1, (q2, (D, ()))))) = some ((sumS q1 + sumS q2, ()), ()) := by
    intro F; simp only [W.leatref36_Bytes_L3, c3, decide_false, cond_false]
  have k : iter (W.leatref36_Bytes_L3 N) N ((0, (1, ())), ((a1, a2, a3, a4, a5, a6, a7, ()), (q1, (q2, (D, ()))))) = some ((sumS q1 + sumS q2, ()), ()) := by
    clear b1 b2
    generalize hr : W.leatref36_Bytes_L3 N = r at s1 s2 s3 ⊢
    obtain ⟨M, rfl⟩ : ∃ M, N = M + 1 + 1 + 1 := ⟨N - 3, by omega⟩
    show r _ _ = _
    rw [s1]
    show r _ _ = _
    rw [s2]
    show r _ _ = _
    rw [s3]
  simp only [W.leatref36_Bytes, k, Option.bind_some]

theorem leatref36_of_eq (N : Nat) (p : Pk) : W.leatref36_of N p = some (if isLow p.2.2.2.1 then 1 else 2) := by
  by_cases h1 : p.2.2.2.1 = 1
  · have h : isLow p.2.2.2.1 := .inl h1
    simp only [W.leatref36_of, h1, h, if_true]; rfl
  · by_cases h2 : p.2.2.2.1 = 3
    · have h : isLow p.2.2.2.1 := .inr h2
      simp only [W.leatref36_of, h2, h, if_true]; rfl
    · have h : ¬ isLow p.2.2.2.1 := by unfold isLow; omega
      simp only [W.leatref36_of, beq_false_of_ne h1, beq_false_of_ne h2, h, if_false]; rfl

theorem ref_Put (N : Nat) (D : List Int) {s : St} {n : Nat} (now : Int) (p : Pk) (G : Good n s) (hn : n ≤ 100) (hN : 2000 < N) : W.leatref36_Put N ((rA s, (now, (p, ()))), rB s D) = some ((rA (put s now p).1, ((put s now p).2, ())), rB (put s now p).1 D) := by
  have g5 := sumS_in G.sz1; have g6 := sumS_in G.sz2; have g7 := G.u0; have g8 := G.len; have g9 := G.lim
  have hc : 1 ≤ cl p.2.2.1 1 65536 ∧ cl p.2.2.1 1 65536 ≤ 65536 := cl_in (by omega)
  have ew : IntKind.wrap .i64 (sumS s.q1 + sumS s.q2 + cl p.2.2.1 1 65536) = sumS s.q1 + sumS s.q2 + cl p.2.2.1 1 65536 := wrapI64 (by omega) (by omega)
  have k1 := leatref36_keep_eq N p.2.2.1 1 65536 (by omega)
  have k2 := leatref36_keep_eq N now 0 1125899906842624 (by omega)
  have e10 : ¬ ((1 : Int) = 0) := by omega
  have e20 : ¬ ((2 : Int) = 0) := by omega
  have e21 : ¬ ((2 : Int) = 1) := by omega
  have L1 : ¬ (65536 : Int) ≤ s.q1.length := by omega
  have L2 : ¬ (65536 : Int) ≤ s.q2.length := by omega
  have L3 : (0 + s.q1.length) * 40 ≤ 140737488355328 := by omega
  have L4 : (s.q1.length + (0 + 1)) * 40 ≤ 140737488355328 := by omega
  have L5 : (0 + s.q2.length) * 40 ≤ 140737488355328 := by omega
  have L6 : (s.q2.length + (0 + 1)) * 40 ≤ 140737488355328 := by omega
  have rb := fun a => ref_Bytes N a s.q1 s.q2 D G.sz1 (by omega) G.sz2 (by omega) hN
  by_cases hl : isLow p.2.2.2.1
  · by_cases hb : s.l.1 < sumS s.q1 + sumS s.q2 + cl p.2.2.1 1 65536
    · simp only [W.leatref36_Put, k1, k2, leatref36_of_eq, Option.bind_some, hl, hb, if_true, e10, decide_true, decide_false, cond_true, cond_false, rb, ew, btf, bff, Bool.not_true, put, tRej]
    · simp only [W.leatref36_Put, k1, k2, leatref36_of_eq, Option.bind_some, hl, hb, if_true, if_false, e10, decide_true, decide_false, cond_true, cond_false, rb, ew, btf, bff, Bool.not_false, L1, List.nil_append, List.length_nil, List.length_cons, L3, L4, put, tAcc, putP]
  · by_cases hb : s.l.1 < sumS s.q1 + sumS s.q2 + cl p.2.2.1 1 65536
    · simp only [W.leatref36_Put, k1, k2, leatref36_of_eq, Option.bind_some, hl, hb, if_true, if_false, e20, e21, decide_true, decide_false, cond_true, cond_false, rb, ew, btf, bff, Bool.not_true, put, tRej]
    · simp only [W.leatref36_Put, k1, k2, leatref36_of_eq, Option.bind_some, hl, hb, if_true, if_false, e20, e21, decide_true, decide_false, cond_true, cond_false, rb, ew, btf, bff, Bool.not_false, L2, List.nil_append, List.length_nil, List.length_cons, L5, L6, put, tAcc, putP]

end Go.Proofs.YtgjmfljogaanfaaGreat.Pure
