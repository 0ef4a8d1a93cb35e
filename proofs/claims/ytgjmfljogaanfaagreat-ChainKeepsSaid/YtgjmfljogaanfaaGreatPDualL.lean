/- Two queues: the loop of taking out, and the controller's step. -/
import Derived.Test.YtgjmfljogaanfaaGreatPDualK
namespace Go.Proofs.YtgjmfljogaanfaaGreat.Pure
open Go.Ev Go.RowKit

def tOut (t : T9) (n : Int) : T9 := (t.1, (t.2.1, (t.2.2.1, (IntKind.wrap .i64 (t.2.2.2.1 - 1), (t.2.2.2.2.1, (t.2.2.2.2.2.1, (t.2.2.2.2.2.2.1, (IntKind.wrap .i64 (t.2.2.2.2.2.2.2.1 - n), t.2.2.2.2.2.2.2.2))))))))

def tLost (t : T9) (n : Int) : T9 := (t.1, (t.2.1, (IntKind.wrap .i64 (t.2.2.1 + 1), (t.2.2.2.1, (t.2.2.2.2.1, (t.2.2.2.2.2.1, (IntKind.wrap .i64 (t.2.2.2.2.2.2.1 + n), (t.2.2.2.2.2.2.2.1, t.2.2.2.2.2.2.2.2))))))))

def tWent (t : T9) (n : Int) (m : Bool) : T9 := (t.1, (IntKind.wrap .i64 (t.2.1 + 1), (t.2.2.1, (t.2.2.2.1, (t.2.2.2.2.1, (IntKind.wrap .i64 (t.2.2.2.2.2.1 + n), (t.2.2.2.2.2.2.1, (t.2.2.2.2.2.2.2.1, bif m then IntKind.wrap .i64 (t.2.2.2.2.2.2.2.2 + 1) else t.2.2.2.2.2.2.2.2))))))))

def out1 (s : St) : St := { s with t1 := tOut s.t1 (sz s.q1), q1 := s.q1.tail }

def out2 (s : St) : St := { s with t2 := tOut s.t2 (sz s.q2), q2 := s.q2.tail }

def j1 (D : List Int) (now : Int) (s : St) : Int × Int × Bool := judge D (out1 s) 1 (hd s.q1) (dl now s.q1)

def j2 (D : List Int) (now : Int) (s : St) : Int × Int × Bool := judge D (out2 s) 2 (hd s.q2) (dl now s.q2)

def gone1 (D : List Int) (now : Int) (s : St) : St := { out1 s with used := (j1 D now s).1, t1 := tLost (out1 s).t1 (sz s.q1), owed := serve s.owed 1 0 (decide ((0 : Int) < s.q2.length)) }

def gone2 (D : List Int) (now : Int) (s : St) : St := { out2 s with used := (j2 D now s).1, t2 := tLost (out2 s).t2 (sz s.q2), owed := serve s.owed 2 0 (decide ((0 : Int) < s.q2.tail.length)) }

def went1 (D : List Int) (now : Int) (s : St) : St := { out1 s with used := (j1 D now s).1, t1 := tWent (out1 s).t1 (sz s.q1) (!((j1 D now s).2.1 == (hd s.q1).2.2.2.1)), owed := serve s.owed 1 (sz s.q1) (decide ((0 : Int) < s.q2.length)) }

def went2 (D : List Int) (now : Int) (s : St) : St := { out2 s with used := (j2 D now s).1, t2 := tWent (out2 s).t2 (sz s.q2) (!((j2 D now s).2.1 == (hd s.q2).2.2.2.1)), owed := serve s.owed 2 (sz s.q2) (decide ((0 : Int) < s.q2.tail.length)) }

def pk1 (D : List Int) (now : Int) (s : St) : Pk := ((hd s.q1).1, ((hd s.q1).2.1, ((hd s.q1).2.2.1, ((j1 D now s).2.1, (hd s.q1).2.2.2.2))))

def pk2 (D : List Int) (now : Int) (s : St) : Pk := ((hd s.q2).1, ((hd s.q2).2.1, ((hd s.q2).2.2.1, ((j2 D now s).2.1, (hd s.q2).2.2.2.2))))

def take (D : List Int) (now : Int) : Nat → St → List Pk → St × Pk × List Pk × Bool
  | 0, s, lost => (s, z5, lost, false)
  | n + 1, s, lost =>
    if s.q1 = [] ∧ s.q2 = [] then (s, z5, lost, false)
    else if pick s.owed (sz s.q1) (sz s.q2) = 1 then
      bif (j1 D now s).2.2 then take D now n (gone1 D now s) (lost ++ [hd s.q1]) else (went1 D now s, pk1 D now s, lost, true)
    else
      bif (j2 D now s).2.2 then take D now n (gone2 D now s) (lost ++ [hd s.q2]) else (went2 D now s, pk2 D now s, lost, true)

abbrev cT (s : St) (h : Hid) (D : List Int) (p : Pk) (lost : List Pk) : (L8 × T9 × T9 × T9 × (Int × Int) × Int × Unit) × (Int × Int × Int × Unit) × (Int × Int × Int × Unit) × (Int × Unit) × Unit × (Int × Unit) × (Pk × Unit) × List Pk × List Pk × List Pk × List Int × Unit :=
  (cA s, ((h.f1, (h.m1, (65536, ()))), ((h.f2, (h.m2, (65536, ()))), ((s.used, ()), ((), ((h.dat, ()), ((p, ()), (lost, (h.r1, (h.r2, (D, ())))))))))))

theorem dual_served (N : Nat) {D : List Int} {s : St} {h : Hid} (k n : Int) (R : Rep D s h) (hk : k = 1 ∨ k = 2) (hn : 0 ≤ n ∧ n ≤ 65536) : W.dual_Queue_served N ((k, (n, ())), cS s h D) = some ((), cS { s with owed := serve s.owed k n (decide ((0 : Int) < s.q2.length)) } h D) := by
  have e : decide ((0 : Int) < h.m2) = decide ((0 : Int) < s.q2.length) := by rw [R.r2.hm]
  simp only [W.dual_Queue_served, W.ring_Ring_api_Packet_Len, Option.bind_some, e, turn_Serve_eq N _ hk hn]

theorem Rep.owed {D : List Int} {s : St} {h : Hid} (R : Rep D s h) (o : Int) : Rep D { s with owed := o } h := ⟨R.r1, R.r2, R.hat⟩

theorem Rep.t1 {D : List Int} {s : St} {h : Hid} (R : Rep D s h) (t : T9) : Rep D { s with t1 := t } h := ⟨R.r1, R.r2, R.hat⟩

theorem Rep.t2 {D : List Int} {s : St} {h : Hid} (R : Rep D s h) (t : T9) : Rep D { s with t2 := t } h := ⟨R.r1, R.r2, R.hat⟩

theorem pick_cases {s : St} {n : Nat} (G : Good n s) (h : ¬ (s.q1 = [] ∧ s.q2 = [])) : (pick s.owed (sz s.q1) (sz s.q2) = 1 ∧ s.q1 ≠ []) ∨ (pick s.owed (sz s.q1) (sz s.q2) = 2 ∧ s.q2 ≠ []) := by
  by_cases h1 : s.q1 = []
  · have h2 : s.q2 ≠ [] := fun h2 => h ⟨h1, h2⟩
    right
    have e1 : sz s.q1 = 0 := by rw [h1]; rfl
    have := sz_pos G.sz2 h2
    refine ⟨?_, h2⟩
    unfold pick
    rw [if_pos e1, if_neg (by omega)]
  · have := sz_pos G.sz1 h1
    unfold pick
    rw [if_neg (by omega)]
    by_cases h3 : 0 < sz s.q2 ∧ 15 * sz s.q2 ≤ owe s.owed
    · right
      refine ⟨if_pos h3, fun h2 => ?_⟩
      rw [h2] at h3
      exact absurd h3.1 (by decide)
    · left
      exact ⟨if_neg h3, h1⟩

theorem hd_mem {q : List Pk} (h : q ≠ []) : hd q ∈ q := by
  cases q with
  | nil => exact absurd rfl h
  | cons p q => exact List.mem_cons_self

theorem sumS_tail {q : List Pk} (h : q ≠ []) : sumS q.tail = sumS q - sz q := by
  cases q with
  | nil => exact absurd rfl h
  | cons p q => simp only [List.tail_cons, sumS, sz, hd, List.headD_cons]; omega

theorem Good_out1 {s : St} {n : Nat} (G : Good n s) (h : s.q1 ≠ []) (hn : n ≤ 100) (u o : Int) (t : T9) (hu : 0 ≤ u ∧ u ≤ s.used + 2) (h1 : t.2.2.2.1 = (out1 s).t1.2.2.2.1) (h2 : t.2.2.2.2.2.2.2.1 = (out1 s).t1.2.2.2.2.2.2.2.1) : Good n { out1 s with used := u, t1 := t, owed := o } := by
  have g1 := G.w1; have g3 := G.b1; have g5 := sumS_in G.sz1; have g7 := G.u0; have g8 := G.len
  have hl := List.length_pos_iff.2 h
  have hp := sz_in G.sz1
  have ht := sumS_tail h
  have htl : s.q1.tail.length = s.q1.length - 1 := List.length_tail
  have w1 := wrapI64 (x := s.t1.2.2.2.1 - 1) (by omega) (by omega)
  have w2 := wrapI64 (x := s.t1.2.2.2.2.2.2.2.1 - sz s.q1) (by omega) (by omega)
  simp only [out1, tOut, w1, w2] at h1 h2
  refine ⟨?_, G.w2, ?_, G.b2, fun p hp => G.sz1 p (List.mem_of_mem_tail hp), G.sz2, fun p hp => G.c1 p (List.mem_of_mem_tail hp), hu.1, ?_, G.lim⟩
  · simp only [h1, out1]; omega
  · simp only [h2, out1]; omega
  · simp only [out1]; omega

theorem Good_out2 {s : St} {n : Nat} (G : Good n s) (h : s.q2 ≠ []) (hn : n ≤ 100) (u o : Int) (t : T9) (hu : 0 ≤ u ∧ u ≤ s.used + 2) (h1 : t.2.2.2.1 = (out2 s).t2.2.2.2.1) (h2 : t.2.2.2.2.2.2.2.1 = (out2 s).t2.2.2.2.2.2.2.2.1) : Good n { out2 s with used := u, t2 := t, owed := o } := by
  have g1 := G.w2; have g3 := G.b2; have g5 := sumS_in G.sz2; have g7 := G.u0; have g8 := G.len
  have hl := List.length_pos_iff.2 h
  have hp := sz_in G.sz2
  have ht := sumS_tail h
  have htl : s.q2.tail.length = s.q2.length - 1 := List.length_tail
  have w1 := wrapI64 (x := s.t2.2.2.2.1 - 1) (by omega) (by omega)
  have w2 := wrapI64 (x := s.t2.2.2.2.2.2.2.2.1 - sz s.q2) (by omega) (by omega)
  simp only [out2, tOut, w1, w2] at h1 h2
  refine ⟨G.w1, ?_, G.b1, ?_, G.sz1, fun p hp => G.sz2 p (List.mem_of_mem_tail hp), G.c1, hu.1, ?_, G.lim⟩
  · simp only [h1, out2]; omega
  · simp only [h2, out2]; omega
  · simp only [out2]; omega

theorem round1 (N : Nat) {D : List Int} {s : St} {h : Hid} {n : Nat} (now : Int) (lost : List Pk) (R : Rep D s h) (G : Good n s) (hD : DOK D) (hn : n ≤ 100) (hq : s.q1 ≠ []) (hp : pick s.owed (sz s.q1) (sz s.q2) = 1) (hl : lost.length ≤ 1000) (hN : 2000 < N) :
    (∃ h', (j1 D now s).2.2 = true ∧ Rep D (gone1 D now s) h' ∧ Good n (gone1 D now s) ∧ ∀ F, W.dual_Queue_Take_L2 N F ((now, ()), cT s h D z5 lost) = F ((now, ()), cT (gone1 D now s) h' D z5 (lost ++ [hd s.q1]))) ∨
    (∃ h', (j1 D now s).2.2 = false ∧ Rep D (went1 D now s) h' ∧ Good n (went1 D now s) ∧ ∀ F, W.dual_Queue_Take_L2 N F ((now, ()), cT s h D z5 lost) = some (.inl ((true, ()), cT (went1 D now s) h' D (pk1 D now s) lost))) := by
  have g7 := G.u0; have g8 := G.len
  have hz := sz_in G.sz1
  have hz2 := sz_in G.sz2
  have hw := dual_Waits N G hn
  have hlen : 0 < s.q1.length + s.q2.length := by have := List.length_pos_iff.2 hq; omega
  obtain ⟨f', m', rows', eP, RP⟩ := ring_Pop (mo := 65536) N R.r1 hq
  have RO : Rep D (out1 s) { h with f1 := f', m1 := m', r1 := rows' } := ⟨RP, R.r2, R.hat⟩
  obtain ⟨h', eJ, RJ⟩ := dual_judge N 1 (hd s.q1) (dl now s.q1) RO hD (by simp only [out1]; omega) (by simp only [out1]; omega) (.inr ⟨rfl, G.c1 _ (hd_mem hq)⟩) hN
  have ju := judge_used D (out1 s) 1 (hd s.q1) (dl now s.q1)
  have hu : 0 ≤ (j1 D now s).1 ∧ (j1 D now s).1 ≤ s.used + 2 := by
    simp only [j1]; simp only [out1] at ju ⊢; omega
  have c10 : ¬ ((1 : Int) = 0) := by omega
  have L1 : (lost.length + (0 + 1)) * 40 ≤ 140737488355328 := by omega
  have hpk : W.turn_Pick N s.owed (hd s.q1).2.2.1 (hd s.q2).2.2.1 = some 1 := by rw [← hp]; exact turn_Pick_eq N hz hz2
  cases hj : (judge D (out1 s) 1 (hd s.q1) (dl now s.q1)).2.2 with
  | true =>
    left
    have eS := dual_served N 1 0 ((RJ.t1 (tLost (out1 s).t1 (sz s.q1)))) (.inl rfl) (by omega)
    refine ⟨h', hj, (RJ.t1 (tLost (out1 s).t1 (sz s.q1))).owed _, Good_out1 G hq hn _ _ _ hu rfl rfl, fun F => ?_⟩
    have hj' := hj
    simp only [out1, tOut, sz] at hj'
    simp only [out1, tOut, tLost, sz, hj'] at eJ eS
    simp only [W.dual_Queue_Take_L2, hw, Option.bind_some, hlen, decide_true, cond_true, (dual_size N R).1, (dual_size N R).2, hpk, c10, decide_false, cond_false, (dual_delay N now R).1, eP, eJ, hj', eS, List.length_cons, List.length_nil, L1, gone1, out1, tOut, tLost, j1, sz]
    rfl
  | false =>
    right
    have eS := dual_served N 1 (sz s.q1) ((RJ.t1 (tWent (out1 s).t1 (sz s.q1) (!((j1 D now s).2.1 == (hd s.q1).2.2.2.1))))) (.inl rfl) hz
    refine ⟨h', hj, (RJ.t1 _).owed _, Good_out1 G hq hn _ _ _ hu rfl rfl, fun F => ?_⟩
    have hj' := hj
    simp only [out1, tOut, sz] at hj'
    cases hm : ((j1 D now s).2.1 == (hd s.q1).2.2.2.1) with
    | true =>
      simp only [out1, tOut, tWent, sz, hj', hm, Bool.not_true, cond_false] at eJ eS
      simp only [j1, out1, tOut, sz] at hm
      simp only [W.dual_Queue_Take_L2, hw, Option.bind_some, hlen, decide_true, cond_true, (dual_size N R).1, (dual_size N R).2, hpk, c10, decide_false, cond_false, (dual_delay N now R).1, eP, eJ, hj', hm, Bool.not_true, eS, went1, pk1, out1, tOut, tWent, j1, sz]
      rfl
    | false =>
      simp only [out1, tOut, tWent, sz, hj', hm, Bool.not_false, cond_true] at eJ eS
      simp only [j1, out1, tOut, sz] at hm
      simp only [W.dual_Queue_Take_L2, hw, Option.bind_some, hlen, decide_true, cond_true, (dual_size N R).1, (dual_size N R).2, hpk, c10, decide_false, cond_false, (dual_delay N now R).1, eP, eJ, hj', hm, Bool.not_false, eS, went1, pk1, out1, tOut, tWent, j1, sz]
      rfl

theorem round2 (N : Nat) {D : List Int} {s : St} {h : Hid} {n : Nat} (now : Int) (lost : List Pk) (R : Rep D s h) (G : Good n s) (hD : DOK D) (hn : n ≤ 100) (hq : s.q2 ≠ []) (hp : pick s.owed (sz s.q1) (sz s.q2) = 2) (hl : lost.length ≤ 1000) (hN : 2000 < N) :
    (∃ h', (j2 D now s).2.2 = true ∧ Rep D (gone2 D now s) h' ∧ Good n (gone2 D now s) ∧ ∀ F, W.dual_Queue_Take_L2 N F ((now, ()), cT s h D z5 lost) = F ((now, ()), cT (gone2 D now s) h' D z5 (lost ++ [hd s.q2]))) ∨
    (∃ h', (j2 D now s).2.2 = false ∧ Rep D (went2 D now s) h' ∧ Good n (went2 D now s) ∧ ∀ F, W.dual_Queue_Take_L2 N F ((now, ()), cT s h D z5 lost) = some (.inl ((true, ()), cT (went2 D now s) h' D (pk2 D now s) lost))) := by
  have g7 := G.u0; have g8 := G.len
  have hz := sz_in G.sz1
  have hz2 := sz_in G.sz2
  have hw := dual_Waits N G hn
  have hlen : 0 < s.q1.length + s.q2.length := by have := List.length_pos_iff.2 hq; omega
  obtain ⟨f', m', rows', eP, RP⟩ := ring_Pop (mo := 65536) N R.r2 hq
  have RO : Rep D (out2 s) { h with f2 := f', m2 := m', r2 := rows' } := ⟨R.r1, RP, R.hat⟩
  obtain ⟨h', eJ, RJ⟩ := dual_judge N 2 (hd s.q2) (dl now s.q2) RO hD (by simp only [out2]; omega) (by simp only [out2]; omega) (.inl rfl) hN
  have ju := judge_used D (out2 s) 2 (hd s.q2) (dl now s.q2)
  have hu : 0 ≤ (j2 D now s).1 ∧ (j2 D now s).1 ≤ s.used + 2 := by
    simp only [j2]; simp only [out2] at ju ⊢; omega
  have c20 : ¬ ((2 : Int) = 0) := by omega
  have c21 : ¬ ((2 : Int) = 1) := by omega
  have L1 : (lost.length + (0 + 1)) * 40 ≤ 140737488355328 := by omega
  have hpk : W.turn_Pick N s.owed (hd s.q1).2.2.1 (hd s.q2).2.2.1 = some 2 := by rw [← hp]; exact turn_Pick_eq N hz hz2
  cases hj : (judge D (out2 s) 2 (hd s.q2) (dl now s.q2)).2.2 with
  | true =>
    left
    have eS := dual_served N 2 0 ((RJ.t2 (tLost (out2 s).t2 (sz s.q2)))) (.inr rfl) (by omega)
    refine ⟨h', hj, (RJ.t2 (tLost (out2 s).t2 (sz s.q2))).owed _, Good_out2 G hq hn _ _ _ hu rfl rfl, fun F => ?_⟩
    have hj' := hj
    simp only [out2, tOut, sz] at hj'
    simp only [out2, tOut, tLost, sz, hj'] at eJ eS
    simp only [W.dual_Queue_Take_L2, hw, Option.bind_some, hlen, decide_true, cond_true, (dual_size N R).1, (dual_size N R).2, hpk, c20, c21, decide_false, cond_false, (dual_delay N now R).2, eP, eJ, hj', eS, List.length_cons, List.length_nil, L1, gone2, out2, tOut, tLost, j2, sz]
    rfl
  | false =>
    right
    have eS := dual_served N 2 (sz s.q2) ((RJ.t2 (tWent (out2 s).t2 (sz s.q2) (!((j2 D now s).2.1 == (hd s.q2).2.2.2.1))))) (.inr rfl) hz2
    refine ⟨h', hj, (RJ.t2 _).owed _, Good_out2 G hq hn _ _ _ hu rfl rfl, fun F => ?_⟩
    have hj' := hj
    simp only [out2, tOut, sz] at hj'
    cases hm : ((j2 D now s).2.1 == (hd s.q2).2.2.2.1) with
    | true =>
      simp only [out2, tOut, tWent, sz, hj', hm, Bool.not_true, cond_false] at eJ eS
      simp only [j2, out2, tOut, sz] at hm
      simp only [W.dual_Queue_Take_L2, hw, Option.bind_some, hlen, decide_true, cond_true, (dual_size N R).1, (dual_size N R).2, hpk, c20, c21, decide_false, cond_false, (dual_delay N now R).2, eP, eJ, hj', hm, Bool.not_true, eS, went2, pk2, out2, tOut, tWent, j2, sz]
      rfl
    | false =>
      simp only [out2, tOut, tWent, sz, hj', hm, Bool.not_false, cond_true] at eJ eS
      simp only [j2, out2, tOut, sz] at hm
      simp only [W.dual_Queue_Take_L2, hw, Option.bind_some, hlen, decide_true, cond_true, (dual_size N R).1, (dual_size N R).2, hpk, c20, c21, decide_false, cond_false, (dual_delay N now R).2, eP, eJ, hj', hm, Bool.not_false, eS, went2, pk2, out2, tOut, tWent, j2, sz]
      rfl

end Go.Proofs.YtgjmfljogaanfaaGreat.Pure
