/- The ring of packets, by the list that it holds: first, put in, take out, grow. -/
import Derived.Test.YtgjmfljogaanfaaGreatPCouple
namespace Go.Proofs.YtgjmfljogaanfaaGreat.Pure
open Go.Ev Go.RowKit

abbrev Pk := Int × Int × Int × Int × Int

abbrev z5 : Pk := (0, (0, (0, (0, 0))))

structure RingR (f m : Int) (rows q : List Pk) : Prop where
  hm : m = q.length
  f0 : 0 ≤ f
  le : q.length ≤ rows.length
  mx : rows.length ≤ 65536
  fl : f < rows.length ∨ (f = 0 ∧ rows.length = 0)
  at_ : ∀ i : Nat, i < q.length → rows.getD ((f + i) % (rows.length : Int)).toNat z5 = q.getD i z5

def hd (q : List Pk) : Pk := q.headD z5

theorem modi {f j n : Int} (h0 : 0 ≤ f) (h1 : f < n) (h2 : 0 ≤ j) (h3 : j ≤ n) : (f + j) % n = if f + j < n then f + j else f + j - n := by
  split
  · exact Int.emod_eq_of_lt (by omega) (by omega)
  · rw [← Int.sub_emod_right]
    exact Int.emod_eq_of_lt (by omega) (by omega)

theorem getD_hd (q : List Pk) : q.getD 0 z5 = hd q := by cases q <;> rfl

theorem ring_At0 (N : Nat) {f m mo : Int} {rows q : List Pk} (h : RingR f m rows q) : W.ring_Ring_api_Packet_At N ((0, ()), ((f, (m, (mo, ()))), (rows, ()))) = some (hd q, !q.isEmpty) := by
  have h1 := h.hm; have h2 := h.f0; have h3 := h.le; have h4 := h.mx; have h5 := h.fl
  cases q with
  | nil =>
    simp only [List.length_nil, Int.natCast_zero] at h1
    subst h1
    simp [W.ring_Ring_api_Packet_At, hd]
  | cons p q =>
    have h6 := h.at_ 0 (by simp)
    simp only [List.length_cons, Int.natCast_add, Int.natCast_one] at h1 h3
    have hn : f < rows.length := by omega
    have e0 : (f + (0 : Int)) % (rows.length : Int) = f := by rw [Int.add_zero]; exact Int.emod_eq_of_lt h2 hn
    have h6' : rows.getD f.toNat z5 = p := by
      have : ((0 : Nat) : Int) = 0 := rfl
      rw [this, e0] at h6
      simpa using h6
    have ew : IntKind.wrap .i64 (f + 0) = f := by rw [Int.add_zero]; exact wrapI64 (by omega) (by omega)
    have em : f.tmod (rows.length : Int) = f := by rw [tmod_nn h2]; exact Int.emod_eq_of_lt h2 hn
    have c1 : ¬ (m ≤ 0) := by omega
    have c2 : ¬ ((rows.length : Int) = 0) := by omega
    have c3 : (0 : Int) ≤ f := h2
    simp only [W.ring_Ring_api_Packet_At, ew, em, c1, c2, hn, c3, decide_true, decide_false, Bool.not_false, Bool.and_self, cond_true, cond_false, h6', hd]
    simp

theorem ring_Front (N : Nat) {f m mo : Int} {rows q : List Pk} (h : RingR f m rows q) : W.ring_Ring_api_Packet_Front N ((), ((f, (m, (mo, ()))), (rows, ()))) = some (hd q, !q.isEmpty) := by
  simp only [W.ring_Ring_api_Packet_Front, ring_At0 N h, Option.bind_some]

theorem ring_Pop (N : Nat) {f m mo : Int} {rows q : List Pk} (h : RingR f m rows q) (hq : q ≠ []) : ∃ f' m' rows', W.ring_Ring_api_Packet_Pop N ((), ((f, (m, (mo, ()))), (rows, ()))) = some ((hd q, (true, ())), ((f', (m', (mo, ()))), (rows', ()))) ∧ RingR f' m' rows' q.tail := by
  have h1 := h.hm; have h2 := h.f0; have h3 := h.le; have h4 := h.mx; have h5 := h.fl
  cases q with
  | nil => exact absurd rfl hq
  | cons p q =>
    simp only [List.length_cons, Int.natCast_add, Int.natCast_one] at h1 h3
    have hn : f < rows.length := by omega
    have c2 : ¬ ((rows.length : Int) = 0) := by omega
    have c3 : (0 : Int) ≤ f := h2
    have ew : IntKind.wrap .i64 (f + 1) = f + 1 := wrapI64 (by omega) (by omega)
    have em : (f + 1).tmod (rows.length : Int) = (f + 1) % rows.length := tmod_nn (by omega)
    have ev : IntKind.wrap .i64 (m - 1) = m - 1 := wrapI64 (by omega) (by omega)
    refine ⟨(f + 1) % rows.length, m - 1, rows.set f.toNat z5, ?_, ?_⟩
    · simp only [W.ring_Ring_api_Packet_Pop, ring_Front N h, Option.bind_some, List.length_set, ew, em, ev, c2, hn, c3, decide_true, decide_false, Bool.not_false, Bool.and_self, cond_true, cond_false]
      simp
    · have hm1 := modi h2 hn (show (0 : Int) ≤ 1 by omega) (show (1 : Int) ≤ rows.length by omega)
      refine ⟨by simp only [List.tail_cons]; omega, Int.emod_nonneg _ (by omega), by simp only [List.tail_cons, List.length_set]; omega, by simpa using h4, ?_, ?_⟩
      · rw [List.length_set]; exact .inl (Int.emod_lt_of_pos _ (by omega))
      · intro i hi
        simp only [List.tail_cons] at hi ⊢
        have h6 := h.at_ (i + 1) (by simp only [List.length_cons]; omega)
        have e : ((f + 1) % (rows.length : Int) + (i : Int)) % (rows.length : Int) = (f + ((i + 1 : Nat) : Int)) % (rows.length : Int) := by
          rw [Int.emod_add_emod]; congr 1; omega
        rw [List.length_set, e]
        have hm2 := modi (j := ((i + 1 : Nat) : Int)) h2 hn (by omega) (by omega)
        have hne : f.toNat ≠ ((f + ((i + 1 : Nat) : Int)) % (rows.length : Int)).toNat := by
          rw [hm2]; split <;> omega
        rw [List.getD_eq_getElem?_getD, List.getElem?_set_ne hne, ← List.getD_eq_getElem?_getD, h6]
        rfl

theorem ring_put {f m : Int} {rows q : List Pk} (p : Pk) (h : RingR f m rows q) (hl : q.length < rows.length) : RingR f (m + 1) (rows.set ((f + m) % (rows.length : Int)).toNat p) (q ++ [p]) := by
  have h1 := h.hm; have h2 := h.f0; have h3 := h.le; have h4 := h.mx; have h5 := h.fl
  have hn : f < rows.length := by omega
  refine ⟨by simp only [List.length_append, List.length_singleton]; omega, h2, by simp only [List.length_append, List.length_singleton, List.length_set]; omega, by simpa using h4, by rw [List.length_set]; exact .inl hn, ?_⟩
  intro i hi
  simp only [List.length_append, List.length_singleton] at hi
  rw [List.length_set]
  have e1 := modi (j := (i : Int)) h2 hn (by omega) (by omega)
  have e2 := modi (j := m) h2 hn (by omega) (by omega)
  by_cases hc : i = q.length
  · have : (i : Int) = m := by omega
    rw [this]
    have hb : ((f + m) % (rows.length : Int)).toNat < rows.length := by rw [e2]; split <;> omega
    rw [List.getD_eq_getElem?_getD, List.getElem?_set_self hb, hc]
    simp
  · have hne : ((f + m) % (rows.length : Int)).toNat ≠ ((f + (i : Int)) % (rows.length : Int)).toNat := by
      rw [e1, e2]; split <;> split <;> omega
    rw [List.getD_eq_getElem?_getD, List.getElem?_set_ne hne, ← List.getD_eq_getElem?_getD, h.at_ i (by omega)]
    rw [List.getD_eq_getElem?_getD, List.getD_eq_getElem?_getD, List.getElem?_append_left (by omega)]

theorem grow_set (q : List Pk) (i n : Nat) (hi : i < q.length) (hn : q.length ≤ n) : (q.take i ++ List.replicate (n - i) z5).set i (q.getD i z5) = q.take (i + 1) ++ List.replicate (n - (i + 1)) z5 := by
  have e : n - i = (n - (i + 1)) + 1 := by omega
  rw [e, List.replicate_succ, List.set_append_right _ _ (by simp; omega)]
  have l : (q.take i).length = i := by simp; omega
  rw [l, Nat.sub_self, List.set_cons_zero, List.take_add_one, List.getElem?_eq_getElem hi, List.getD_eq_getElem?_getD, List.getElem?_eq_getElem hi]
  simp only [Option.toList_some, List.append_assoc, List.singleton_append, Option.getD_some]

theorem ring_grow (N : Nat) {f m : Int} {rows q : List Pk} (h : RingR f m rows q) (hl : q.length = rows.length) (hs : q.length < 65536) (hN : q.length + 2 < N) : ∃ rows', W.ring_Ring_api_Packet_grow N ((), ((f, (m, (65536, ()))), (rows, ()))) = some ((), ((0, (m, (65536, ()))), (rows', ()))) ∧ RingR 0 m rows' q ∧ q.length < rows'.length := by
  have h1 := h.hm; have h2 := h.f0; have h3 := h.le; have h4 := h.mx; have h5 := h.fl
  have ew : IntKind.wrap .i64 (2 * (rows.length : Int)) = 2 * (rows.length : Int) := wrapI64 (by omega) (by omega)
  obtain ⟨n, hn⟩ : ∃ n : Nat, (n : Int) = min (max 4 (2 * (rows.length : Int))) 65536 := ⟨(min (max 4 (2 * (rows.length : Int))) 65536).toNat, by omega⟩
  have key : ∀ x, (x = ((m, (((q.length : Nat) : Int) - ((q.length : Nat) : Int), ())), ((f, (m, (65536, ()))), (List.replicate n z5, (rows, ())))) ) → iter (W.ring_Ring_api_Packet_grow_L2 N) N x = some ((), ((f, (m, (65536, ()))), (q ++ List.replicate (n - q.length) z5, (rows, ())))) := by
    intro x hx
    refine iter_some (fun x => ∃ i : Nat, i ≤ q.length ∧ x = ((m, ((i : Int), ())), ((f, (m, (65536, ()))), (q.take i ++ List.replicate (n - i) z5, (rows, ()))))) (fun x => (m - x.1.2.1).toNat) _ ?_ N x ⟨0, by omega, by rw [hx]; simp⟩ (by subst hx; simp only; omega)
    rintro F x ⟨i, hi, rfl⟩
    by_cases hc : i < q.length
    · left
      have c1 : (i : Int) < m := by omega
      have c2 : ¬ ((rows.length : Int) = 0) := by omega
      have hf : f < rows.length := by omega
      have w1 : IntKind.wrap .i64 (f + (i : Int)) = f + i := wrapI64 (by omega) (by omega)
      have w2 : (f + (i : Int)).tmod (rows.length : Int) = (f + i) % rows.length := tmod_nn (by omega)
      have c3 : 0 ≤ (f + (i : Int)) % rows.length := Int.emod_nonneg _ (by omega)
      have c4 : (f + (i : Int)) % rows.length < rows.length := Int.emod_lt_of_pos _ (by omega)
      have c5 : (0 : Int) ≤ i := by omega
      have ll : (q.take i ++ List.replicate (n - i) z5).length = n := by simp; omega
      have c6 : (i : Int) < (n : Int) := by omega
      have w3 : IntKind.wrap .i64 ((i : Int) + 1) = ((i + 1 : Nat) : Int) := by rw [wrapI64 (by omega) (by omega)]; omega
      have g := h.at_ i hc
      have g2 := grow_set q i n hc (by omega)
      refine ⟨((m, (((i + 1 : Nat) : Int), ())), ((f, (m, (65536, ()))), (q.take (i + 1) ++ List.replicate (n - (i + 1)) z5, (rows, ())))), ⟨i + 1, by omega, rfl⟩, by simp only; omega, ?_⟩
      simp only [W.ring_Ring_api_Packet_grow_L2, w1, w2, w3, ll, c1, c2, c3, c4, c5, c6, decide_true, decide_false, Bool.not_false, Bool.and_self, cond_true, g, Int.toNat_natCast, g2]
    · right
      have hi' : i = q.length := by omega
      subst hi'
      have c1 : ¬ ((q.length : Int) < m) := by omega
      simp only [W.ring_Ring_api_Packet_grow_L2, c1, decide_false, cond_false, List.take_length]
  refine ⟨q ++ List.replicate (n - q.length) z5, ?_, ?_, ?_⟩
  · have k2 := key _ rfl
    rw [show ((q.length : Nat) : Int) - ((q.length : Nat) : Int) = 0 by omega] at k2
    have d1 : (0 : Int) ≤ n := by omega
    have d2 : (n : Int) * 40 ≤ 140737488355328 := by omega
    have d3 : (n : Int) ≤ 140737488355328 := by omega
    simp only [W.ring_Ring_api_Packet_grow, ew, imn_eq, imx_eq, ← hn, d1, d2, d3, decide_true, Bool.and_self, cond_true, Int.toNat_natCast]
    rw [k2]
    rfl
  · have ll : (q ++ List.replicate (n - q.length) z5).length = n := by simp; omega
    refine ⟨h1, by omega, by rw [ll]; omega, by rw [ll]; omega, by rw [ll]; omega, ?_⟩
    intro i hi
    rw [ll, Int.zero_add, Int.emod_eq_of_lt (by omega) (by omega), Int.toNat_natCast]
    rw [List.getD_eq_getElem?_getD, List.getD_eq_getElem?_getD, List.getElem?_append_left hi]
  · simp; omega

theorem ring_Push (N : Nat) {f m : Int} {rows q : List Pk} (p : Pk) (h : RingR f m rows q) (hs : q.length < 65536) (hN : q.length + 2 < N) : ∃ f' m' rows', W.ring_Ring_api_Packet_Push N ((p, ()), ((f, (m, (65536, ()))), (rows, ()))) = some ((0, ()), ((f', (m', (65536, ()))), (rows', ()))) ∧ RingR f' m' rows' (q ++ [p]) := by
  have h1 := h.hm; have h2 := h.f0; have h3 := h.le; have h4 := h.mx; have h5 := h.fl
  have c0 : (m == 65536) = false := by simp; omega
  have w2 : IntKind.wrap .i64 (m + 1) = m + 1 := wrapI64 (by omega) (by omega)
  by_cases hc : m = rows.length
  · obtain ⟨rows', e, hr, hl⟩ := ring_grow N h (by omega) hs hN
    have c1 : (m == (rows.length : Int)) = true := by simpa using hc
    have g1 := hr.mx
    have c2 : ¬ ((rows'.length : Int) = 0) := by omega
    have w1 : IntKind.wrap .i64 (0 + m) = 0 + m := wrapI64 (by omega) (by omega)
    have em : (0 + m).tmod (rows'.length : Int) = (0 + m) % rows'.length := tmod_nn (by omega)
    have c3 : 0 ≤ (0 + m) % (rows'.length : Int) := Int.emod_nonneg _ (by omega)
    have c4 : (0 + m) % (rows'.length : Int) < rows'.length := Int.emod_lt_of_pos _ (by omega)
    refine ⟨0, m + 1, _, ?_, ring_put p hr hl⟩
    simp only [W.ring_Ring_api_Packet_Push, c0, c1, e, Option.bind_some, w1, w2, em, c2, c3, c4, decide_true, decide_false, Bool.not_false, Bool.and_self, cond_true, cond_false]
  · have c1 : (m == (rows.length : Int)) = false := by simpa using hc
    have c2 : ¬ ((rows.length : Int) = 0) := by omega
    have w1 : IntKind.wrap .i64 (f + m) = f + m := wrapI64 (by omega) (by omega)
    have em : (f + m).tmod (rows.length : Int) = (f + m) % rows.length := tmod_nn (by omega)
    have c3 : 0 ≤ (f + m) % (rows.length : Int) := Int.emod_nonneg _ (by omega)
    have c4 : (f + m) % (rows.length : Int) < rows.length := Int.emod_lt_of_pos _ (by omega)
    refine ⟨f, m + 1, _, ?_, ring_put p h (by omega)⟩
    simp only [W.ring_Ring_api_Packet_Push, c0, c1, w1, w2, em, c2, c3, c4, decide_true, decide_false, Bool.not_false, Bool.and_self, cond_true, cond_false]

end Go.Proofs.YtgjmfljogaanfaaGreat.Pure
