/- Two queues: whose turn, delays, the loop of taking out. -/
import Derived.Test.YtgjmfljogaanfaaGreatPDualT
namespace Go.Proofs.YtgjmfljogaanfaaGreat.Pure
open Go.Ev Go.RowKit

def owe (o : Int) : Int := cl o 0 1099511627776

def pick (o a b : Int) : Int := if a = 0 then (if b = 0 then 0 else 2) else if 0 < b ∧ 15 * b ≤ owe o then 2 else 1

theorem turn_Pick_eq (N : Nat) {o a b : Int} (ha : 0 ≤ a ∧ a ≤ 65536) (hb : 0 ≤ b ∧ b ≤ 65536) : W.turn_Pick N o a b = some (pick o a b) := by
  have e1 : cl a 0 65536 = a := by simp only [cl]; omega
  have e2 : cl b 0 65536 = b := by simp only [cl]; omega
  have w := wrapI64 (x := 15 * b) (by omega) (by omega)
  simp only [W.turn_Pick, W.turn_size, W.turn_owed, sat_Clamp_eq, Option.bind_some, e1, e2, w, pick, owe]
  by_cases h1 : a = 0
  · by_cases h2 : b = 0
    · subst h1 h2; rfl
    · simp only [h1, beq_false_of_ne h2, h2, if_true, if_false]; rfl
  · simp only [beq_false_of_ne h1, h1, if_false, bff, bft, cond_true, cond_false]
    by_cases h3 : 0 < b
    · by_cases h4 : 15 * b ≤ cl o 0 1099511627776 <;> simp [h3, h4]
    · simp [h3]

def serve (o k n : Int) (w : Bool) : Int := bif w then (if k = 1 then cl (owe o + n) 0 1099511627776 else cl (owe o - 15 * n) 0 1099511627776) else 0

theorem owe_in (o : Int) : 0 ≤ owe o ∧ owe o ≤ 1099511627776 := cl_in (by omega)

theorem turn_Serve_eq (N : Nat) {o k n : Int} (w : Bool) (hk : k = 1 ∨ k = 2) (hn : 0 ≤ n ∧ n ≤ 65536) : W.turn_Serve N o k n w = some (serve o k n w) := by
  have e1 : cl n 0 65536 = n := by simp only [cl]; omega
  have ho := owe_in o
  have w1 := wrapI64 (x := owe o + n) (by omega) (by omega)
  have w2 := wrapI64 (x := 15 * n) (by omega) (by omega)
  have w3 := wrapI64 (x := owe o - 15 * n) (by omega) (by omega)
  have eo : cl o 0 1099511627776 = owe o := rfl
  rcases hk with rfl | rfl
  · cases w
    · simp only [W.turn_Serve, W.turn_size, W.turn_owed, sat_Clamp_eq, Option.bind_some, e1, BEq.rfl, cond_true, cond_false, Bool.not_false, serve]
    · simp only [W.turn_Serve, W.turn_size, W.turn_owed, sat_Clamp_eq, Option.bind_some, e1, eo, w1, BEq.rfl, cond_true, cond_false, Bool.not_true, serve, if_true, Option.some.injEq]
      simp only [cl]; split <;> omega
  · have e2 : ((2 : Int) == 1) = false := rfl
    have e3 : ¬ ((2 : Int) = 1) := by omega
    cases w
    · simp only [W.turn_Serve, W.turn_size, W.turn_owed, sat_Clamp_eq, Option.bind_some, e1, e2, BEq.rfl, cond_true, cond_false, Bool.not_false, serve]
    · simp only [W.turn_Serve, W.turn_size, W.turn_owed, sat_Clamp_eq, Option.bind_some, e1, e2, e3, eo, w2, w3, BEq.rfl, cond_true, cond_false, Bool.not_true, serve, if_false, Option.some.injEq]
      simp only [cl]; split <;> omega

def sz (q : List Pk) : Int := (hd q).2.2.1

theorem sz_in {q : List Pk} (h : SzOK q) : 0 ≤ sz q ∧ sz q ≤ 65536 := by
  cases q with
  | nil => simp [sz, hd]
  | cons p q => have := h p List.mem_cons_self; simp only [sz, hd, List.headD_cons]; omega

theorem sz_pos {q : List Pk} (h : SzOK q) (hq : q ≠ []) : 1 ≤ sz q := by
  cases q with
  | nil => exact absurd rfl hq
  | cons p q => have := h p List.mem_cons_self; simp only [sz, hd, List.headD_cons]; omega

abbrev cD (s : St) (h : Hid) : (L8 × T9 × T9 × T9 × (Int × Int) × Int × Unit) × (Int × Int × Int × Unit) × (Int × Int × Int × Unit) × List Pk × List Pk × Unit :=
  (cA s, ((h.f1, (h.m1, (65536, ()))), ((h.f2, (h.m2, (65536, ()))), (h.r1, (h.r2, ())))))

theorem dual_size (N : Nat) {D : List Int} {s : St} {h : Hid} (R : Rep D s h) : W.dual_Queue_size N ((1, ()), cD s h) = some (sz s.q1) ∧ W.dual_Queue_size N ((2, ()), cD s h) = some (sz s.q2) := by
  have e1 : ¬ ((1 : Int) = 0) := by omega
  have e2 : ¬ ((2 : Int) = 0) := by omega
  have e3 : ¬ ((2 : Int) = 1) := by omega
  constructor
  · simp only [W.dual_Queue_size, ring_Front N R.r1, Option.bind_some, e1, decide_true, decide_false, cond_true, cond_false, sz]
  · simp only [W.dual_Queue_size, ring_Front N R.r2, Option.bind_some, e2, e3, decide_true, decide_false, cond_true, cond_false, sz]

def dl (now : Int) (q : List Pk) : Int := bif q.isEmpty then 0 else imx (IntKind.wrap .i64 (cl now 0 1125899906842624 - (hd q).2.2.2.2)) 0

theorem dual_delay (N : Nat) {D : List Int} {s : St} {h : Hid} (now : Int) (R : Rep D s h) : W.dual_Queue_delay N ((1, (now, ())), cD s h) = some (dl now s.q1) ∧ W.dual_Queue_delay N ((2, (now, ())), cD s h) = some (dl now s.q2) := by
  have e1 : ¬ ((1 : Int) = 0) := by omega
  have e2 : ¬ ((2 : Int) = 0) := by omega
  have e3 : ¬ ((2 : Int) = 1) := by omega
  constructor
  · simp only [W.dual_Queue_delay, ring_Front N R.r1, sat_Clamp_eq, Option.bind_some, e1, decide_true, decide_false, cond_true, cond_false, dl]
    cases s.q1.isEmpty <;> rfl
  · simp only [W.dual_Queue_delay, ring_Front N R.r2, sat_Clamp_eq, Option.bind_some, e2, e3, decide_true, decide_false, cond_true, cond_false, dl]
    cases s.q2.isEmpty <;> rfl

theorem first_of (q : List Pk) : (bif ((q.length : Nat) : Int) == 0 then some 0 else bif decide ((0 : Int) < ((q.length : Nat) : Int)) then some (q.getD (0 : Int).toNat (0, (0, (0, (0, 0))))).2.2.1 else none) = some (sz q) := by
  cases q with
  | nil => rfl
  | cons p q =>
    have c1 : ((((p :: q).length : Nat) : Int) == 0) = false := by simp <;> omega
    have c2 : (0 : Int) < (((p :: q).length : Nat) : Int) := by simp <;> omega
    rw [c1, decide_eq_true c2]; rfl

theorem delay_of (q : List Pk) (c : Int) : (bif ((q.length : Nat) : Int) == 0 then some 0 else bif decide ((0 : Int) < ((q.length : Nat) : Int)) then some (imx (IntKind.wrap .i64 (c - (q.getD (0 : Int).toNat (0, (0, (0, (0, 0))))).2.2.2.2)) 0) else none) = some (bif q.isEmpty then 0 else imx (IntKind.wrap .i64 (c - (hd q).2.2.2.2)) 0) := by
  cases q with
  | nil => rfl
  | cons p q =>
    have c1 : ((((p :: q).length : Nat) : Int) == 0) = false := by simp <;> omega
    have c2 : (0 : Int) < (((p :: q).length : Nat) : Int) := by simp <;> omega
    rw [c1, decide_eq_true c2]; rfl

def tSum (a b : T9) : T9 := (IntKind.wrap .i64 (a.1 + b.1), (IntKind.wrap .i64 (a.2.1 + b.2.1), (IntKind.wrap .i64 (a.2.2.1 + b.2.2.1), (IntKind.wrap .i64 (a.2.2.2.1 + b.2.2.2.1), (IntKind.wrap .i64 (a.2.2.2.2.1 + b.2.2.2.2.1), (IntKind.wrap .i64 (a.2.2.2.2.2.1 + b.2.2.2.2.2.1), (IntKind.wrap .i64 (a.2.2.2.2.2.2.1 + b.2.2.2.2.2.2.1), (IntKind.wrap .i64 (a.2.2.2.2.2.2.2.1 + b.2.2.2.2.2.2.2.1), IntKind.wrap .i64 (a.2.2.2.2.2.2.2.2 + b.2.2.2.2.2.2.2.2)))))))))

theorem dual_Tally (N : Nat) (s : St) : W.dual_Queue_Tally N ((0, ()), (cA s, ())) = some (tSum s.t1 s.t2) ∧ W.dual_Queue_Tally N ((1, ()), (cA s, ())) = some s.t1 ∧ W.dual_Queue_Tally N ((2, ()), (cA s, ())) = some s.t2 := ⟨rfl, rfl, rfl⟩

theorem dual_Waits (N : Nat) {n : Nat} {s : St} (G : Good n s) (hn : n ≤ 100) : W.dual_Queue_Waits N ((), (cA s, ())) = some (decide (0 < s.q1.length + s.q2.length)) := by
  have g1 := G.w1; have g2 := G.w2; have g7 := G.u0; have g8 := G.len
  have w := wrapI64 (x := s.t1.2.2.2.1 + s.t2.2.2.2.1) (by omega) (by omega)
  simp only [W.dual_Queue_Waits, (dual_Tally N s).1, Option.bind_some, tSum, w, Option.some.injEq, decide_eq_decide]
  omega

end Go.Proofs.YtgjmfljogaanfaaGreat.Pure
