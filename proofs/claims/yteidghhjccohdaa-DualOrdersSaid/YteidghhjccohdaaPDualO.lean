/- DualOrders, as plain Lean: what is told leaves the rows in their order. -/
import Derived.Test.YteidghhjccohdaaPDualE
namespace Go.Proofs.Yteidghhjccohdaa.Pure
open Go.Ev Go.RowKit

/-- What a packet is known by: its flow, its number, its code. -/
def kf (p : Pk) : Int × Int × Int := (p.1, p.2.1, p.2.2.2.1)

theorem take_false (D : List Int) (now : Int) {n : Nat} (hn : n ≤ 100) : ∀ (f : Nat) (s : St) (lost : List Pk), Good n s → s.q1.length + s.q2.length ≤ f → (take D now f s lost).2.2.2 = false → (take D now f s lost).1.q1 = [] ∧ (take D now f s lost).1.q2 = [] := by
  intro f
  induction f with
  | zero => intro s lost G hf _; exact ⟨List.length_eq_zero_iff.1 (by simp only [take]; omega), List.length_eq_zero_iff.1 (by simp only [take]; omega)⟩
  | succ f ih =>
    intro s lost G hf h
    by_cases he : s.q1 = [] ∧ s.q2 = []
    · rw [take_empty D now _ s lost he]; exact he
    · rcases pick_cases G he with ⟨hp, hq⟩ | ⟨hp, hq⟩
      · have ht := List.length_pos_iff.2 hq
        cases hj : (j1 D now s).2.2 with
        | true =>
          simp only [take, he, hp, hj, if_true, if_false, cond_true] at h ⊢
          exact ih _ _ (Good_gone1 G hn hq) (by simp only [gone1, out1, List.length_tail]; omega) h
        | false => simp [take, he, hp, hj] at h
      · have ht := List.length_pos_iff.2 hq
        have hp1 : ¬ ((2 : Int) = 1) := by omega
        cases hj : (j2 D now s).2.2 with
        | true =>
          simp only [take, he, hp, hp1, hj, if_false, cond_true] at h ⊢
          exact ih _ _ (Good_gone2 G hn hq) (by simp only [gone2, out2, List.length_tail]; omega) h
        | false => simp [take, he, hp, hp1, hj] at h

def hitR (r : List Pk) (x : Pk) (went : Bool) : Bool := !r.isEmpty && ((hd r).2.1 == x.2.1 && ((hd r).1 == x.1 && (went || (hd r).2.2.2.1 == x.2.2.2.1)))

structure Ord (n : Int) (s : St) (r1 r2 : List Pk) : Prop where
  k1 : s.q1.map kf = r1.map kf
  k2 : s.q2.map kf = r2.map kf
  sep : ∀ a ∈ r1, ∀ b ∈ r2, a.2.1 ≠ b.2.1
  b1 : ∀ a ∈ r1, a.2.1 < n
  b2 : ∀ a ∈ r2, a.2.1 < n
  c2 : ∀ a ∈ r2, a.2.2.2.1 = 0 ∨ a.2.2.2.1 = 2

theorem kf_hd {q r : List Pk} (h : q.map kf = r.map kf) (hq : q ≠ []) : r ≠ [] ∧ (hd r).1 = (hd q).1 ∧ (hd r).2.1 = (hd q).2.1 ∧ (hd r).2.2.2.1 = (hd q).2.2.2.1 ∧ q.tail.map kf = r.tail.map kf ∧ q.length = r.length := by
  cases q with
  | nil => exact absurd rfl hq
  | cons a q =>
    cases r with
    | nil => simp at h
    | cons b r =>
      have hl := congrArg List.length h
      simp only [List.map_cons, List.cons.injEq, kf, Prod.mk.injEq] at h
      simp only [List.length_map] at hl
      exact ⟨by simp, h.1.1.symm, h.1.2.1.symm, h.1.2.2.symm, h.2, hl⟩

theorem hd_mem' {r : List Pk} (h : r ≠ []) : hd r ∈ r := by
  cases r with
  | nil => exact absurd rfl h
  | cons a r => simp [hd]

theorem hit1 {n : Int} {s : St} {r1 r2 : List Pk} (O : Ord n s r1 r2) (hq : s.q1 ≠ []) {x : Pk} {went : Bool} (h1 : x.1 = (hd s.q1).1) (h2 : x.2.1 = (hd s.q1).2.1) (h3 : went = true ∨ x.2.2.2.1 = (hd s.q1).2.2.2.1) : hitR r1 x went = true := by
  obtain ⟨e0, e1, e2, e3, _⟩ := kf_hd O.k1 hq
  have e0' : r1.isEmpty = false := by cases r1 <;> simp_all
  simp only [hitR, e0', e1, e2, e3, h1, h2, BEq.rfl, Bool.not_false, Bool.true_and]
  rcases h3 with h | h
  · simp [h]
  · simp [h]

theorem hit2 {n : Int} {s : St} {r1 r2 : List Pk} (O : Ord n s r1 r2) (hq : s.q2 ≠ []) {x : Pk} {went : Bool} (h1 : x.1 = (hd s.q2).1) (h2 : x.2.1 = (hd s.q2).2.1) (h3 : went = true ∨ x.2.2.2.1 = (hd s.q2).2.2.2.1) : hitR r1 x went = false ∧ hitR r2 x went = true := by
  obtain ⟨e0, e1, e2, e3, _⟩ := kf_hd O.k2 hq
  have e0' : r2.isEmpty = false := by cases r2 <;> simp_all
  constructor
  · cases hr : r1.isEmpty with
    | true => simp [hitR, hr]
    | false =>
      have hr1 : r1 ≠ [] := by intro e; rw [e] at hr; simp at hr
      have := O.sep _ (hd_mem' hr1) _ (hd_mem' e0)
      have e : ((hd r1).2.1 == x.2.1) = false := by rw [h2, ← e2]; simpa using this
      simp [hitR, e]
  · simp only [hitR, e0', e1, e2, e3, h1, h2, BEq.rfl, Bool.not_false, Bool.true_and]
    rcases h3 with h | h
    · simp [h]
    · simp [h]

theorem Ord_pop1 {n : Int} {s s' : St} {r1 r2 : List Pk} (O : Ord n s r1 r2) (hq : s.q1 ≠ []) (h1 : s'.q1 = s.q1.tail) (h2 : s'.q2 = s.q2) : Ord n s' r1.tail r2 := by
  obtain ⟨_, _, _, _, ht, _⟩ := kf_hd O.k1 hq
  exact ⟨by rw [h1]; exact ht, by rw [h2]; exact O.k2, fun a ha => O.sep a (List.mem_of_mem_tail ha), fun a ha => O.b1 a (List.mem_of_mem_tail ha), O.b2, O.c2⟩

theorem Ord_pop2 {n : Int} {s s' : St} {r1 r2 : List Pk} (O : Ord n s r1 r2) (hq : s.q2 ≠ []) (h1 : s'.q1 = s.q1) (h2 : s'.q2 = s.q2.tail) : Ord n s' r1 r2.tail := by
  obtain ⟨_, _, _, _, ht, _⟩ := kf_hd O.k2 hq
  exact ⟨by rw [h1]; exact O.k1, by rw [h2]; exact ht, fun a ha b hb => O.sep a ha b (List.mem_of_mem_tail hb), O.b1, fun a ha => O.b2 a (List.mem_of_mem_tail ha), fun a ha => O.c2 a (List.mem_of_mem_tail ha)⟩

theorem Ord.mono {n : Int} {s s' : St} {r1 r2 : List Pk} (O : Ord n s r1 r2) (h1 : s'.q1 = s.q1) (h2 : s'.q2 = s.q2) : Ord (n + 1) s' r1 r2 :=
  ⟨by rw [h1]; exact O.k1, by rw [h2]; exact O.k2, O.sep, fun a ha => by have := O.b1 a ha; omega, fun a ha => by have := O.b2 a ha; omega, O.c2⟩

theorem Ord_put1 {n : Int} {s s' : St} {r1 r2 : List Pk} (O : Ord n s r1 r2) (p : Pk) (now : Int) (hs : p.2.1 = n) (h1 : s'.q1 = s.q1 ++ [putP now p]) (h2 : s'.q2 = s.q2) : Ord (n + 1) s' (r1 ++ [p]) r2 := by
  refine ⟨?_, by rw [h2]; exact O.k2, ?_, ?_, fun a ha => by have := O.b2 a ha; omega, O.c2⟩
  · rw [h1, List.map_append, List.map_append, O.k1]; rfl
  · intro a ha b hb
    rcases List.mem_append.1 ha with ha | ha
    · exact O.sep a ha b hb
    · obtain rfl := List.mem_singleton.1 ha
      have := O.b2 b hb; omega
  · intro a ha
    rcases List.mem_append.1 ha with ha | ha
    · have := O.b1 a ha; omega
    · obtain rfl := List.mem_singleton.1 ha; omega

theorem Ord_put2 {n : Int} {s s' : St} {r1 r2 : List Pk} (O : Ord n s r1 r2) (p : Pk) (now : Int) (hs : p.2.1 = n) (hc : p.2.2.2.1 = 0 ∨ p.2.2.2.1 = 2) (h1 : s'.q1 = s.q1) (h2 : s'.q2 = s.q2 ++ [putP now p]) : Ord (n + 1) s' r1 (r2 ++ [p]) := by
  refine ⟨by rw [h1]; exact O.k1, ?_, ?_, fun a ha => by have := O.b1 a ha; omega, ?_, ?_⟩
  · rw [h2, List.map_append, List.map_append, O.k2]; rfl
  · intro a ha b hb
    rcases List.mem_append.1 hb with hb | hb
    · exact O.sep a ha b hb
    · obtain rfl := List.mem_singleton.1 hb
      have := O.b1 a ha; omega
  · intro a ha
    rcases List.mem_append.1 ha with ha | ha
    · have := O.b2 a ha; omega
    · obtain rfl := List.mem_singleton.1 ha; omega
  · intro a ha
    rcases List.mem_append.1 ha with ha | ha
    · exact O.c2 a ha
    · obtain rfl := List.mem_singleton.1 ha; exact hc

theorem j1_code (D : List Int) (now : Int) (s : St) : (j1 D now s).2.1 = (hd s.q1).2.2.2.1 ∨ (j1 D now s).2.1 = 3 := by
  unfold j1 judge
  rw [if_neg (by omega)]
  split
  · split
    · exact .inl rfl
    · split
      · exact .inr rfl
      · exact .inl rfl
  · split
    · exact .inr rfl
    · exact .inl rfl

theorem j2_code (D : List Int) (now : Int) (s : St) (h : (j2 D now s).2.2 = false) : (j2 D now s).2.1 = (hd s.q2).2.2.2.1 ∨ ((j2 D now s).2.1 = 3 ∧ ((hd s.q2).2.2.2.1 = 1 ∨ (hd s.q2).2.2.2.1 = 2 ∨ (hd s.q2).2.2.2.1 = 3)) := by
  unfold j2 judge at h ⊢
  rw [if_pos rfl] at h ⊢
  split
  · rename_i hd'
    rw [if_pos hd'] at h
    unfold mk3 at h ⊢
    split
    · rename_i hc; exact .inr ⟨rfl, hc⟩
    · rename_i hc; rw [if_neg hc] at h; simp at h
  · exact .inl rfl

theorem legal_eq (N : Nat) {a b : Int} (ha : 0 ≤ a ∧ a ≤ 3) (h : b = a ∨ (b = 3 ∧ a ≠ 0)) : W.leatref09_Legal N a b = some true := by
  have : a = 0 ∨ a = 1 ∨ a = 2 ∨ a = 3 := by omega
  rcases h with rfl | ⟨rfl, h⟩
  · rcases this with rfl | rfl | rfl | rfl <;> rfl
  · rcases this with rfl | rfl | rfl | rfl
    · exact absurd rfl h
    · rfl
    · rfl
    · rfl

end Go.Proofs.Yteidghhjccohdaa.Pure
