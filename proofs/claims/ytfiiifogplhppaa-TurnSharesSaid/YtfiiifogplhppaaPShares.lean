/- What the law of the shares computes is true: what the low queue was ahead never goes beyond sixteen greatest packets. -/
import Derived.Test.YtfiiifogplhppaaPTurn
namespace Go.Proofs.Ytfiiifogplhppaa.Pure
open Go.Ev Go.RowKit
/-- Which goes next. -/
theorem f20_pick (N : Nat) {a p q : Int} (ha : 0 ≤ a ∧ a ≤ 1048575) (hp : 0 ≤ p ∧ p ≤ 65535) (hq : 1 ≤ q ∧ q ≤ 65536) :
    W.f20 N a p q = some (if p ≠ 0 ∧ a < 15 * q then 1 else 2) := by
  have e1 : cl p 0 65536 = p := by simp only [cl]; omega
  have e2 : cl q 0 65536 = q := by simp only [cl]; omega
  have e3 : cl a 0 1099511627776 = a := by simp only [cl]; omega
  simp only [W.f20, f48_eq, f49_eq, Option.bind_some, e1, e2, e3]
  rw [wrapI64 (by omega) (by omega)]
  by_cases h0 : p = 0
  · subst h0
    rw [if_neg (by simp)]
    have : (q == 0) = false := by simp; omega
    simp [this]
  · have e0 : (p == 0) = false := by simpa using h0
    rw [e0, decide_eq_true (show (0 : Int) < q by omega)]
    by_cases h1 : 15 * q ≤ a
    · rw [decide_eq_true h1, if_neg (by omega)]; rfl
    · rw [decide_eq_false h1, if_pos ⟨h0, by omega⟩]; rfl
theorem f22_low (N : Nat) {a p : Int} (ha : 0 ≤ a ∧ a ≤ 1048575) (hp : 0 ≤ p ∧ p ≤ 65536) : W.f22 N a 1 p true = some (a + p) := by
  have e1 : cl p 0 65536 = p := by simp only [cl]; omega
  have e3 : cl a 0 1099511627776 = a := by simp only [cl]; omega
  simp only [W.f22, f48_eq, f49_eq, Option.bind_some, e1, e3]
  rw [wrapI64 (by omega) (by omega), if_neg (by omega)]
  rfl
theorem f22_old (N : Nat) {a p : Int} (ha : 0 ≤ a ∧ a ≤ 1048575) (hp : 0 ≤ p ∧ p ≤ 65536) : W.f22 N a 2 p true = some (max 0 (a - 15 * p)) := by
  have e1 : cl p 0 65536 = p := by simp only [cl]; omega
  have e3 : cl a 0 1099511627776 = a := by simp only [cl]; omega
  simp only [W.f22, f48_eq, f49_eq, Option.bind_some, e1, e3]
  rw [wrapI64 (x := 15 * p) (by omega) (by omega), wrapI64 (x := a - 15 * p) (by omega) (by omega)]
  have : (if 0 > a - 15 * p then 0 else a - 15 * p) = max 0 (a - 15 * p) := by split <;> omega
  rw [this]
  rfl
/-- What is owed never goes beyond its ends, step by step. -/
def Owed (n : Nat) (low old : List Int) (T : Nat → Int) : Prop :=
  low.length = n ∧ old.length = n ∧ (∀ k, 0 ≤ T k ∧ T k ≤ 1048575) ∧ ∀ k, k < n → T k + low.getD k 0 ≤ T (k + 1) + 15 * old.getD k 0 ∧ 0 ≤ low.getD k 0 ∧ low.getD k 0 ≤ 65536 ∧ 0 ≤ old.getD k 0 ∧ old.getD k 0 ≤ 65536
theorem Owed.step {n : Nat} {low old : List Int} {T : Nat → Int} (h : Owed n low old T) {p q t : Int} (hp : 0 ≤ p ∧ p ≤ 65536) (hq : 0 ≤ q ∧ q ≤ 65536) (ht : 0 ≤ t ∧ t ≤ 1048575) (hs : T n + p ≤ t + 15 * q) :
    Owed (n + 1) (low ++ [p]) (old ++ [q]) (fun k => if k ≤ n then T k else t) := by
  obtain ⟨h1, h2, h3, h4⟩ := h
  refine ⟨by simp [h1], by simp [h2], fun k => ?_, fun k hk => ?_⟩
  · simp only []
    split
    · exact h3 k
    · exact ht
  · by_cases hkn : k < n
    · have e1 : (low ++ [p]).getD k 0 = low.getD k 0 := by simp [List.getD, List.getElem?_append_left (show k < low.length by omega)]
      have e2 : (old ++ [q]).getD k 0 = old.getD k 0 := by simp [List.getD, List.getElem?_append_left (show k < old.length by omega)]
      dsimp only
      rw [e1, e2, if_pos (show k ≤ n by omega), if_pos (show k + 1 ≤ n by omega)]
      exact h4 k hkn
    · obtain rfl : k = n := by omega
      have e1 : (low ++ [p]).getD k 0 = p := by simp [List.getD, ← h1]
      have e2 : (old ++ [q]).getD k 0 = q := by simp [List.getD, ← h2]
      dsimp only
      rw [e1, e2, if_pos (Nat.le_refl k), if_neg (show ¬ k + 1 ≤ k by omega)]
      omega
/-- The sums from one place on. -/
theorem sums {N n : Nat} {low old : List Int} {T : Nat → Int} (h : Owed n low old T) (hn : n ≤ 120) (hN : 130 ≤ N) (i : Nat) (hi : i ≤ n) :
    iter (W.L6_28 N) N ((0, (0, ((i : Int), ((n : Int), ((i : Int), ()))))), (low, (old, ()))) = some (.inr (((n : Int), ((i : Int), ())), (low, (old, ())))) := by
  obtain ⟨h1, h2, h3, h4⟩ := h
  obtain ⟨y, hy, he⟩ := iter_done (round := W.L6_28 N) (fun x => ∃ (k : Nat) (a b : Int), x = ((a, (b, ((k : Int), ((n : Int), ((i : Int), ()))))), (low, (old, ()))) ∧ i ≤ k ∧ k ≤ n ∧ 0 ≤ a ∧ a ≤ 65536 * k ∧ 0 ≤ b ∧ b ≤ 65536 * k ∧ a + T i ≤ 15 * b + T k) (fun x => 121 - x.1.2.2.1.toNat)
    (fun y => y = .inr (((n : Int), ((i : Int), ())), (low, (old, ())))) (by
      rintro F x ⟨k, a, b, rfl, hik, hkn, ha0, ha1, hb0, hb1, hab⟩
      have hi3 := h3 i
      by_cases hlt : k < n
      · left
        obtain ⟨h5, h6, h7, h8, h9⟩ := h4 k hlt
        have hk3 := h3 (k + 1)
        refine ⟨((a + low.getD k 0, (b + old.getD k 0, (((k + 1 : Nat) : Int), ((n : Int), ((i : Int), ()))))), (low, (old, ()))), ⟨k + 1, _, _, rfl, by omega, by omega, by omega, by omega, by omega, by omega, by omega⟩, by simp; omega, ?_⟩
        have q1 : ((k : Int) < (n : Int)) = True := eq_true (by omega)
        have q2 : ((0 : Int) ≤ (k : Int)) = True := eq_true (by omega)
        have w1 := wrapI64 (x := b + old.getD k 0) (by omega) (by omega)
        have w2 := wrapI64 (x := a + low.getD k 0) (by omega) (by omega)
        have w3 := wrapI64 (x := 16 * (b + old.getD k 0)) (by omega) (by omega)
        have w4 := wrapI64 (x := 16 * (b + old.getD k 0) + 1048576) (by omega) (by omega)
        have w5 := wrapI64 (x := a + low.getD k 0 + (b + old.getD k 0)) (by omega) (by omega)
        have w6 := wrapI64 (x := (k : Int) + 1) (by omega) (by omega)
        have q3 : (16 * (b + old.getD k 0) + 1048576 < a + low.getD k 0 + (b + old.getD k 0)) = False := eq_false (by omega)
        simp only [W.L6_28, h1, h2, Int.toNat_natCast, q1, q2, w1, w2, w3, w4, w5, w6, q3, decide_true, decide_false, Bool.and_self, cond_true, cond_false]
        rfl
      · right
        refine ⟨_, rfl, ?_⟩
        simp only [W.L6_28, h1]
        rw [decide_eq_false (show ¬ (k : Int) < (n : Int) by omega)]
        rfl) N _ ⟨i, 0, 0, rfl, Nat.le_refl i, hi, by omega, by omega, by omega, by omega, by omega⟩ (by simp; omega)
  rw [he, hy]
theorem all_sums {N n : Nat} {low old : List Int} {T : Nat → Int} (h : Owed n low old T) (hn : n ≤ 120) (hN : 130 ≤ N) :
    iter (W.L6_24 N) N (((n : Int), (0, ())), (low, (old, ()))) = some (.inr ((), ())) := by
  obtain ⟨y, hy, he⟩ := iter_done (round := W.L6_24 N) (fun x => ∃ i : Nat, x = (((n : Int), ((i : Int), ())), (low, (old, ()))) ∧ i ≤ n) (fun x => 121 - x.1.2.1.toNat)
    (fun y => y = .inr ((), ())) (by
      rintro F x ⟨i, rfl, hi⟩
      by_cases hlt : i < n
      · left
        have q1 : ((i : Int) < (n : Int)) = True := eq_true (by omega)
        have w6 := wrapI64 (x := (i : Int) + 1) (by omega) (by omega)
        refine ⟨(((n : Int), (((i + 1 : Nat) : Int), ())), (low, (old, ()))), ⟨i + 1, rfl, by omega⟩, by simp; omega, ?_⟩
        simp only [W.L6_24, q1, decide_true, cond_true, sums h hn hN i hi, Option.bind_some, w6]
        rfl
      · right
        have q1 : ((i : Int) < (n : Int)) = False := eq_false (by omega)
        exact ⟨_, rfl, by simp only [W.L6_24, q1, decide_false, cond_false]⟩) N _ ⟨0, rfl, by omega⟩ (by simp; omega)
  exact he.trans (by rw [hy])
theorem ex24b : W.f24 130 = some true := by kernel_rfl
theorem builds {l : List (Int × Int)} {cs : List Int} (hl : ∀ x, x ∈ l → 0 ≤ x.1 ∧ x.1 ≤ 65535 ∧ 0 ≤ x.2 ∧ x.2 ≤ 65535) (hc : ∀ x, x ∈ cs → 0 ≤ x ∧ x ≤ 65535) :
    ∃ (n : Nat) (low old : List Int) (T : Nat → Int), n ≤ 120 ∧ Owed n low old T ∧
      iter (W.L6_5 130) 130 ((0, (0, ())), (l, (cs, ((0, ()), (([] : List Int), (([] : List Int), ())))))) = some (.inr ((), (low, (old, ())))) := by
  obtain ⟨y, ⟨n, low, old, T, hn, ho, rfl⟩, he⟩ := iter_done (round := W.L6_5 130) (fun x => ∃ (n at_ : Nat) (t : Int) (low old : List Int) (T : Nat → Int), x = (((at_ : Int), ((n : Int), ())), (l, (cs, ((t, ()), (low, (old, ())))))) ∧ n ≤ 120 ∧ at_ ≤ n ∧ T n = t ∧ Owed n low old T)
    (fun x => 121 - x.1.2.1.toNat) (fun y => ∃ (n : Nat) (low old : List Int) (T : Nat → Int), n ≤ 120 ∧ Owed n low old T ∧ y = .inr ((), (low, (old, ())))) (by
      rintro F x ⟨n, at_, t, low, old, T, rfl, hn, hat, rfl, ho⟩
      by_cases h1 : n < l.length
      · by_cases h2 : n < 120
        · left
          have q1 : ((n : Int) < (l.length : Int)) = True := eq_true (by omega)
          have q2 : ((n : Int) < (120 : Int)) = True := eq_true (by omega)
          have q3 : ((0 : Int) ≤ (n : Int)) = True := eq_true (by omega)
          have q4 : ((0 : Int) ≤ (at_ : Int)) = True := eq_true (by omega)
          have hx : (l.getD n (0, 0)) ∈ l := by
            have : l.getD n (0, 0) = l[n] := by simp [List.getD, h1]
            rw [this]; exact List.getElem_mem h1
          have hx := hl _ hx
          have hm : 0 ≤ Int.tmod (l.getD n (0, 0)).2 2 ∧ Int.tmod (l.getD n (0, 0)).2 2 ≤ 1 := by
            rw [Int.tmod_eq_emod_of_nonneg (by omega)]; omega
          have hw1 := wrapI64 (x := (l.getD n (0, 0)).1) (by omega) (by omega)
          have hw2 := wrapI64 (x := Int.tmod (l.getD n (0, 0)).2 2) (by omega) (by omega)
          have hpr : 0 ≤ (l.getD n (0, 0)).1 * Int.tmod (l.getD n (0, 0)).2 2 ∧ (l.getD n (0, 0)).1 * Int.tmod (l.getD n (0, 0)).2 2 ≤ 65535 := by
            have : Int.tmod (l.getD n (0, 0)).2 2 = 0 ∨ Int.tmod (l.getD n (0, 0)).2 2 = 1 := by omega
            rcases this with e | e <;> rw [e] <;> omega
          have hw3 := wrapI64 (x := (l.getD n (0, 0)).1 * Int.tmod (l.getD n (0, 0)).2 2) (by omega) (by omega)
          have wn := wrapI64 (x := (n : Int) + 1) (by omega) (by omega)
          have wa_ := wrapI64 (x := (at_ : Int) + 1) (by omega) (by omega)
          have hT := ho.2.2.1 n
          have hlo := ho.1
          have hol := ho.2.1
          have q5 : ∀ z : Int, ((((low.length + [z].length) * 8 : Nat)) ≤ 140737488355328) = True := fun z => eq_true (by simp [hlo]; omega)
          have q6 : ∀ z : Int, ((((old.length + [z].length) * 8 : Nat)) ≤ 140737488355328) = True := fun z => eq_true (by simp [hol]; omega)
          generalize hp : (l.getD n (0, 0)).1 * Int.tmod (l.getD n (0, 0)).2 2 = p at hpr hw3
          have main : ∀ c : Int, 1 ≤ c ∧ c ≤ 65536 → ∃ (w : Int) (t' : Int) (a b : Int) (at' : Nat), W.f20 130 (T n) p c = some w ∧ at' ≤ n + 1 ∧ ((w = 1 ∧ p ≠ 0 ∧ a = p ∧ b = 0 ∧ at' = at_ ∧ W.f22 130 (T n) 1 p true = some t') ∨ (w = 2 ∧ a = 0 ∧ b = c ∧ at' = at_ + 1 ∧ W.f22 130 (T n) 2 c true = some t')) ∧ Owed (n + 1) (low ++ [a]) (old ++ [b]) (fun k => if k ≤ n then T k else t') := by
            intro c hc1
            rw [f20_pick 130 hT hpr hc1]
            by_cases hpick : p ≠ 0 ∧ T n < 15 * c
            · exact ⟨1, T n + p, p, 0, at_, by rw [if_pos hpick], by omega, .inl ⟨rfl, hpick.1, rfl, rfl, rfl, f22_low 130 hT (by omega)⟩, ho.step (by omega) (by omega) (by omega) (by omega)⟩
            · exact ⟨2, max 0 (T n - 15 * c), 0, c, at_ + 1, by rw [if_neg hpick], by omega, .inr ⟨rfl, rfl, rfl, rfl, f22_old 130 hT (by omega)⟩, ho.step (by omega) (by omega) (by omega) (by omega)⟩
          by_cases h3 : at_ < cs.length
          · have q7 : ((at_ : Int) < (cs.length : Int)) = True := eq_true (by omega)
            have hcx : (cs.getD at_ 0) ∈ cs := by
              have : cs.getD at_ 0 = cs[at_] := by simp [List.getD, h3]
              rw [this]; exact List.getElem_mem h3
            have hcx := hc _ hcx
            have hw4 := wrapI64 (x := cs.getD at_ 0) (by omega) (by omega)
            have hw5 := wrapI64 (x := cs.getD at_ 0 + 1) (by omega) (by omega)
            obtain ⟨w, t', a, b, at', e1, e2, e3, e4⟩ := main (cs.getD at_ 0 + 1) (by omega)
            refine ⟨(((at' : Int), (((n + 1 : Nat) : Int), ())), (l, (cs, ((t', ()), (low ++ [a], (old ++ [b], ())))))), ⟨n + 1, at', t', _, _, _, rfl, by omega, e2, if_neg (by omega), e4⟩, by simp; omega, ?_⟩
            rcases e3 with ⟨rfl, hp0, rfl, rfl, rfl, e5⟩ | ⟨rfl, rfl, rfl, rfl, e5⟩
            · have hp0' : (a == 0) = false := by simpa using hp0
              simp only [W.L6_5, q1, q2, q3, q4, q5, q6, q7, Int.toNat_natCast, hw1, hw2, hp, hw3, hw4, hw5, wn, e1, e5, hp0', decide_true, beq_self_eq_true, Bool.and_self, cond_true, cond_false, Option.bind_some]
              rfl
            · have h21 : ((2 : Int) == 1) = false := rfl
              simp only [W.L6_5, q1, q2, q3, q4, q5, q6, q7, Int.toNat_natCast, hw1, hw2, hp, hw3, hw4, hw5, wn, wa_, e1, e5, h21, decide_true, beq_self_eq_true, Bool.and_self, cond_true, cond_false, Option.bind_some]
              rfl
          · have q7 : ((at_ : Int) < (cs.length : Int)) = False := eq_false (by omega)
            obtain ⟨w, t', a, b, at', e1, e2, e3, e4⟩ := main 1500 (by omega)
            refine ⟨(((at' : Int), (((n + 1 : Nat) : Int), ())), (l, (cs, ((t', ()), (low ++ [a], (old ++ [b], ())))))), ⟨n + 1, at', t', _, _, _, rfl, by omega, e2, if_neg (by omega), e4⟩, by simp; omega, ?_⟩
            rcases e3 with ⟨rfl, hp0, rfl, rfl, rfl, e5⟩ | ⟨rfl, rfl, rfl, rfl, e5⟩
            · have hp0' : (a == 0) = false := by simpa using hp0
              simp only [W.L6_5, q1, q2, q3, q4, q5, q6, q7, Int.toNat_natCast, hw1, hw2, hp, hw3, wn, e1, e5, hp0', decide_true, decide_false, beq_self_eq_true, Bool.and_self, cond_true, cond_false, Option.bind_some]
              rfl
            · have h21 : ((2 : Int) == 1) = false := rfl
              simp only [W.L6_5, q1, q2, q3, q4, q5, q6, q7, Int.toNat_natCast, hw1, hw2, hp, hw3, wn, wa_, e1, e5, h21, decide_true, decide_false, beq_self_eq_true, Bool.and_self, cond_true, cond_false, Option.bind_some]
              rfl
        · right
          have q1 : ((n : Int) < (l.length : Int)) = True := eq_true (by omega)
          have q2 : ((n : Int) < (120 : Int)) = False := eq_false (by omega)
          exact ⟨_, ⟨n, low, old, T, hn, ho, rfl⟩, by simp only [W.L6_5, q1, q2, decide_true, decide_false, beq_self_eq_true, cond_true, cond_false]⟩
      · right
        have q1 : ((n : Int) < (l.length : Int)) = False := eq_false (by omega)
        refine ⟨_, ⟨n, low, old, T, hn, ho, rfl⟩, ?_⟩
        simp only [W.L6_5, q1, decide_false]
        rfl) 130 _ ⟨0, 0, 0, [], [], fun _ => 0, rfl, by omega, by omega, rfl, rfl, rfl, fun k => by simp, fun k hk => absurd hk (by omega)⟩ (by simp)
  exact ⟨n, low, old, T, hn, ho, he⟩
theorem u16_range {x : Int} (h : SK.wf (.int .u16) x) : 0 ≤ x ∧ x ≤ 65535 := by
  simp only [SK.wf, IntKind.min, IntKind.max, IntKind.signed, IntKind.bits] at h
  simp at h
  omega
theorem shares {l : List (Int × Int)} {cs : List Int} (hl : ∀ x, x ∈ l → 0 ≤ x.1 ∧ x.1 ≤ 65535 ∧ 0 ≤ x.2 ∧ x.2 ≤ 65535) (hc : ∀ x, x ∈ cs → 0 ≤ x ∧ x ≤ 65535) : W.f6 130 l cs = some true := by
  obtain ⟨n, low, old, T, hn, ho, he⟩ := builds hl hc
  simp only [W.f6, he, Option.bind_some, ho.1, all_sums ho hn (Nat.le_refl 130), ex24b]
theorem TurnShares (x : RT [.row 43 [.int .u16, .int .u16], .row 42 [.int .u16]]) (h : RT.wf [.row 43 [.int .u16, .int .u16], .row 42 [.int .u16]] x) : ∃ N, uncR [.row 43 [.int .u16, .int .u16], .row 42 [.int .u16]] (W.f6 N) x = some true :=
  ⟨130, shares (l := x.1) (cs := x.2) (fun z hz => ⟨(u16_range (h.1.2 z hz).1).1, (u16_range (h.1.2 z hz).1).2, (u16_range (h.1.2 z hz).2).1, (u16_range (h.1.2 z hz).2).2⟩) (fun z hz => u16_range (h.2.2 z hz))⟩
end Go.Proofs.Ytfiiifogplhppaa.Pure
