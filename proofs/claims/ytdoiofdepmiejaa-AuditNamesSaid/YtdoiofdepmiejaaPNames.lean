/- The names of flaws, and the flaw that comes most often: the plain law. -/
import Derived.Test.YtdoiofdepmiejaaPBase
import Derived.Test.YtdoiofdepmiejaaW0
namespace Go.Proofs.Ytdoiofdepmiejaa.Pure
open Go.Ev Go.RowKit

theorem names_eq (N : Nat) (a : Int) : ∃ s, W.audit_Name N a = some s ∧ W.leatref51_Name N a = some s := by
  by_cases h0 : a < 0
  · refine ⟨ByteArray.empty, ?_, ?_⟩
    · simp [W.audit_Name, W.audit_names, h0]
    · have h1 : a < 1 := by omega
      simp [W.leatref51_Name, h1]
  · by_cases h12 : 12 ≤ a
    · refine ⟨ByteArray.empty, ?_, ?_⟩
      · simp [W.audit_Name, W.audit_names, h0, h12]
      · have h1 : ¬ a < 1 := by omega
        have h2 : 11 < a := by omega
        simp [W.leatref51_Name, h1, h2]
    · have hc : a = 0 ∨ a = 1 ∨ a = 2 ∨ a = 3 ∨ a = 4 ∨ a = 5 ∨ a = 6 ∨ a = 7 ∨ a = 8 ∨ a = 9 ∨ a = 10 ∨ a = 11 := by omega
      rcases hc with rfl | rfl | rfl | rfl | rfl | rfl | rfl | rfl | rfl | rfl | rfl | rfl <;> exact ⟨_, rfl, rfl⟩

/-- One comes more often than another, or as often and is not above it. -/
def bet (l : List Int) (x y : Int) : Prop := cntK y l < cntK x l ∨ (cntK x l = cntK y l ∧ x ≤ y)
theorem bet_refl (l : List Int) (x : Int) : bet l x x := .inr ⟨rfl, Int.le_refl _⟩
theorem bet_trans {l : List Int} {x y z : Int} (h : bet l x y) (k : bet l y z) : bet l x z := by
  unfold bet at *
  omega
theorem bet_anti {l : List Int} {x y : Int} (h : bet l x y) (k : bet l y x) : x = y := by
  unfold bet at *
  omega
theorem step_bet (l : List Int) (b k : Int) : bet l (mostStep l b k) b ∧ bet l (mostStep l b k) k ∧ (mostStep l b k = b ∨ mostStep l b k = k) := by
  unfold mostStep
  split
  · rename_i h
    refine ⟨?_, bet_refl l k, .inr rfl⟩
    unfold bet
    omega
  · rename_i h
    refine ⟨bet_refl l b, ?_, .inl rfl⟩
    unfold bet
    omega

theorem fold_bet (l : List Int) : ∀ (p : List Int) (b : Int), bet l (p.foldl (mostStep l) b) b ∧ (∀ k ∈ p, bet l (p.foldl (mostStep l) b) k) ∧ (p.foldl (mostStep l) b = b ∨ p.foldl (mostStep l) b ∈ p)
  | [], b => ⟨bet_refl l b, fun k hk => by simp at hk, .inl rfl⟩
  | x :: p, b => by
    obtain ⟨h1, h2, h3⟩ := fold_bet l p (mostStep l b x)
    obtain ⟨g1, g2, g3⟩ := step_bet l b x
    rw [List.foldl_cons]
    refine ⟨bet_trans h1 g1, fun k hk => ?_, ?_⟩
    · rcases List.mem_cons.1 hk with rfl | hk
      · exact bet_trans h1 g2
      · exact h2 k hk
    · rcases h3 with h3 | h3
      · rw [h3]
        rcases g3 with g3 | g3
        · exact .inl g3
        · rw [g3]; exact .inr (by simp)
      · exact .inr (by simp [h3])

theorem cnt_mem {l : List Int} {x : Int} (h : x ∈ l) : 1 ≤ cntK x l := by
  have := List.count_pos_iff.2 h
  unfold cntK
  omega
theorem cnt_not {l : List Int} {x : Int} (h : ¬ x ∈ l) : cntK x l = 0 := by
  unfold cntK
  rw [List.count_eq_zero.2 h]; rfl

/-- The document's way begins at the first one. -/
theorem most_first (x : Int) (t : List Int) : mostL (x :: t) = t.foldl (mostStep (x :: t)) x := by
  obtain ⟨l, hl⟩ : ∃ l, l = x :: t := ⟨_, rfl⟩
  have hx : x ∈ l := by rw [hl]; simp
  have ht : ∀ k ∈ t, k ∈ l := fun k hk => by rw [hl]; simp [hk]
  unfold mostL
  rw [← hl]
  obtain ⟨a1, a2, a3⟩ := fold_bet l l 0
  obtain ⟨b1, b2, b3⟩ := fold_bet l t x
  generalize l.foldl (mostStep l) 0 = r at a1 a2 a3 ⊢
  generalize t.foldl (mostStep l) x = q at b1 b2 b3 ⊢
  have hq : q ∈ l := by
    rcases b3 with b3 | b3
    · rw [b3]; exact hx
    · exact ht q b3
  have hr : r ∈ l := by
    rcases a3 with a3 | a3
    · by_cases h0 : r ∈ l
      · exact h0
      · have c1 := cnt_not h0
        have c2 := cnt_mem hx
        have c3 := a2 x hx
        unfold bet at c3
        omega
    · exact a3
  refine bet_anti (a2 q hq) ?_
  rw [hl] at hr
  rcases List.mem_cons.1 hr with rfl | hr
  · exact b1
  · exact b2 r hr

theorem getD_at {α : Type} (xs : List α) (d : α) {i : Nat} (h : i < xs.length) : xs.getD i d = xs[i] := by
  simp [List.getD, List.getElem?_eq_getElem h]
theorem i_up {i : Nat} (h : i < 1000) : IntKind.wrap .i64 ((i : Int) + 1) = ((i + 1 : Nat) : Int) := by
  rw [wrapI64 (by omega) (by omega)]; rfl
theorem take_up {α : Type} (xs : List α) {i : Nat} (h : i < xs.length) : xs.take (i + 1) = xs.take i ++ [xs[i]] := by
  rw [List.take_add_one, List.getElem?_eq_getElem h]; rfl
theorem cnt_app (x y : Int) (l : List Int) : cntK x (l ++ [y]) = cntK x l + if y == x then 1 else 0 := by
  unfold cntK
  rw [List.count_append, List.count_singleton]
  split <;> omega
theorem cnt_b (x : Int) (l : List Int) (h : l.length < 1000) : 0 ≤ cntK x l ∧ cntK x l < 1000 := by
  have := List.count_le_length (a := x) (l := l)
  unfold cntK
  omega

theorem L7_loop (N : Nat) (hN : 1000 < N) (l : List (Int × Int)) (hl : l.length < 1000) (best many : Int) (i : Nat) (hi : i < l.length) :
    iter (W.leatref51_Most_L7 N) N ((best, (many, ((i : Int), (0, (0, ()))))), (l, ())) = some ((best, (many, ((i : Int), (cntK l[i].1 (l.map (·.1)), ())))), (l, ())) := by
  have h := iter_some (round := W.leatref51_Most_L7 N) (fun x => ∃ j : Nat, j ≤ l.length ∧ x = ((best, (many, ((i : Int), (cntK l[i].1 ((l.take j).map (·.1)), ((j : Int), ()))))), (l, ()))) (fun x => l.length - x.1.2.2.2.2.1.toNat) ((best, (many, ((i : Int), (cntK l[i].1 (l.map (·.1)), ())))), (l, ())) (by
    rintro F _ ⟨j, hj, rfl⟩
    by_cases hlt : j < l.length
    · left
      refine ⟨((best, (many, ((i : Int), (cntK l[i].1 ((l.take (j + 1)).map (·.1)), (((j + 1 : Nat) : Int), ()))))), (l, ())), ⟨j + 1, hlt, rfl⟩, by simp only [Int.toNat_natCast]; omega, ?_⟩
      have d1 : decide ((0 : Int) ≤ (j : Int)) = true := by simp
      have d2 : decide ((j : Int) < ((l.length : Nat) : Int)) = true := by simpa using hlt
      have d3 : decide ((0 : Int) ≤ (i : Int)) = true := by simp
      have d4 : decide ((i : Int) < ((l.length : Nat) : Int)) = true := by simpa using hi
      have hb := cnt_b l[i].1 ((l.take j).map (·.1)) (by simp; omega)
      simp only [W.leatref51_Most_L7, d1, d2, d3, d4, Bool.and_self, cond_true, Int.toNat_natCast, i_up (show j < 1000 by omega), getD_at l ((0, 0) : Int × Int) hlt, getD_at l ((0, 0) : Int × Int) hi]
      rw [take_up l hlt, List.map_append, List.map_cons, List.map_nil, cnt_app]
      by_cases c1 : l[j].1 = l[i].1
      · rw [c1]
        simp only [beq_self_eq_true, cond_true, if_true]
        rw [wrapI64 (by omega) (by omega)]
      · simp [beq_false_of_ne c1]
    · right
      have : j = l.length := by omega
      subst this
      simp [W.leatref51_Most_L7]) N ((best, (many, ((i : Int), (0, (0, ()))))), (l, ())) ⟨0, by omega, by simp [cntK]⟩ (by simp; omega)
  exact h

/-- What the document's loop holds behind the first i. -/
def rB (l : List (Int × Int)) : Nat → Int × Int
  | 0 => (0, 0)
  | i + 1 => let k := (l.map (·.1)).getD i 0
    if cntK k (l.map (·.1)) > (rB l i).2 ∨ cntK k (l.map (·.1)) = (rB l i).2 ∧ k < (rB l i).1 then (k, cntK k (l.map (·.1))) else rB l i

theorem L3_loop (N : Nat) (hN : 1000 < N) (l : List (Int × Int)) (hl : l.length < 1000) : W.leatref51_Most N l = some (rB l l.length).1 := by
  have h := iter_some (round := W.leatref51_Most_L3 N) (fun x => ∃ i : Nat, i ≤ l.length ∧ x = (((rB l i).1, ((rB l i).2, ((i : Int), ()))), (l, ()))) (fun x => l.length - x.1.2.2.1.toNat) (((rB l l.length).1, ()), ()) (by
    rintro F _ ⟨i, hi, rfl⟩
    by_cases hlt : i < l.length
    · left
      refine ⟨(((rB l (i + 1)).1, ((rB l (i + 1)).2, (((i + 1 : Nat) : Int), ()))), (l, ())), ⟨i + 1, hlt, rfl⟩, by simp only [Int.toNat_natCast]; omega, ?_⟩
      have d1 : decide ((0 : Int) ≤ (i : Int)) = true := by simp
      have d2 : decide ((i : Int) < ((l.length : Nat) : Int)) = true := by simpa using hlt
      have hk : (l.map (·.1)).getD i 0 = l[i].1 := by simp [List.getD, hlt]
      simp only [W.leatref51_Most_L3, d1, d2, Bool.and_self, cond_true, L7_loop N hN l hl _ _ i hlt, Option.bind_some, Int.toNat_natCast, i_up (show i < 1000 by omega), getD_at l ((0, 0) : Int × Int) hlt, rB, hk]
      by_cases c1 : (rB l i).2 < cntK l[i].1 (l.map (·.1))
      · simp only [decide_eq_true c1, cond_false, if_pos (show cntK l[i].1 (l.map (·.1)) > (rB l i).2 ∨ cntK l[i].1 (l.map (·.1)) = (rB l i).2 ∧ l[i].1 < (rB l i).1 from .inl c1), show (true == false) = false from rfl]
      · simp only [decide_eq_false c1, beq_self_eq_true, cond_true]
        by_cases c2 : cntK l[i].1 (l.map (·.1)) = (rB l i).2
        · by_cases c3 : l[i].1 < (rB l i).1
          · rw [if_pos (show cntK l[i].1 (l.map (·.1)) > (rB l i).2 ∨ cntK l[i].1 (l.map (·.1)) = (rB l i).2 ∧ l[i].1 < (rB l i).1 from .inr ⟨c2, c3⟩)]
            simp only [c2, beq_self_eq_true, cond_true, decide_eq_true c3]
          · rw [if_neg (show ¬ (cntK l[i].1 (l.map (·.1)) > (rB l i).2 ∨ cntK l[i].1 (l.map (·.1)) = (rB l i).2 ∧ l[i].1 < (rB l i).1) from fun h => h.elim c1 fun h => c3 h.2)]
            simp only [c2, beq_self_eq_true, cond_true, decide_eq_false c3, cond_false]
        · simp only [beq_false_of_ne c2, show (false == true) = false from rfl, cond_false, if_neg (show ¬ (cntK l[i].1 (l.map (·.1)) > (rB l i).2 ∨ cntK l[i].1 (l.map (·.1)) = (rB l i).2 ∧ l[i].1 < (rB l i).1) from fun h => h.elim c1 fun h => c2 h.1)]
    · right
      have : i = l.length := by omega
      subst this
      simp [W.leatref51_Most_L3]) N ((0, (0, (0, ()))), (l, ())) ⟨0, by omega, by simp [rB]⟩ (by simp; omega)
  simp only [W.leatref51_Most, h, Option.bind_some]

theorem rB_fold (x : Int × Int) (t : List (Int × Int)) : ∀ i, i ≤ t.length → rB (x :: t) (i + 1) = (((t.take i).map (·.1)).foldl (mostStep ((x :: t).map (·.1))) x.1, cntK (((t.take i).map (·.1)).foldl (mostStep ((x :: t).map (·.1))) x.1) ((x :: t).map (·.1)))
  | 0, _ => by
    have h1 : 1 ≤ cntK x.1 ((x :: t).map (·.1)) := cnt_mem (by simp)
    have h2 : cntK x.1 ((x :: t).map (·.1)) > 0 ∨ cntK x.1 ((x :: t).map (·.1)) = 0 ∧ x.1 < 0 := .inl (by omega)
    have h3 : ((x :: t).map (·.1)).getD 0 0 = x.1 := rfl
    simp only [rB, h3, if_pos h2, List.take_zero, List.map_nil, List.foldl_nil]
  | i + 1, hi => by
    have ih := rB_fold x t i (by omega)
    have h3 : ((x :: t).map (·.1)).getD (i + 1) 0 = (t.map (·.1)).getD i 0 := rfl
    have hit : i < t.length := by omega
    have h4 : (t.map (·.1)).getD i 0 = t[i].1 := by simp [List.getD, hit]
    have h5 : (t.take (i + 1)).map (·.1) = (t.take i).map (·.1) ++ [t[i].1] := by rw [take_up t hit, List.map_append]; rfl
    rw [h5, List.foldl_append]
    conv => lhs; unfold rB
    rw [ih, h3, h4]
    simp only [List.foldl_cons, List.foldl_nil]
    generalize ((t.take i).map (·.1)).foldl (mostStep ((x :: t).map (·.1))) x.1 = b
    conv => rhs; unfold mostStep
    split
    · rfl
    · rfl

theorem refMost_eq (N : Nat) (hN : 1000 < N) (l : List (Int × Int)) (hl : l.length < 1000) : W.leatref51_Most N l = some (mostL (l.map (·.1))) := by
  rw [L3_loop N hN l hl]
  cases l with
  | nil => rfl
  | cons x t =>
    rw [List.length_cons, rB_fold x t t.length (Nat.le_refl _), List.take_of_length_le (Nat.le_refl _), List.map_cons, most_first]

theorem AuditNames (x : RT [.sc (.int .i64), .row 32 [.int .i64, .int .i64]]) (h : RT.wf _ x) : ∃ N, uncR [.sc (.int .i64), .row 32 [.int .i64, .int .i64]] (W.leatlaw51_AuditNames N) x = some true := by
  obtain ⟨a, l⟩ := x
  refine ⟨3000, ?_⟩
  show W.leatlaw51_AuditNames 3000 a l = some true
  have g1 : ∀ n : Nat, (decide ((0 : Int) ≤ imn (n : Int) 100) && decide (imn (n : Int) 100 ≤ (n : Int))) = true := by intro n; rw [imn_eq]; simp; omega
  obtain ⟨s, s1, s2⟩ := names_eq 3000 a
  have hlen : (cutL l 0 (imn ((l.length : Nat) : Int) 100)).length ≤ 100 := by simp only [cutL, imn_eq, List.length_drop, List.length_take]; omega
  have hmem : ∀ x ∈ cutL l 0 (imn ((l.length : Nat) : Int) 100), x ∈ l := fun x hx => List.mem_of_mem_take (List.mem_of_mem_drop hx)
  simp only [W.leatlaw51_AuditNames, g1, cond_true, s1, s2, Option.bind_some, beq_self_eq_true]
  generalize cutL l 0 (imn ((l.length : Nat) : Int) 100) = l' at hlen hmem ⊢
  have hw : (l'.all fun z => (Lit.int .i64 z.1).wf) = true := List.all_eq_true.2 fun z hz => by
    have h1 := h.2.2 z (hmem z hz)
    obtain ⟨lo, hi⟩ := i64_range h1.1
    simp only [Lit.wf, IntKind.min, IntKind.max, IntKind.signed, IntKind.bits, Bool.and_eq_true, decide_eq_true_eq, if_true]
    omega
  have m1 : W.audit_Most 3000 l' = some (mostL (l'.map (·.1))) := by
    show mostT l' = _
    unfold mostT
    rw [if_pos ⟨by omega, hw⟩]
  rw [m1, refMost_eq 3000 (by omega) l' (by omega)]
  simp only [Option.bind_some, beq_self_eq_true, cond_true, W.leatlaw51_works]
end Go.Proofs.Ytdoiofdepmiejaa.Pure
