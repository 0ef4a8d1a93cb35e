/- A link's plan: sizes one behind the other. -/
import Derived.Test.YtakjmminaolfnaaPLink
namespace Go.Proofs.Ytakjmminaolfnaa.Pure
open Go.Ev Go.RowKit

def lgo (x : LK) : List (Int × Int) → List (Int × Int) × LK
  | [] => ([], x)
  | a :: t => ((ltake x a.1 a.2).2 :: (lgo (ltake x a.1 a.2).1 t).1, (lgo (ltake x a.1 a.2).1 t).2)

theorem lgo_snoc (l : List (Int × Int)) (a : Int × Int) : ∀ x : LK, lgo x (l ++ [a]) = ((lgo x l).1 ++ [(ltake (lgo x l).2 a.1 a.2).2], (ltake (lgo x l).2 a.1 a.2).1) := by
  induction l with
  | nil => intro x; rfl
  | cons b t ih => intro x; simp only [List.cons_append, lgo, ih]

theorem lgo_len (l : List (Int × Int)) : ∀ x : LK, (lgo x l).1.length = l.length := by
  induction l with
  | nil => intro x; rfl
  | cons b t ih => intro x; simp only [lgo, List.length_cons, ih]

theorem lgo_get (l : List (Int × Int)) : ∀ (x : LK) (i : Nat), i < l.length → (lgo x l).1.getD i (0, 0) = (ltake (lgo x (l.take i)).2 (l.getD i (0, 0)).1 (l.getD i (0, 0)).2).2 := by
  induction l with
  | nil => intro x i h; simp at h
  | cons b t ih =>
    intro x i h
    cases i with
    | zero => simp [lgo]
    | succ i =>
      have := ih (ltake x b.1 b.2).1 i (by simpa using h)
      simpa [lgo] using this

theorem take_snoc (l : List (Int × Int)) {i : Nat} (h : i < l.length) : l.take (i + 1) = l.take i ++ [l.getD i (0, 0)] := by
  rw [List.take_add_one, List.getElem?_eq_getElem h]
  simp [List.getD, h]

theorem ltake_bd {x : LK} {n : Nat} (now size : Int) (hn : n ≤ 40) (h0 : 0 ≤ x.2.2) (h1 : x.2.2 ≤ 65536000000 * n) (f0 : 0 ≤ x.2.1) (f1 : x.2.1 ≤ 1125899906842624 + 65536000000 * n) :
    let t := ltake x now size
    t.1.2.2 = x.2.2 + (t.2.2 - t.2.1) ∧ 0 ≤ t.2.2 - t.2.1 ∧ t.2.2 - t.2.1 ≤ 65536000000 ∧ 0 ≤ t.2.1 ∧ t.2.1 ≤ 1125899906842624 + 65536000000 * n ∧ t.1.2.1 = t.2.2 := by
  have hs := span_in size (lwi x).1
  have hc := clB (a := now) (show (0 : Int) ≤ 1125899906842624 by omega)
  have e1 : (lwi x).2.1 = x.2.1 := by simp only [lwi, cl]; omega
  have e2 : (lwi x).2.2 = x.2.2 := by simp only [lwi, cl]; omega
  simp only [ltake, e1, e2]
  generalize span size (lwi x).1 = S at *
  generalize cl now 0 1125899906842624 = C at *
  simp only [lwi, cl]
  omega

theorem lgo_bd (r : Int) (l : List (Int × Int)) : ∀ n, n ≤ l.length → n ≤ 40 →
    let x := (lgo (r, 0, 0) (l.take n)).2
    0 ≤ x.2.2 ∧ x.2.2 ≤ 65536000000 * n ∧ 0 ≤ x.2.1 ∧ x.2.1 ≤ 1125899906842624 + 65536000000 * n := by
  intro n
  induction n with
  | zero => intro _ _; simp [lgo]
  | succ n ih =>
    intro h h40
    obtain ⟨a1, a2, a3, a4⟩ := ih (by omega) (by omega)
    have hb := ltake_bd (l.getD n (0, 0)).1 (l.getD n (0, 0)).2 (show n ≤ 40 by omega) a1 a2 a3 a4
    simp only [take_snoc l (show n < l.length by omega), lgo_snoc]
    simp only [] at hb
    omega

theorem link_all_eq (N : Nat) (r : Int) (l : List (Int × Int)) (hl : l.length ≤ 40) (hN : 100 < N) : W.link_all N r l = some (lgo (r, 0, 0) l) := by
  have he := iter_some (round := W.link_all_L4 N) (fun x => ∃ i : Nat, x = (((l.length : Int), ((i : Int), ())), ((0, (0, (0, ()))), (((lgo (r, 0, 0) (l.take i)).2.1, ((lgo (r, 0, 0) (l.take i)).2.2.1, ((lgo (r, 0, 0) (l.take i)).2.2.2, ()))), ((lgo (r, 0, 0) (l.take i)).1, (l, ()))))) ∧ i ≤ l.length) (fun x => 41 - x.1.2.1.toNat)
    ((), ((0, (0, (0, ()))), (((lgo (r, 0, 0) l).2.1, ((lgo (r, 0, 0) l).2.2.1, ((lgo (r, 0, 0) l).2.2.2, ()))), ((lgo (r, 0, 0) l).1, ())))) (by
      rintro F x ⟨i, rfl, hi⟩
      by_cases hlt : i < l.length
      · left
        have w := wrapI64 (x := (i : Int) + 1) (by omega) (by omega)
        have e0 : ((lgo (r, 0, 0) (l.take i)).2.1, ((lgo (r, 0, 0) (l.take i)).2.2.1, (lgo (r, 0, 0) (l.take i)).2.2.2)) = (lgo (r, 0, 0) (l.take i)).2 := rfl
        have c1 : ((i : Int) < (l.length : Int)) = True := eq_true (by omega)
        have c2 : ((0 : Int) ≤ (i : Int)) = True := eq_true (by omega)
        have c3 : ∀ z : Int × Int, (((lgo (r, 0, 0) (l.take i)).1.length + [z].length) * 16 ≤ 140737488355328) = True := fun z => eq_true (by rw [lgo_len]; simp; omega)
        refine ⟨_, ⟨i + 1, rfl, by omega⟩, by simp; omega, ?_⟩
        simp only [W.link_all_L4, c1, c2, e0, link_Take_eq, Int.toNat_natCast, Option.bind_some, c3, decide_true, Bool.and_self, cond_true, w]
        rw [take_snoc l hlt, lgo_snoc]
        rfl
      · right
        obtain rfl : i = l.length := by omega
        simp only [W.link_all_L4]
        rw [biff (by omega), List.take_length]) N (((l.length : Int), (0, ())), ((0, (0, (0, ()))), ((r, (0, (0, ()))), ([], (l, ()))))) ⟨0, by simp [lgo], by omega⟩ (by simp; omega)
  simp only [W.link_all, he, Option.bind_some]

theorem LinkPlans_i (N : Nat) (hN : 2000 < N) (r : Int) (l : List (Int × Int)) : W.leatlaw37_LinkPlans N r l = some true := by
  have hm : imn ((l.length : Nat) : Int) 40 = ((min l.length 40 : Nat) : Int) := by rw [imn_eq]; omega
  obtain ⟨m, hmm⟩ : ∃ m, cutL l 0 (imn ((l.length : Nat) : Int) 40) = m := ⟨_, rfl⟩
  have hlen : m.length ≤ 40 := by
    rw [← hmm, hm, cutL]; simp; omega
  have hal := link_all_eq N r m hlen (by omega)
  have hpl : W.link_Plan N r m = some (lgo (r, 0, 0) m).1 := by simp only [W.link_Plan, hal, Option.bind_some]
  have hpn := lgo_len m (r, 0, 0)
  have he := iter_some (round := W.leatlaw37_LinkPlans_L8 N) (fun x => ∃ i : Nat, x = ((r, ((lgo (r, 0, 0) (m.take i)).2.2.2, ((m.length : Int), ((i : Int), ())))), (m, (((lgo (r, 0, 0) (m.take i)).2.1, ((lgo (r, 0, 0) (m.take i)).2.2.1, ((lgo (r, 0, 0) (m.take i)).2.2.2, ()))), ((lgo (r, 0, 0) m).1, ())))) ∧ i ≤ m.length) (fun x => 41 - x.1.2.2.2.1.toNat)
    (.inr ((r, ((lgo (r, 0, 0) m).2.2.2, ())), (m, ((lgo (r, 0, 0) m).1, ())))) (by
      rintro F x ⟨i, rfl, hi⟩
      by_cases hlt : i < m.length
      · left
        have w := wrapI64 (x := (i : Int) + 1) (by omega) (by omega)
        have e0 : ((lgo (r, 0, 0) (m.take i)).2.1, ((lgo (r, 0, 0) (m.take i)).2.2.1, (lgo (r, 0, 0) (m.take i)).2.2.2)) = (lgo (r, 0, 0) (m.take i)).2 := rfl
        have c1 : ((i : Int) < (m.length : Int)) = True := eq_true (by omega)
        have c2 : ((0 : Int) ≤ (i : Int)) = True := eq_true (by omega)
        have c3 : ((i : Int) < ((lgo (r, 0, 0) m).1.length : Int)) = True := eq_true (by omega)
        have bd := lgo_bd r m i (by omega) (by omega)
        have hb := ltake_bd (m.getD i (0, 0)).1 (m.getD i (0, 0)).2 (show i ≤ 40 by omega) bd.1 bd.2.1 bd.2.2.1 bd.2.2.2
        have hg := lgo_get m (r, 0, 0) i hlt
        refine ⟨_, ⟨i + 1, rfl, by omega⟩, by simp; omega, ?_⟩
        simp only [W.leatlaw37_LinkPlans_L8, c1, c2, c3, e0, leatref37_Take_eq, Int.toNat_natCast, Option.bind_some, hg, decide_true, Bool.and_self, cond_true, cond_false, w, beq_self_eq_true, Bool.not_true]
        rw [take_snoc m hlt, lgo_snoc]
        simp only [] at hb bd ⊢
        generalize ltake (lgo (r, 0, 0) (m.take i)).2 (m.getD i (0, 0)).1 (m.getD i (0, 0)).2 = t at *
        rw [wrapI64 (x := t.2.2 - t.2.1) (by omega) (by omega), wrapI64 (by omega) (by omega), hb.1]
        rfl
      · right
        obtain rfl : i = m.length := by omega
        simp only [W.leatlaw37_LinkPlans_L8]
        rw [biff (by omega), List.take_length]) N ((r, (0, ((m.length : Int), (0, ())))), (m, ((r, (0, (0, ()))), ((lgo (r, 0, 0) m).1, ())))) ⟨0, by simp [lgo], by omega⟩ (by simp; omega)
  have c0 : ((0 : Int) ≤ imn ((l.length : Nat) : Int) 40) = True := eq_true (by rw [hm]; omega)
  have c1 : (imn ((l.length : Nat) : Int) 40 ≤ ((l.length : Nat) : Int)) = True := eq_true (by rw [hm]; omega)
  have bd := lgo_bd r m m.length (by omega) hlen
  rw [List.take_length] at bd
  have k1 : I64 (lgo (r, 0, 0) m).2.2.2 := ⟨by omega, by omega⟩
  simp only [W.leatlaw37_LinkPlans, c0, c1, hmm, hpl, hpn, he, Option.bind_some, decide_true, Bool.and_self, cond_true, cond_false, beq_self_eq_true, Bool.not_true, W.link_Load, hal]
  by_cases hz : m.length = 0
  · simp only [hz, leatlaw37_works_eq, Option.bind_some]
    rfl
  · have w := wrapI64 (x := ((m.length : Nat) : Int) - 1) (by omega) (by omega)
    have z0 : (((m.length : Nat) : Int) == 0) = false := beq_false_of_ne (by omega)
    have z1 : ((0 : Int) ≤ ((m.length : Nat) : Int) - 1) = True := eq_true (by omega)
    have z2 : (((m.length : Nat) : Int) - 1 < ((m.length : Nat) : Int)) = True := eq_true (by omega)
    have z3 : ((0 : Int) < ((m.length : Nat) : Int)) = True := eq_true (by omega)
    simp only [w, z0, z1, z2, z3, decide_true, Bool.and_self, cond_true, cond_false, fixed_Ratio_eq N k1 (wrapI64_I _) hN, leatref04_Ratio_eq N k1 (wrapI64_I _) hN, Option.bind_some, beq_self_eq_true, leatlaw37_works_eq]

theorem LinkPlans (x : RT [.sc (.int .i64), .row 29 [.int .i64, .int .i64]]) (_ : RT.wf _ x) : ∃ N, uncR [.sc (.int .i64), .row 29 [.int .i64, .int .i64]] (W.leatlaw37_LinkPlans N) x = some true := by
  obtain ⟨r, l⟩ := x
  exact ⟨3000, LinkPlans_i 3000 (by omega) r l⟩

end Go.Proofs.Ytakjmminaolfnaa.Pure
