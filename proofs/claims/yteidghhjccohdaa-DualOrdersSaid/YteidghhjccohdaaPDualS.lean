/- DualOrders, as plain Lean: all acts. -/
import Derived.Test.YteidghhjccohdaaPDualR
namespace Go.Proofs.Yteidghhjccohdaa.Pure
open Go.Ev Go.RowKit

theorem and3_in (a : Int) : 0 ≤ bits .and .i64 a 3 ∧ bits .and .i64 a 3 ≤ 3 := by
  simp only [bits]
  rw [show IntKind.bits .i64 = 64 from rfl]
  have h : (BitVec.ofInt 64 a &&& BitVec.ofInt 64 3).toNat ≤ 3 := by
    rw [BitVec.toNat_and]; exact Nat.le_trans Nat.and_le_right (by decide)
  rw [wrapI64 (by omega) (by omega)]; omega

theorem which_eq {c : Int} (h : 0 ≤ c ∧ c ≤ 3) : IntKind.wrap .i64 (2 - bits .and .i64 c 1) = if isLow c then 1 else 2 := by
  have : c = 0 ∨ c = 1 ∨ c = 2 ∨ c = 3 := by omega
  rcases this with rfl | rfl | rfl | rfl <;> decide

abbrev cO (acts : List (Int × Int × Pk)) (i : Int) (s : St) (h : Hid) (r0 r1 r2 : List Pk) (D : List Int) : (Int × Int × Unit) × (L8 × T9 × T9 × T9 × (Int × Int) × Int × Unit) × Unit × List (Int × Int × Pk) × (Int × Int × Int × Unit) × (Int × Int × Int × Unit) × (Int × Unit) × List Pk × List Pk × List Pk × List Pk × List Pk × Unit × (Int × Unit) × List Int × Unit :=
  ((((acts.length : Nat) : Int), (i, ())), (cA s, ((), (acts, ((h.f1, (h.m1, (65536, ()))), ((h.f2, (h.m2, (65536, ()))), ((s.used, ()), (r0, (r1, (r2, (h.r1, (h.r2, ((), ((h.dat, ()), (D, ())))))))))))))))

theorem nil_of_map {q r : List Pk} (h : q.map kf = r.map kf) (hq : q = []) : r = [] := by
  subst hq
  cases r with
  | nil => rfl
  | cons a r => simp at h

theorem orders_loop (l : L8) (acts : List (Int × Int × Pk)) {D : List Int} (hD : DOK D) : iter (W.leatlaw36_DualOrders_L5 3000) 3000 (cO acts 0 (st0 l) hid0 [] [] [] D) = some (.inl ((), ())) := by
  have hN : 2000 < 3000 := by omega
  refine iter_some (fun x => ∃ (i : Nat) (s : St) (h : Hid) (r1 r2 : List Pk), i ≤ 80 ∧ Rep D s h ∧ Good i s ∧ Ord (i : Int) s r1 r2 ∧ x = cO acts i s h [] r1 r2 D) (fun x => (80 - x.1.2.1).toNat) _ ?_ 3000 _ ⟨0, st0 l, hid0, [], [], by omega, Rep0 D l, Good0 l, ⟨rfl, rfl, by simp, by simp, by simp, by simp⟩, rfl⟩ (by simp only; omega)
  rintro F x ⟨i, s, h, r1, r2, hi, R, G, O, rfl⟩
  by_cases hc : i < acts.length
  · have c1 : (i : Int) < acts.length := by omega
    have c2 : (0 : Int) ≤ i := by omega
    by_cases h80 : i = 80
    · right
      have c3 : (80 : Int) ≤ i := by omega
      simp only [W.leatlaw36_DualOrders_L5, c1, c2, c3, decide_true, cond_true, Bool.and_self]
    · left
      have c3 : ¬ (80 : Int) ≤ i := by omega
      generalize ha : acts.getD i (0, (0, (0, (0, (0, (0, 0)))))) = a
      have w2 : IntKind.wrap .i64 ((i : Int) + 1) = ((i + 1 : Nat) : Int) := by rw [wrapI64 (by omega) (by omega)]; omega
      have e1 : ((i + 1 : Nat) : Int) = (i : Int) + 1 := by omega
      have gl := G.len; have g7 := G.u0
      by_cases h1 : a.1 = 1
      · obtain ⟨h', e, R', G'⟩ := dual_Take 3000 hN hD a.2.1 (show i ≤ 100 by omega) R G
        have b : (a.1 == 1) = true := by rw [h1]; rfl
        have hlen := take_len D a.2.1 (s.q1.length + s.q2.length) s []
        simp only [List.length_nil, Nat.zero_add] at hlen
        have hl2 : (takeA D a.2.1 s).2.2.1.length ≤ 200 := by simp only [takeA]; omega
        generalize htk : told D a.2.1 (s.q1.length + s.q2.length) s [] = tl
        have hto : tl = bif (takeA D a.2.1 s).2.2.2 then (takeA D a.2.1 s).2.2.1 ++ [(takeA D a.2.1 s).2.1] else (takeA D a.2.1 s).2.2.1 := htk.symm
        have htl : tl.length ≤ 300 := by
          rw [hto]
          cases (takeA D a.2.1 s).2.2.2
          · simp only [cond_false]; omega
          · simp only [cond_true, List.length_append, List.length_singleton]; omega
        obtain ⟨r1', r2', eL, O'⟩ := loop_take 3000 hN D a.2.1 (show i ≤ 100 by omega) ((acts.length : Nat) : Int) (i : Int) acts (takeA D a.2.1 s).1 h' [] tl (takeA D a.2.1 s).2.2.2 (i : Int) (by omega) (s.q1.length + s.q2.length) 3000 s [] r1 r2 G O (Nat.le_refl _) htk rfl (by simp only [List.length_nil]; omega)
        simp only [List.length_nil, Int.natCast_zero] at eL
        have O2 : Ord ((i + 1 : Nat) : Int) (takeA D a.2.1 s).1 r1' r2' := by
          rw [e1]; exact Ord.mono (s := (takeA D a.2.1 s).1) O' rfl rfl
        refine ⟨cO acts ((i + 1 : Nat) : Int) (takeA D a.2.1 s).1 h' [] r1' r2' D, ⟨i + 1, _, h', r1', r2', by omega, R', G'.mono, O2, rfl⟩, by simp only; omega, ?_⟩
        have d1 : (0 + (takeA D a.2.1 s).2.2.1.length) * 40 ≤ 140737488355328 := by omega
        have d2 : ((takeA D a.2.1 s).2.2.1.length + (0 + 1)) * 40 ≤ 140737488355328 := by omega
        cases hb : (takeA D a.2.1 s).2.2.2 with
        | true =>
          have ht : tl = (takeA D a.2.1 s).2.2.1 ++ [(takeA D a.2.1 s).2.1] := by rw [hto, hb]; rfl
          rw [hb] at e
          rw [hb, ht] at eL
          simp only [W.leatlaw36_DualOrders_L5, c1, c2, c3, decide_true, decide_false, cond_true, cond_false, Bool.and_self, Int.toNat_natCast, ha, b, e, Option.bind_some, List.nil_append, List.length_nil, List.length_cons, d1, d2, eL, Bool.not_true, bft, w2]
        | false =>
          have ht : tl = (takeA D a.2.1 s).2.2.1 := by rw [hto, hb]; rfl
          rw [hb] at e
          rw [hb, ht] at eL
          obtain ⟨z1, z2⟩ := take_false D a.2.1 (show i ≤ 100 by omega) (s.q1.length + s.q2.length) s [] G (Nat.le_refl _) hb
          have n1 : r1' = [] := nil_of_map O'.k1 z1
          have n2 : r2' = [] := nil_of_map O'.k2 z2
          subst n1 n2
          have wz : ¬ (0 : Int) < IntKind.wrap .i64 (((0 : Nat) : Int) + ((0 : Nat) : Int)) := by decide
          simp only [W.leatlaw36_DualOrders_L5, W.leatlaw36_DualOrders_L5_j2, c1, c2, c3, decide_true, decide_false, cond_true, cond_false, Bool.and_self, Int.toNat_natCast, ha, b, e, Option.bind_some, eL, Bool.not_false, btt, w2, List.length_nil, wz]
      · have b1 : (a.1 == 1) = false := beq_false_of_ne h1
        by_cases h2 : a.1 = 2
        · have b2 : (a.1 == 2) = true := by rw [h2]; rfl
          have e := dual_Update 3000 a.2.1 R
          have O2 : Ord ((i + 1 : Nat) : Int) (upd s a.2.1) r1 r2 := by rw [e1]; exact O.mono rfl rfl
          refine ⟨cO acts ((i + 1 : Nat) : Int) (upd s a.2.1) h [] r1 r2 D, ⟨i + 1, upd s a.2.1, h, r1, r2, by omega, ⟨R.r1, R.r2, R.hat⟩, (Good_upd _ G).mono, O2, rfl⟩, by simp only; omega, ?_⟩
          simp only [W.leatlaw36_DualOrders_L5, c1, c2, c3, decide_true, decide_false, cond_true, cond_false, Bool.and_self, Int.toNat_natCast, ha, b1, b2, e, Option.bind_some, w2]
        · have b2 : (a.1 == 2) = false := beq_false_of_ne h2
          generalize hp : ((a.2.2.1, ((i : Int), (a.2.2.2.2.1, (bits .and .i64 a.2.2.2.2.2.1 3, a.2.2.2.2.2.2)))) : Pk) = p
          obtain ⟨h', e, R'⟩ := dual_Put 3000 a.2.1 p R G (by omega) hN
          have G' := Good_put a.2.1 p G (by omega)
          have hcd : 0 ≤ p.2.2.2.1 ∧ p.2.2.2.1 ≤ 3 := by rw [← hp]; exact and3_in _
          have hsq : p.2.1 = (i : Int) := by rw [← hp]
          have hl1 : r1.length ≤ 100 := by have := congrArg List.length O.k1; simp only [List.length_map] at this; omega
          have hl2 : r2.length ≤ 100 := by have := congrArg List.length O.k2; simp only [List.length_map] at this; omega
          have d1 : (r1.length + (0 + 1)) * 40 ≤ 140737488355328 := by omega
          have d2 : (r2.length + (0 + 1)) * 40 ≤ 140737488355328 := by omega
          have hw := which_eq hcd
          have hq : p.2.2.2.1 = bits .and .i64 a.2.2.2.2.2.1 3 := by rw [← hp]
          rw [hq] at hw
          have e10 : ¬ ((1 : Int) = 0) := by omega
          have e20 : ¬ ((2 : Int) = 0) := by omega
          have e21 : ¬ ((2 : Int) = 1) := by omega
          by_cases hlow : isLow p.2.2.2.1
          · have hlow' := hlow
            rw [hq] at hlow'
            rw [if_pos hlow'] at hw
            by_cases hf : s.l.1 < sumS s.q1 + sumS s.q2 + cl p.2.2.1 1 65536
            · have es : (put s a.2.1 p).2 = false := by unfold put; rw [if_pos hlow, if_pos hf]
              have eq1 : (put s a.2.1 p).1.q1 = s.q1 := by unfold put; rw [if_pos hlow, if_pos hf]
              have eq2 : (put s a.2.1 p).1.q2 = s.q2 := by unfold put; rw [if_pos hlow, if_pos hf]
              have O2 : Ord ((i + 1 : Nat) : Int) (put s a.2.1 p).1 r1 r2 := by rw [e1]; exact O.mono eq1 eq2
              refine ⟨cO acts ((i + 1 : Nat) : Int) (put s a.2.1 p).1 h' [] r1 r2 D, ⟨i + 1, _, h', r1, r2, by omega, R', G', O2, rfl⟩, by simp only; omega, ?_⟩
              simp only [W.leatlaw36_DualOrders_L5, c1, c2, c3, decide_true, decide_false, cond_true, cond_false, Bool.and_self, Int.toNat_natCast, ha, b1, b2, hp, e, es, Option.bind_some, w2]
            · have es : (put s a.2.1 p).2 = true := by unfold put; rw [if_pos hlow, if_neg hf]
              have eq1 : (put s a.2.1 p).1.q1 = s.q1 ++ [putP a.2.1 p] := by unfold put; rw [if_pos hlow, if_neg hf]
              have eq2 : (put s a.2.1 p).1.q2 = s.q2 := by unfold put; rw [if_pos hlow, if_neg hf]
              have O2 : Ord ((i + 1 : Nat) : Int) (put s a.2.1 p).1 (r1 ++ [p]) r2 := by rw [e1]; exact Ord_put1 O p a.2.1 hsq eq1 eq2
              refine ⟨cO acts ((i + 1 : Nat) : Int) (put s a.2.1 p).1 h' [] (r1 ++ [p]) r2 D, ⟨i + 1, _, h', r1 ++ [p], r2, by omega, R', G', O2, rfl⟩, by simp only; omega, ?_⟩
              simp only [W.leatlaw36_DualOrders_L5, W.leatlaw36_DualOrders_L5_j1, c1, c2, c3, decide_true, decide_false, cond_true, cond_false, Bool.and_self, Int.toNat_natCast, ha, b1, b2, hp, e, es, Option.bind_some, w2, hw, e10, List.length_nil, List.length_cons, d1]
          · have hlow' := hlow
            rw [hq] at hlow'
            rw [if_neg hlow'] at hw
            by_cases hf : s.l.1 < sumS s.q1 + sumS s.q2 + cl p.2.2.1 1 65536
            · have es : (put s a.2.1 p).2 = false := by unfold put; rw [if_neg hlow, if_pos hf]
              have eq1 : (put s a.2.1 p).1.q1 = s.q1 := by unfold put; rw [if_neg hlow, if_pos hf]
              have eq2 : (put s a.2.1 p).1.q2 = s.q2 := by unfold put; rw [if_neg hlow, if_pos hf]
              have O2 : Ord ((i + 1 : Nat) : Int) (put s a.2.1 p).1 r1 r2 := by rw [e1]; exact O.mono eq1 eq2
              refine ⟨cO acts ((i + 1 : Nat) : Int) (put s a.2.1 p).1 h' [] r1 r2 D, ⟨i + 1, _, h', r1, r2, by omega, R', G', O2, rfl⟩, by simp only; omega, ?_⟩
              simp only [W.leatlaw36_DualOrders_L5, c1, c2, c3, decide_true, decide_false, cond_true, cond_false, Bool.and_self, Int.toNat_natCast, ha, b1, b2, hp, e, es, Option.bind_some, w2]
            · have es : (put s a.2.1 p).2 = true := by unfold put; rw [if_neg hlow, if_neg hf]
              have eq1 : (put s a.2.1 p).1.q1 = s.q1 := by unfold put; rw [if_neg hlow, if_neg hf]
              have eq2 : (put s a.2.1 p).1.q2 = s.q2 ++ [putP a.2.1 p] := by unfold put; rw [if_neg hlow, if_neg hf]
              have O2 : Ord ((i + 1 : Nat) : Int) (put s a.2.1 p).1 r1 (r2 ++ [p]) := by rw [e1]; exact Ord_put2 O p a.2.1 hsq (by unfold isLow at hlow; omega) eq1 eq2
              refine ⟨cO acts ((i + 1 : Nat) : Int) (put s a.2.1 p).1 h' [] r1 (r2 ++ [p]) D, ⟨i + 1, _, h', r1, r2 ++ [p], by omega, R', G', O2, rfl⟩, by simp only; omega, ?_⟩
              simp only [W.leatlaw36_DualOrders_L5, W.leatlaw36_DualOrders_L5_j1, c1, c2, c3, decide_true, decide_false, cond_true, cond_false, Bool.and_self, Int.toNat_natCast, ha, b1, b2, hp, e, es, Option.bind_some, w2, hw, e20, e21, List.length_nil, List.length_cons, d2]
  · right
    have c1 : ¬ (i : Int) < acts.length := by omega
    simp only [W.leatlaw36_DualOrders_L5, c1, decide_false, cond_false]

theorem DualOrders_i (l : L8) (draws : List Int) (acts : List (Int × Int × Pk)) (h : ∀ d ∈ draws, 0 ≤ d ∧ d ≤ 4294967295) : W.leatlaw36_DualOrders 3000 l draws acts = some true := by
  have hD := cutL_DOK h
  have c1 : (0 : Int) ≤ imn ((draws.length : Nat) : Int) 50 := by rw [imn_eq]; omega
  have c2 : imn ((draws.length : Nat) : Int) 50 ≤ (draws.length : Int) := by rw [imn_eq]; omega
  have k := orders_loop l acts hD
  simp only [cO] at k
  simp only [W.leatlaw36_DualOrders, c1, c2, decide_true, Bool.and_self, cond_true, dual_New_eq 3000 l hD, Option.bind_some, k, dual_works3]

theorem DualOrders (x : RT [.agg [.int .i64, .int .i64, .int .i64, .int .i64, .int .i64, .int .i64, .int .i64, .int .i64], .row 91 [.int .u32], .row 31 [.int .i64, .int .i64, .int .i64, .int .i64, .int .i64, .int .i64, .int .i64]]) (h : RT.wf _ x) : ∃ N, uncR [.agg [.int .i64, .int .i64, .int .i64, .int .i64, .int .i64, .int .i64, .int .i64, .int .i64], .row 91 [.int .u32], .row 31 [.int .i64, .int .i64, .int .i64, .int .i64, .int .i64, .int .i64, .int .i64]] (W.leatlaw36_DualOrders N) x = some true := by
  obtain ⟨l, d, acts⟩ := x
  exact ⟨3000, DualOrders_i l d acts fun z hz => du32_range (h.2.1.2 z hz)⟩

end Go.Proofs.Yteidghhjccohdaa.Pure
