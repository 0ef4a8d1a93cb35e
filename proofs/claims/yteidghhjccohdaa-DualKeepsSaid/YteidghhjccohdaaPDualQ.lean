/- DualPlays, as plain Lean: the loop over the acts. -/
import Derived.Test.YteidghhjccohdaaPDualP
namespace Go.Proofs.Yteidghhjccohdaa.Pure
open Go.Ev Go.RowKit

theorem dual_works3 : W.leatlaw36_works 3000 = some true := by kernel_rfl

def lim (l : L8) : L8 := (cl l.1 1 1073741824, (cl l.2.1 0 67108864, (cl l.2.2.1 1 1125899906842624, (cl l.2.2.2.1 0 17179869184, (cl l.2.2.2.2.1 0 17179869184, (cl l.2.2.2.2.2.1 0 65536, (cl l.2.2.2.2.2.2.1 0 67108864, cl l.2.2.2.2.2.2.2 0 67108864)))))))

theorem dual_Limit_eq (N : Nat) (l : L8) : W.dual_Limit N l = some (lim l) := by
  simp only [W.dual_Limit, sat_Clamp_eq, Option.bind_some, lim]

theorem ref_Limit_eq (N : Nat) (l : L8) : W.leatref36_Limit N l = some (lim l) := by
  simp only [W.leatref36_Limit, Option.bind_some, lim, leatref36_keep_eq N _ 1 1073741824 (by omega), leatref36_keep_eq N _ 0 67108864 (by omega), leatref36_keep_eq N _ 1 1125899906842624 (by omega), leatref36_keep_eq N _ 0 17179869184 (by omega), leatref36_keep_eq N _ 0 65536 (by omega)]

abbrev z9 : T9 := (0, (0, (0, (0, (0, (0, (0, (0, 0))))))))

def st0 (l : L8) : St := { l := lim l, z := z9, t1 := z9, t2 := z9, pi := (0, 0), owed := 0, used := 0, q1 := [], q2 := [] }

def hid0 : Hid := { f1 := 0, m1 := 0, f2 := 0, m2 := 0, dat := 0, r1 := [], r2 := [] }

theorem ring0 : RingR 0 0 [] [] := ⟨rfl, Int.le_refl _, Nat.le_refl _, by decide, .inr ⟨rfl, rfl⟩, fun i hi => absurd hi (Nat.not_lt_zero i)⟩

theorem Rep0 (D : List Int) (l : L8) : Rep D (st0 l) hid0 := ⟨ring0, ring0, fun _ => by simp [st0, hid0]⟩

theorem Good0 (l : L8) : Good 0 (st0 l) := ⟨rfl, rfl, rfl, rfl, by simp [st0], by simp [st0], by simp [st0], by simp [st0], by simp [st0], cl_in (by omega)⟩

theorem dual_New_eq (N : Nat) (l : L8) {D : List Int} (hD : DOK D) : W.dual_New N ((l, ()), (D, ())) = some ((), cS (st0 l) hid0 D) := by
  have h := hD.1
  have e : W.slices_Clone_uint32_uint32 N D = some D := by simp only [W.slices_Clone_uint32_uint32]; rw [if_pos (by omega)]
  simp only [W.dual_New, dual_Limit_eq, e, Option.bind_some]
  rfl

theorem ref_New_eq (N : Nat) (l : L8) (D : List Int) : W.leatref36_New N ((l, ()), (D, ())) = some ((rA (st0 l), ()), rB (st0 l) D) := by
  simp only [W.leatref36_New, ref_Limit_eq, Option.bind_some]
  rfl

theorem cutL_DOK {a : List Int} (h : ∀ d ∈ a, 0 ≤ d ∧ d ≤ 4294967295) : DOK (cutL a 0 (imn ((a.length : Nat) : Int) 50)) := by
  constructor
  · simp only [cutL, imn_eq, List.length_drop, List.length_take]; omega
  · intro d hd
    exact h d (List.mem_of_mem_take (List.mem_of_mem_drop hd))

abbrev cL (l : L8) (acts : List (Int × Int × Pk)) (i : Int) (s : St) (h : Hid) (D : List Int) : (Int × Int × Unit) × (L8 × Unit) × (L8 × T9 × T9 × T9 × (Int × Int) × Int × Unit) × V0 × List (Int × Int × Pk) × (Int × Int × Int × Unit) × (Int × Int × Int × Unit) × (Int × Unit) × List Pk × List Pk × List Int × List Pk × List Pk × Unit × (Int × Unit) × List Int × Unit :=
  (((acts.length : Int), (i, ())), ((l, ()), (cA s, (rA s, (acts, ((h.f1, (h.m1, (65536, ()))), ((h.f2, (h.m2, (65536, ()))), ((s.used, ()), (s.q1, (s.q2, (D, (h.r1, (h.r2, ((), ((h.dat, ()), (D, ()))))))))))))))))

theorem plays_loop (l : L8) (acts : List (Int × Int × Pk)) {D : List Int} (hD : DOK D) : iter (W.leatlaw36_DualPlays_L4 3000) 3000 (cL l acts 0 (st0 l) hid0 D) = some (.inl ((), ((l, ()), ()))) := by
  have hN : 2000 < 3000 := by omega
  refine iter_some (fun x => ∃ (i : Nat) (s : St) (h : Hid), i ≤ 60 ∧ Rep D s h ∧ Good i s ∧ x = cL l acts i s h D) (fun x => (60 - x.1.2.1).toNat) _ ?_ 3000 _ ⟨0, st0 l, hid0, by omega, Rep0 D l, Good0 l, rfl⟩ (by simp only; omega)
  rintro F x ⟨i, s, h, hi, R, G, rfl⟩
  by_cases hc : i < acts.length
  · have c1 : (i : Int) < acts.length := by omega
    have c2 : (0 : Int) ≤ i := by omega
    by_cases h60 : i = 60
    · right
      have c3 : (60 : Int) ≤ i := by omega
      simp only [W.leatlaw36_DualPlays_L4, c1, c2, c3, decide_true, cond_true, Bool.and_self]
    · left
      have c3 : ¬ (60 : Int) ≤ i := by omega
      obtain ⟨h', e, R', G'⟩ := step_eq 3000 hN hD (by omega) R G (acts.getD i (0, (0, (0, (0, (0, (0, 0)))))))
      have w2 : IntKind.wrap .i64 ((i : Int) + 1) = ((i + 1 : Nat) : Int) := by rw [wrapI64 (by omega) (by omega)]; omega
      have eW := fun now => dual_Wait 3000 (D := D) now R'
      have eT := dual_Tally 3000 (act D s (acts.getD i (0, (0, (0, (0, (0, (0, 0))))))))
      have eD := fun now => ref_Delay 3000 D (act D s (acts.getD i (0, (0, (0, (0, (0, (0, 0)))))))) now
      have eQ : W.dual_Queue_Waits 3000 ((), (cA (act D s (acts.getD i (0, (0, (0, (0, (0, (0, 0)))))))), ())) = some (decide (0 < IntKind.wrap .i64 ((act D s (acts.getD i (0, (0, (0, (0, (0, (0, 0)))))))).t1.2.2.2.1 + (act D s (acts.getD i (0, (0, (0, (0, (0, (0, 0)))))))).t2.2.2.2.1))) := rfl
      refine ⟨cL l acts (i + 1 : Nat) (act D s (acts.getD i (0, (0, (0, (0, (0, (0, 0)))))))) h' D, ⟨i + 1, _, h', by omega, R', G', rfl⟩, by simp only; omega, ?_⟩
      simp only [W.leatlaw36_DualPlays_L4, c1, c2, c3, decide_true, decide_false, cond_true, cond_false, Bool.and_self, Int.toNat_natCast, e, Option.bind_some, eW, Bool.not_true, bff, W.dual_Queue_Share, BEq.rfl, (eD _).1, (eD _).2, eT.2.1, eT.2.2, eQ, w2]
  · right
    have c1 : ¬ (i : Int) < acts.length := by omega
    simp only [W.leatlaw36_DualPlays_L4, c1, decide_false, cond_false]

theorem DualPlays_i (l : L8) (draws : List Int) (acts : List (Int × Int × Pk)) (h : ∀ d ∈ draws, 0 ≤ d ∧ d ≤ 4294967295) : W.leatlaw36_DualPlays 3000 l draws acts = some true := by
  have hD := cutL_DOK h
  have c1 : (0 : Int) ≤ imn ((draws.length : Nat) : Int) 50 := by rw [imn_eq]; omega
  have c2 : imn ((draws.length : Nat) : Int) 50 ≤ (draws.length : Int) := by rw [imn_eq]; omega
  have k := plays_loop l acts hD
  simp only [cL] at k
  simp only [W.leatlaw36_DualPlays, c1, c2, decide_true, Bool.and_self, cond_true, dual_New_eq 3000 l hD, ref_New_eq, Option.bind_some, k, dual_Limit_eq, ref_Limit_eq, BEq.rfl, dual_works3]

end Go.Proofs.Yteidghhjccohdaa.Pure
