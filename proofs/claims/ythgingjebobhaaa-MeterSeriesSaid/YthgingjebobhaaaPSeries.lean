/- The bytes told of each flow, time by time: the plain law. -/
import Derived.Test.YthgingjebobhaaaPMeter
namespace Go.Proofs.Ythgingjebobhaaa.Pure
open Go.Ev Go.RowKit

/-- Told of the flow j, in the time from a to b. -/
def tP (j a b : Int) (e : E6) : Bool := (K6 e == 3) && ((F6 e == j) && (decide (a ≤ T6 e) && decide (T6 e < b)))
def tol (s : Int) (P : E6 → Bool) (p : List E6) : Int := p.foldl (fun v e => if P e then IntKind.wrap .i64 (v + s) else v) 0
theorem tol_app (s : Int) (P : E6 → Bool) (p : List E6) (e : E6) : tol s P (p ++ [e]) = if P e then IntKind.wrap .i64 (tol s P p + s) else tol s P p := by
  simp [tol]

theorem Told_eq (N : Nat) (es : List E6) (mss : List Int) (j : Nat) (hj : j < mss.length) (a b : Int) (he : es.length < 1000) (hN : 1000 < N) :
    W.leatref44_Told N es mss (j : Int) a b = some (tol (mz mss j) (tP (j : Int) a b) (metOf es ((mss.length : Nat) : Int))) := by
  simp only [W.leatref44_Told, Of_eq N es _ he hN, Option.bind_some]
  have hl : (metOf es ((mss.length : Nat) : Int)).length < 1000 := Nat.lt_of_le_of_lt (List.length_filter_le ..) he
  generalize metOf es ((mss.length : Nat) : Int) = its at hl ⊢
  have h := iter_some (round := W.leatref44_Told_L4 N) (fun x => ∃ i : Nat, i ≤ its.length ∧ x = (((j : Int), (a, (b, (tol (mz mss j) (tP (j : Int) a b) (its.take i), ((i : Int), ()))))), (mss, (its, ())))) (fun x => its.length - x.1.2.2.2.2.1.toNat) ((tol (mz mss j) (tP (j : Int) a b) its, ()), ()) (by
    rintro F _ ⟨i, hi, rfl⟩
    by_cases hlt : i < its.length
    · left
      refine ⟨(((j : Int), (a, (b, (tol (mz mss j) (tP (j : Int) a b) (its.take (i + 1)), (((i + 1 : Nat) : Int), ()))))), (mss, (its, ()))), ⟨i + 1, hlt, rfl⟩, by simp only [Int.toNat_natCast]; omega, ?_⟩
      have d1 : decide ((0 : Int) ≤ (i : Int)) = true := by simp
      have d2 : decide ((i : Int) < ((its.length : Nat) : Int)) = true := by simpa using hlt
      have d3 := getD_lt its ((0, (0, (0, (0, (0, 0))))) : E6) hlt
      simp only [W.leatref44_Told_L4, d1, d2, d3, Bool.and_self, cond_true, Int.toNat_natCast, i_next (show i < 1000 by omega), Size_eq N mss j hj, Option.bind_some]
      rw [take_next its hlt, tol_app]
      generalize its[i] = e
      by_cases c1 : e.2.1 = 3
      · by_cases c2 : e.2.2.1 = (j : Int)
        · by_cases c3 : a ≤ e.1
          · by_cases c4 : e.1 < b
            · simp [tP, c1, c2, c3, c4]
            · simp [tP, c1, c2, c3, c4]
          · simp [tP, c1, c2, c3]
        · simp [tP, c1, beq_false_of_ne c2]
      · simp [tP, beq_false_of_ne c1]
    · right
      have : i = its.length := by omega
      subst this
      simp [W.leatref44_Told_L4]) N (((j : Int), (a, (b, (0, (0, ()))))), (mss, (its, ()))) ⟨0, by omega, by simp [tol]⟩ (by simp; omega)
  rw [h]
  rfl

/-- Told of the flow i in the k-th time. -/
def sP (wd : Int) (i k : Nat) (e : E6) : Bool := (K6 e == 3) && ((F6 e == (i : Int)) && (decide (0 ≤ T6 e) && ((T6 e).tdiv wd == (k : Int))))
theorem sP_eq (wd : Int) (hw : 1 ≤ wd) (i k : Nat) (e : E6) : sP wd i k e = tP (i : Int) (wd * k) (wd * k + wd) e := by
  have hk : (0 : Int) ≤ wd * k := Int.mul_nonneg (by omega) (Int.natCast_nonneg k)
  have key : (decide (0 ≤ T6 e) && ((T6 e).tdiv wd == (k : Int))) = (decide (wd * k ≤ T6 e) && decide (T6 e < wd * k + wd)) := by
    generalize T6 e = t
    by_cases h0 : 0 ≤ t
    · rw [tdiv_nn h0]
      have a1 : (k : Int) ≤ t / wd ↔ k * wd ≤ t := Int.le_ediv_iff_mul_le (by omega)
      have a2 : t / wd < k + 1 ↔ t < (k + 1) * wd := Int.ediv_lt_iff_lt_mul (by omega)
      have e1 : (k : Int) * wd = wd * k := Int.mul_comm _ _
      have e2 : ((k : Int) + 1) * wd = wd * k + wd := by rw [Int.add_mul, e1, Int.one_mul]
      rw [e1] at a1
      rw [e2] at a2
      by_cases hq : t / wd = (k : Int)
      · have b1 := a1.1 (by omega)
        have b2 := a2.1 (by omega)
        simp [h0, hq, b1, b2]
      · by_cases h3 : wd * k ≤ t
        · have h4 : ¬ t < wd * k + wd := fun h5 => by
            have c1 := a1.2 h3
            have c2 := a2.2 h5
            omega
          simp [hq, h4]
        · simp [hq, h3]
    · have h3 : ¬ wd * k ≤ t := by omega
      simp [h0, h3]
  unfold sP tP
  rw [key]

def mat (wd : Int) (n m : Nat) (mss : List Int) (p : List E6) : List (List Int) := (List.range n).map fun i => (List.range m).map fun k => tol (mz mss i) (sP wd i k) p
theorem mat_row (wd : Int) (n m : Nat) (mss : List Int) (p : List E6) {i : Nat} (h : i < n) : (mat wd n m mss p).getD i [] = (List.range m).map fun k => tol (mz mss i) (sP wd i k) p := by
  simp [mat, List.getD, h]
theorem row_at {m : Nat} (f : Nat → Int) {k : Nat} (h : k < m) : ((List.range m).map f).getD k 0 = f k := by
  simp [List.getD, h]

theorem wrap64_eq (x : Int) : wrap64 x = IntKind.wrap .i64 x := by rw [wrapI64_def, wrap64]
theorem clI_mz (mss : List Int) (i : Nat) : clI (mss.getD i 0) 1 65536 = mz mss i := by
  simp only [clI, mz, cl]; omega

theorem mat_step (wd : Int) (hw : 1 ≤ wd) (n m : Nat) (mss : List Int) (p : List E6) (e : E6) (hf : 0 ≤ F6 e ∧ F6 e < n) : serStep mss wd m (mat wd n m mss p) e = mat wd n m mss (p ++ [e]) := by
  obtain ⟨f, hf1⟩ := Int.eq_ofNat_of_zero_le hf.1
  have hfn : f < n := by omega
  have hf2 : e.2.2.1 = (f : Int) := hf1
  unfold serStep
  by_cases hc : e.2.1 = 3 ∧ 0 ≤ e.1 ∧ e.1.tdiv wd < m
  · rw [if_pos hc]
    obtain ⟨c1, c2, c3⟩ := hc
    have c4 : 0 ≤ e.1.tdiv wd := Int.tdiv_nonneg c2 (by omega)
    obtain ⟨kk, hkk⟩ := Int.eq_ofNat_of_zero_le c4
    have hkm : kk < m := by omega
    rw [hf2, hkk, Int.toNat_natCast, Int.toNat_natCast, mat_row _ _ _ _ _ hfn, row_at _ hkm, wrap64_eq, clI_mz]
    have hnew : IntKind.wrap .i64 (tol (mz mss f) (sP wd f kk) p + mz mss f) = (fun k => tol (mz mss f) (sP wd f k) (p ++ [e])) kk := by
      have : sP wd f kk e = true := by simp [sP, c1, c2, hf2, hkk]
      show _ = tol _ _ (p ++ [e])
      rw [tol_app, if_pos this]
    rw [hnew, map_set m (fun k => tol (mz mss f) (sP wd f k) p) (fun k => tol (mz mss f) (sP wd f k) (p ++ [e])) kk fun k hk => by
      have : sP wd f k e = false := by
        have h1 : ¬ (kk : Int) = (k : Int) := by omega
        simp [sP, hkk, h1]
      rw [tol_app, this]; rfl]
    exact map_set n (fun i => (List.range m).map fun k => tol (mz mss i) (sP wd i k) p) (fun i => (List.range m).map fun k => tol (mz mss i) (sP wd i k) (p ++ [e])) f fun i hi => by
      apply List.map_congr_left
      intro k _
      have : sP wd i k e = false := by
        have h1 : ¬ (f : Int) = (i : Int) := by omega
        simp [sP, hf2, h1]
      rw [tol_app, this]; rfl
  · rw [if_neg hc]
    apply List.map_congr_left
    intro i hi
    apply List.map_congr_left
    intro k hk
    have hkm : k < m := List.mem_range.1 hk
    have : sP wd i k e = false := by
      by_cases c1 : e.2.1 = 3
      · by_cases c2 : 0 ≤ e.1
        · have c3 : ¬ e.1.tdiv wd = (k : Int) := fun h => hc ⟨c1, c2, by omega⟩
          simp [sP, c3]
        · simp [sP, c2]
      · simp [sP, c1]
    rw [tol_app, this]; rfl

theorem mat_fold (wd : Int) (hw : 1 ≤ wd) (n m : Nat) (mss : List Int) : ∀ (its p : List E6), (∀ e ∈ its, 0 ≤ F6 e ∧ F6 e < n) → its.foldl (serStep mss wd m) (mat wd n m mss p) = mat wd n m mss (p ++ its)
  | [], p, _ => by simp
  | e :: its, p, h => by
    rw [List.foldl_cons, mat_step wd hw n m mss p e (h e (by simp)), mat_fold wd hw n m mss its (p ++ [e]) fun x hx => h x (by simp [hx])]
    simp

theorem mat_nil (wd : Int) (n m : Nat) (mss : List Int) : List.replicate n (List.replicate m 0) = mat wd n m mss [] := by
  apply List.ext_getElem?
  intro i
  simp only [mat, List.getElem?_replicate, List.getElem?_map]
  by_cases h : i < n
  · rw [if_pos h, List.getElem?_range h, Option.map_some]
    congr 1
    apply List.ext_getElem?
    intro k
    simp only [List.getElem?_replicate, List.getElem?_map]
    by_cases h2 : k < m
    · rw [if_pos h2, List.getElem?_range h2]; rfl
    · rw [if_neg h2, List.getElem?_eq_none (by simpa using h2)]; rfl
  · rw [if_neg h, List.getElem?_eq_none (by simpa using h)]; rfl

theorem met_flow {es : List E6} {n : Nat} {e : E6} (h : e ∈ metOf es (n : Int)) : 0 ≤ F6 e ∧ F6 e < n := by
  simp only [metOf, List.mem_filter, metP, Bool.and_eq_true, decide_eq_true_eq] at h
  exact h.2.2

theorem seriesM_eq (es : List E6) (mss : List Int) (width many : Int) : seriesM es mss width many = mat (clI width 1 1099511627776) mss.length (mI many) mss (metOf es ((mss.length : Nat) : Int)) := by
  unfold seriesM
  have hw : 1 ≤ clI width 1 1099511627776 := by simp only [clI]; omega
  rw [mat_nil (clI width 1 1099511627776) mss.length (mI many) mss, mat_fold _ hw _ _ _ _ [] fun e he => met_flow he]
  rfl

/-- The first of the greatest among the first k. -/
def pk (row : List Int) : Nat → Int × Int
  | 0 => (-1, 0)
  | k + 1 => if (pk row k).1 < 0 ∨ (pk row k).2 < row.getD k 0 then ((k : Int), row.getD k 0) else pk row k

theorem Peak_eq (N : Nat) (row : List Int) (h : row.length < 1000) (hN : 1000 < N) : W.meter_Peak N row = some (pk row row.length) := by
  have h := iter_some (round := W.meter_Peak_L3 N) (fun x => ∃ i : Nat, i ≤ row.length ∧ x = (((pk row i).1, ((pk row i).2, (((row.length : Nat) : Int), ((i : Int), ())))), (row, ()))) (fun x => row.length - x.1.2.2.2.1.toNat) (((pk row row.length).1, ((pk row row.length).2, ())), ()) (by
    rintro F _ ⟨i, hi, rfl⟩
    by_cases hlt : i < row.length
    · left
      refine ⟨(((pk row (i + 1)).1, ((pk row (i + 1)).2, (((row.length : Nat) : Int), (((i + 1 : Nat) : Int), ())))), (row, ())), ⟨i + 1, hlt, rfl⟩, by simp only [Int.toNat_natCast]; omega, ?_⟩
      have d1 : decide ((0 : Int) ≤ (i : Int)) = true := by simp
      have d2 : decide ((i : Int) < ((row.length : Nat) : Int)) = true := by simpa using hlt
      simp only [W.meter_Peak_L3, d1, d2, Bool.and_self, cond_true, Int.toNat_natCast, i_next (show i < 1000 by omega), pk]
      by_cases c1 : (pk row i).1 < 0
      · simp [c1]
      · by_cases c2 : (pk row i).2 < row.getD i 0
        · simp only [decide_eq_false c1, decide_eq_true c2, beq_self_eq_true, cond_true, if_pos (Or.inr c2 : (pk row i).1 < 0 ∨ (pk row i).2 < row.getD i 0)]
        · have c3 : ¬ ((pk row i).1 < 0 ∨ (pk row i).2 < row.getD i 0) := fun h => h.elim c1 c2
          simp only [decide_eq_false c1, decide_eq_false c2, beq_self_eq_true, cond_true, cond_false, if_neg c3]
    · right
      have : i = row.length := by omega
      subst this
      simp [W.meter_Peak_L3]) N (((-1), (0, (((row.length : Nat) : Int), (0, ())))), (row, ())) ⟨0, by omega, by simp [pk]⟩ (by simp; omega)
  simp only [W.meter_Peak, h, Option.bind_some]

theorem L14_loop (N : Nat) (hN : 1000 < N) (es : List E6) (mss : List Int) (many wd len : Int) (m i : Nat) (hm : m < 1000) (s : List (List Int)) (row : List Int) (his : i < s.length) (hrow : s.getD i [] = row) (hrl : row.length = m)
    (hk : ∀ k : Nat, k < m → W.leatref44_Told N es mss (i : Int) (IntKind.wrap .i64 (wd * (k : Int))) (IntKind.wrap .i64 (IntKind.wrap .i64 (wd * (k : Int)) + wd)) = some (row.getD k 0)) :
    iter (W.leatlaw44_MeterSeries_L14 N) N ((many, (wd, ((i : Int), (0, ((-1), (len, ((i : Int), ((m : Int), (0, ()))))))))), (es, (mss, (s, ())))) = some (.inr ((many, (wd, ((i : Int), ((pk row m).2, ((pk row m).1, (len, ((i : Int), ()))))))), (es, (mss, (s, ()))))) :=
  iter_some (round := W.leatlaw44_MeterSeries_L14 N) (fun x => ∃ k : Nat, k ≤ m ∧ x = ((many, (wd, ((i : Int), ((pk row k).2, ((pk row k).1, (len, ((i : Int), ((m : Int), ((k : Int), ()))))))))), (es, (mss, (s, ()))))) (fun x => m - x.1.2.2.2.2.2.2.2.2.1.toNat) _ (by
    rintro F _ ⟨k, hkm, rfl⟩
    by_cases hlt : k < m
    · left
      refine ⟨((many, (wd, ((i : Int), ((pk row (k + 1)).2, ((pk row (k + 1)).1, (len, ((i : Int), ((m : Int), (((k + 1 : Nat) : Int), ()))))))))), (es, (mss, (s, ())))), ⟨k + 1, hlt, rfl⟩, by simp only [Int.toNat_natCast]; omega, ?_⟩
      have d0 : decide ((k : Int) < (m : Int)) = true := by simpa using hlt
      have d1 : decide ((0 : Int) ≤ (i : Int)) = true := by simp
      have d2 : decide ((i : Int) < ((s.length : Nat) : Int)) = true := by simpa using his
      have d3 : decide ((0 : Int) ≤ (k : Int)) = true := by simp
      have d4 : decide ((k : Int) < ((row.length : Nat) : Int)) = true := by rw [hrl]; exact d0
      simp only [W.leatlaw44_MeterSeries_L14, W.leatlaw44_MeterSeries_L14_j1, d0, d1, d2, d3, Bool.and_self, cond_true, Int.toNat_natCast, hrow, d4, i_next (show k < 1000 by omega), hk k hlt, Option.bind_some, beq_self_eq_true, Bool.not_true, cond_false, pk]
      generalize row.getD k 0 = v
      by_cases c1 : (pk row k).1 < 0
      · simp [c1]
      · by_cases c2 : (pk row k).2 < v
        · simp [c1, c2]
        · simp [c1, c2]
    · right
      have : k = m := by omega
      subst this
      simp [W.leatlaw44_MeterSeries_L14]) N _ ⟨0, by omega, by simp [pk]⟩ (by simp; omega)

theorem L8_loop (N : Nat) (hN : 1000 < N) (es : List E6) (mss : List Int) (many wd : Int) (m : Nat) (hmany : imx many 0 = (m : Int)) (hm : m < 1000) (s : List (List Int)) (hs : s.length < 1000)
    (hrl : ∀ i : Nat, i < s.length → (s.getD i []).length = m)
    (hk : ∀ i k : Nat, i < s.length → k < m → W.leatref44_Told N es mss (i : Int) (IntKind.wrap .i64 (wd * (k : Int))) (IntKind.wrap .i64 (IntKind.wrap .i64 (wd * (k : Int)) + wd)) = some ((s.getD i []).getD k 0)) :
    iter (W.leatlaw44_MeterSeries_L8 N) N ((many, (wd, (((s.length : Nat) : Int), (0, ())))), (es, (mss, (s, ())))) = some (.inr ((), ())) :=
  iter_some (round := W.leatlaw44_MeterSeries_L8 N) (fun x => ∃ i : Nat, i ≤ s.length ∧ x = ((many, (wd, (((s.length : Nat) : Int), ((i : Int), ())))), (es, (mss, (s, ()))))) (fun x => s.length - x.1.2.2.2.1.toNat) _ (by
    rintro F _ ⟨i, hi, rfl⟩
    by_cases hlt : i < s.length
    · left
      refine ⟨((many, (wd, (((s.length : Nat) : Int), (((i + 1 : Nat) : Int), ())))), (es, (mss, (s, ())))), ⟨i + 1, hlt, rfl⟩, by simp only [Int.toNat_natCast]; omega, ?_⟩
      have d1 : decide ((0 : Int) ≤ (i : Int)) = true := by simp
      have d2 : decide ((i : Int) < ((s.length : Nat) : Int)) = true := by simpa using hlt
      have e1 := hrl i hlt
      have e2 := L14_loop N hN es mss many wd ((s.length : Nat) : Int) m i hm s (s.getD i []) hlt rfl e1 fun k hkm => hk i k hlt hkm
      have e3 := Peak_eq N (s.getD i []) (by omega) hN
      rw [e1] at e3
      simp only [W.leatlaw44_MeterSeries_L8, d1, d2, Bool.and_self, cond_true, Int.toNat_natCast, e1, hmany, beq_self_eq_true, Bool.not_true, cond_false, e2, Option.bind_some, e3, i_next (show i < 1000 by omega)]
    · right
      have : i = s.length := by omega
      subst this
      simp [W.leatlaw44_MeterSeries_L8]) N _ ⟨0, by omega, rfl⟩ (by simp; omega)

theorem MeterSeries_i (es : List E6) (mss : List Int) (a b : Int) (h6 : ∀ e ∈ es, inR e = true) : W.leatlaw44_MeterSeries 3000 es mss (a, b) = some true := by
  have g1 : ∀ n : Nat, (decide ((0 : Int) ≤ imn (n : Int) 60) && decide (imn (n : Int) 60 ≤ (n : Int))) = true := by intro n; rw [imn_eq]; simp; omega
  have g2 : ∀ n : Nat, (decide ((0 : Int) ≤ imn (n : Int) 5) && decide (imn (n : Int) 5 ≤ (n : Int))) = true := by intro n; rw [imn_eq]; simp; omega
  obtain ⟨c1, m1⟩ := cut_le es 60 (by omega)
  obtain ⟨c2, m2⟩ := cut_le mss 5 (by omega)
  simp only [W.leatlaw44_MeterSeries, g1, g2, cond_true]
  generalize cutL es 0 (imn ((es.length : Nat) : Int) 60) = es' at *
  generalize cutL mss 0 (imn ((mss.length : Nat) : Int) 5) = mss' at *
  have k6 : es'.all inR = true := List.all_eq_true.2 fun e he => h6 e (m1 e he)
  have w1 : (1 : Int) ≤ clI a 1 1099511627776 := by simp only [clI]; omega
  have w2 : clI a 1 1099511627776 ≤ 1099511627776 := by simp only [clI]; omega
  have w3 : imn (imx a 1) 1099511627776 = clI a 1 1099511627776 := by simp only [clI, imn_eq, imx_eq]; omega
  have w4 : imx (imx (-5) (imn b 12)) 0 = ((mI (imx (-5) (imn b 12)) : Nat) : Int) := by simp only [mI, imn_eq, imx_eq]; omega
  have w5 : mI (imx (-5) (imn b 12)) ≤ 12 := by simp only [mI, imn_eq, imx_eq]; omega
  have ser : ∀ (xs : List Int) (u v : Int), xs.length ≤ 80 → W.meter_Series 3000 ((u, (v, ())), (es', (xs, ()))) = some ((), (mat (clI u 1 1099511627776) xs.length (mI v) xs (metOf es' ((xs.length : Nat) : Int)), ())) := fun xs u v hx => by
    show seriesT 3000 _ = _
    unfold seriesT
    rw [if_pos ⟨⟨by show xs.length ≤ 1000; omega, by show es'.length ≤ 4000; omega⟩, k6⟩, seriesM_eq]
  have z0 : cutL mss' 0 0 = [] := by simp [cutL]
  rw [z0, ser mss' a _ (by omega), ser [] 5 5 (by simp)]
  generalize imx (-5) (imn b 12) = many at *
  rw [w3]
  generalize clI a 1 1099511627776 = wd at *
  obtain ⟨m, hm⟩ : ∃ m, m = mI many := ⟨_, rfl⟩
  rw [← hm] at w4 w5
  simp only [← hm, Option.bind_some]
  have sl : (mat wd mss'.length m mss' (metOf es' ((mss'.length : Nat) : Int))).length = mss'.length := by simp [mat]
  have s0 : ∀ x y q w, (mat x 0 y q w).length = 0 := fun _ _ _ _ => by simp [mat]
  obtain ⟨s, hs⟩ : ∃ s, s = mat wd mss'.length m mss' (metOf es' ((mss'.length : Nat) : Int)) := ⟨_, rfl⟩
  rw [← hs] at sl ⊢
  have d0 : decide ((0 : Int) ≤ ((mss'.length : Nat) : Int)) = true := by simp
  have loop := L8_loop 3000 (by omega) es' mss' many wd m w4 (by omega) s (by omega) (fun i hi => by
    rw [hs, mat_row _ _ _ _ _ (by omega)]; simp) fun i k hi hk => by
    have t1 : (0 : Int) ≤ wd * k := Int.mul_nonneg (by omega) (Int.natCast_nonneg k)
    have t2 : wd * k ≤ 1099511627776 * 12 := Int.mul_le_mul w2 (by omega) (Int.natCast_nonneg k) (by omega)
    rw [hs, mat_row _ _ _ _ _ (by omega), row_at _ hk, wrapI64 (x := wd * k) (by omega) (by omega), wrapI64 (x := wd * k + wd) (by omega) (by omega), Told_eq 3000 es' mss' i (by omega) _ _ (by omega) (by omega)]
    congr 2
    funext e
    exact (sP_eq wd w1 i k e).symm
  simp only [sl, beq_self_eq_true, Bool.not_true, cond_true, d0, List.length_nil, s0] at loop ⊢
  simp [loop, meter_works]

theorem MeterSeries (x : RT [.row 37 [.int .i64, .int .i64, .int .i64, .int .i64, .int .i64, .int .i64], .row 2 [.int .i64], .agg [.int .i64, .int .i64]]) (h : RT.wf _ x) : ∃ N, uncR [.row 37 [.int .i64, .int .i64, .int .i64, .int .i64, .int .i64, .int .i64], .row 2 [.int .i64], .agg [.int .i64, .int .i64]] (W.leatlaw44_MeterSeries N) x = some true := by
  obtain ⟨es, mss, a, b⟩ := x
  refine ⟨3000, MeterSeries_i es mss a b fun e he => ?_⟩
  have h1 := h.1.2 e he
  exact decide_eq_true (i64_range h1.1).2
end Go.Proofs.Ythgingjebobhaaa.Pure
