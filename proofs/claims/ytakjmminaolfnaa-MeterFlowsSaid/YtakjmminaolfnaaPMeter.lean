/- The counts of each flow: what each function of the program and of the document's answer comes to. -/
import Derived.Test.YtakjmminaolfnaaPSat
namespace Go.Proofs.Ytakjmminaolfnaa.Pure
open Go.Ev Go.RowKit

theorem sadd_I (a b : Int) : I64 (sadd a b) := by
  constructor <;> (simp only [sadd, cl]; omega)

abbrev E6 : Type := Int × Int × Int × Int × Int × Int
abbrev S12 : Type := Int × Int × Int × Int × Int × Int × Int × Int × Int × Int × Int × Int × Unit
abbrev T6 (e : E6) : Int := e.1
abbrev K6 (e : E6) : Int := e.2.1
abbrev F6 (e : E6) : Int := e.2.2.1
abbrev A6 (e : E6) : Int := e.2.2.2.2.1
abbrev B6 (e : E6) : Int := e.2.2.2.2.2

def kf (j k : Int) (e : E6) : Bool := F6 e == j && K6 e == k
def num (P : E6 → Bool) (p : List E6) : Int := (p.countP P : Nat)
def lng (j : Int) (p : List E6) : Int := p.foldl (fun v e => if kf j 3 e then max v (B6 e) else v) 0
def wtd (j : Int) (p : List E6) : Int := p.foldl (fun v e => if kf j 3 e then sadd v (B6 e) else v) 0
def mrk (j : Int) (e : E6) : Bool := kf j 3 e && A6 e == 3
def dor (j : Int) (e : E6) : Bool := kf j 2 e && B6 e == 1
def wyy (j : Int) (e : E6) : Bool := kf j 2 e && !(B6 e == 1)

theorem num_app (P : E6 → Bool) (p : List E6) (e : E6) : num P (p ++ [e]) = num P p + if P e then 1 else 0 := by
  simp only [num, List.countP_append, List.countP_singleton]
  split <;> simp_all

theorem num_le (P : E6 → Bool) (p : List E6) : 0 ≤ num P p ∧ num P p ≤ p.length := by
  have := List.countP_le_length (p := P) (l := p)
  simp only [num]
  omega

theorem lng_app (j : Int) (p : List E6) (e : E6) : lng j (p ++ [e]) = if kf j 3 e then max (lng j p) (B6 e) else lng j p := by
  simp only [lng, List.foldl_append, List.foldl_cons, List.foldl_nil]

theorem wtd_app (j : Int) (p : List E6) (e : E6) : wtd j (p ++ [e]) = if kf j 3 e then sadd (wtd j p) (B6 e) else wtd j p := by
  simp only [wtd, List.foldl_append, List.foldl_cons, List.foldl_nil]

theorem wtd_I (j : Int) (p : List E6) : I64 (wtd j p) := by
  have h : ∀ (p : List E6) (v : Int), I64 v → I64 (p.foldl (fun v e => if kf j 3 e then sadd v (B6 e) else v) v) := by
    intro p
    induction p with
    | nil => intro v hv; exact hv
    | cons e t ih =>
      intro v hv
      simp only [List.foldl_cons]
      apply ih
      split
      · exact sadd_I _ _
      · exact hv
  exact h p 0 ⟨by omega, by omega⟩

/-- What is counted of one flow. -/
def spc (p : List E6) (j s : Int) : R12 :=
  (num (kf j 1) p, num (kf j 3) p, num (mrk j) p, num (dor j) p, num (wyy j) p, num (kf j 6) p, num (kf j 5) p, num (kf j 4) p, num (kf j 7) p, num (kf j 3) p * s, lng j p, wtd j p)

theorem spc_other (p : List E6) (e : E6) {j : Int} (s : Int) (h : F6 e ≠ j) : spc (p ++ [e]) j s = spc p j s := by
  have hk : ∀ k, kf j k e = false := by intro k; simp [kf, h]
  simp [spc, num_app, lng_app, wtd_app, mrk, dor, wyy, hk]

theorem getD_lt {α : Type} (xs : List α) (d : α) {i : Nat} (h : i < xs.length) : xs.getD i d = xs[i] := by
  simp [List.getD, List.getElem?_eq_getElem h]

theorem metSet_set (xs : List R12) (i : Nat) (r : R12) (j : Nat) (f : Int → Int) (h : i < xs.length) : metSet (xs.set i r) i j f = xs.set i (set12 r (f (get12 r j)) j) := by
  have : (xs.set i r).getD i z12 = r := by rw [getD_lt _ _ (by simpa using h)]; simp
  simp only [metSet, this, List.set_set]

theorem metGet_set (xs : List R12) (i : Nat) (r : R12) (j : Nat) (h : i < xs.length) : metGet (xs.set i r) i j = get12 r j := by
  have : (xs.set i r).getD i z12 = r := by rw [getD_lt _ _ (by simpa using h)]; simp
  simp only [metGet, this]

theorem metSet_one (xs : List R12) (i : Nat) (j : Nat) (f : Int → Int) : metSet xs i j f = xs.set i (set12 (xs.getD i z12) (f (get12 (xs.getD i z12) j)) j) := rfl

theorem count_eq (N : Nat) (p : List E6) (e : E6) (xs : List R12) (i : Nat) (s : Int) (hi : i < xs.length) (hx : xs.getD i z12 = spc p (F6 e) s) (hp : p.length < 1000) (hs : 1 ≤ s ∧ s ≤ 65536) (he : I64 (B6 e)) :
    W.meter_count N ((i, (e, (s, ()))), (xs, ())) = some ((), (xs.set i (spc (p ++ [e]) (F6 e) s), ())) := by
  obtain ⟨t, k, j, q, a, b⟩ := e
  simp only [F6, B6] at hx he ⊢
  have hw := wtd_I j p
  have w1 : ∀ P, IntKind.wrap .i64 (num P p + 1) = num P p + 1 := by
    intro P; have := num_le P p; exact wrapI64 (by omega) (by omega)
  have w2 : IntKind.wrap .i64 (num (kf j 3) p * s + s) = (num (kf j 3) p + 1) * s := by
    have h := num_le (kf j 3) p
    have h1 := Int.mul_nonneg h.1 (show 0 ≤ s by omega)
    have h2 := Int.mul_le_mul (show num (kf j 3) p ≤ 1000 by omega) hs.2 (by omega) (by omega)
    rw [wrapI64 (by omega) (by omega), Int.add_mul, Int.one_mul]
  have hb : ∀ c f, metSet xs i c f = xs.set i (set12 (spc p j s) (f (get12 (spc p j s) c)) c) := by
    intro c f; simp only [metSet, hx]
  have hn : xs.set i (spc p j s) = xs := by
    rw [← hx, getD_lt _ _ hi]; simp
  simp only [W.meter_count, hb, metSet_set _ _ _ _ _ hi, metGet_set _ _ _ _ hi]
  simp only [spc, get12, set12, w1, w2, num_app, lng_app, wtd_app, mrk, dor, wyy, kf, F6, K6, A6, B6, imx_eq, sat_Add_eq N hw he, Option.bind_some]
  by_cases k1 : k = 1
  · subst k1; simp
  by_cases k3 : k = 3
  · subst k3
    by_cases ha : a = 3
    · subst ha; simp
    · simp [beq_false_of_ne ha]
  by_cases k2 : k = 2
  · subst k2
    by_cases hb : b = 1
    · subst hb; simp
    · simp [beq_false_of_ne hb]
  by_cases k6 : k = 6
  · subst k6; simp
  by_cases k5 : k = 5
  · subst k5; simp
  by_cases k4 : k = 4
  · subst k4; simp
  by_cases k7 : k = 7
  · subst k7; simp
  simp only [spc] at hn
  simp [beq_false_of_ne k1, beq_false_of_ne k2, beq_false_of_ne k3, beq_false_of_ne k4, beq_false_of_ne k5, beq_false_of_ne k6, beq_false_of_ne k7, hn]

def mz (mss : List Int) (j : Nat) : Int := cl (mss.getD j 0) 1 65536
theorem mz_b (mss : List Int) (j : Nat) : 1 ≤ mz mss j ∧ mz mss j ≤ 65536 := by
  simp only [mz, cl]; omega

theorem size_eq (N : Nat) (mss : List Int) (j : Nat) (h : j < mss.length) : W.meter_size N mss (j : Int) = some (mz mss j) := by
  have h1 : decide ((0 : Int) ≤ (j : Int)) = true := by simp
  have h2 : decide ((j : Int) < ((mss.length : Nat) : Int)) = true := by simpa using h
  simp only [W.meter_size, h1, h2, Bool.and_self, cond_true, sat_Clamp_eq, Option.bind_some, Int.toNat_natCast, mz]

theorem Size_eq (N : Nat) (mss : List Int) (j : Nat) (h : j < mss.length) : W.leatref44_Size N mss (j : Int) = some (mz mss j) := by
  have h1 : decide ((0 : Int) ≤ (j : Int)) = true := by simp
  have h2 : decide ((j : Int) < ((mss.length : Nat) : Int)) = true := by simpa using h
  simp only [W.leatref44_Size, h1, h2, Bool.and_self, cond_true, Int.toNat_natCast, mz, imn_eq, imx_eq, cl, Option.some.injEq]
  omega

theorem map_set {β : Type} (n : Nat) (f g : Nat → β) (j : Nat) (h : ∀ k, k ≠ j → f k = g k) : ((List.range n).map f).set j (g j) = (List.range n).map g := by
  apply List.ext_getElem
  · simp
  · intro k h1 h2
    simp only [List.getElem_set, List.getElem_map, List.getElem_range]
    split
    · rename_i he; rw [he]
    · rename_i he; exact h k (fun hh => he hh.symm)

theorem flows_loop (N : Nat) (mss : List Int) (c0 : Int) (es : List E6) : ∀ (its p : List E6), (∀ e ∈ its, (0 ≤ F6 e ∧ F6 e < mss.length) ∧ I64 (B6 e)) → p.length + its.length < 1000 →
    itR (W.meter_Flows_R4 N) its ((), ((), ((), ((), ((c0, ()), (mss, ((List.range mss.length).map (fun j : Nat => spc p (j : Int) (mz mss j)), (es, ())))))))) =
      some ((), ((), ((), ((), ((c0, ()), (mss, ((List.range mss.length).map (fun j : Nat => spc (p ++ its) (j : Int) (mz mss j)), (es, ())))))))) := by
  intro its
  induction its with
  | nil => intro p _ _; simp [itR]
  | cons e t ih =>
    intro p hall hl
    simp only [List.length_cons] at hl
    obtain ⟨⟨hf1, hf2⟩, hb⟩ := hall e (by simp)
    obtain ⟨j, hj⟩ : ∃ j : Nat, F6 e = (j : Int) := ⟨(F6 e).toNat, by omega⟩
    have hj' : j < mss.length := by omega
    have h1 : decide ((0 : Int) ≤ e.2.2.1) = true := by simpa using hf1
    have h2 : decide (e.2.2.1 < ((((List.range mss.length).map (fun j : Nat => spc p (j : Int) (mz mss j))).length : Nat) : Int)) = true := by simpa using hf2
    have h3 : W.meter_size N mss e.2.2.1 = some (mz mss j) := by rw [show e.2.2.1 = (j : Int) from hj]; exact size_eq N mss j hj'
    have h4 := count_eq N p e ((List.range mss.length).map (fun j : Nat => spc p (j : Int) (mz mss j))) j (mz mss j) (by simpa using hj') (by rw [getD_lt _ _ (by simpa using hj'), hj]; simp) (by omega) (mz_b mss j) hb
    have h5 := map_set mss.length (fun j : Nat => spc p (j : Int) (mz mss j)) (fun j : Nat => spc (p ++ [e]) (j : Int) (mz mss j)) j (fun k hk => (spc_other p e _ (by omega)).symm)
    simp only [itR, W.meter_Flows_R4, h1, h2, h3, Bool.and_self, cond_true, Option.bind_some]
    rw [show e.2.2.1.toNat = j by have h8 : e.2.2.1 = (j : Int) := hj; omega, h4]
    simp only [Option.bind_some]
    rw [hj, h5, ih (p ++ [e]) (fun e' he' => hall e' (by simp [he'])) (by simp; omega)]
    simp

theorem replicate_map (n : Nat) (mss : List Int) : List.replicate n z12 = (List.range n).map (fun j : Nat => spc [] (j : Int) (mz mss j)) := by
  apply List.ext_getElem
  · simp
  · intro k h1 h2
    simp [spc, num, lng, wtd, z12]

theorem of_all (es : List E6) (n : Nat) (h6 : ∀ e ∈ es, I64 (B6 e)) : ∀ e ∈ metOf es (n : Int), (0 ≤ F6 e ∧ F6 e < n) ∧ I64 (B6 e) := by
  intro e he
  simp only [metOf, List.mem_filter, metP, Bool.and_eq_true, decide_eq_true_eq] at he
  exact ⟨he.2.2, h6 e he.1⟩

theorem Flows_eq (N : Nat) (es : List E6) (mss : List Int) (h6 : ∀ e ∈ es, I64 (B6 e)) (he : es.length < 1000) (hm : mss.length < 1000) :
    W.meter_Flows N es mss = some ((List.range mss.length).map (fun j : Nat => spc (metOf es (mss.length : Int)) (j : Int) (mz mss j))) := by
  have hl : (metOf es (mss.length : Int)).length ≤ es.length := List.length_filter_le ..
  have h1 : decide ((0 : Int) ≤ ((mss.length : Nat) : Int)) = true := by simp
  have h3 : decide (((mss.length : Nat) : Int) * 96 ≤ 140737488355328) = true := by simp; omega
  have h4 : decide (((mss.length : Nat) : Int) ≤ 140737488355328) = true := by simp; omega
  have h5 : decide (es.length ≤ 1000000000) = true := by simp; omega
  have h := flows_loop N mss (mss.length : Int) es (metOf es (mss.length : Int)) [] (of_all es mss.length h6) (by simp; omega)
  rw [← replicate_map mss.length mss] at h
  simp only [W.meter_Flows, h1, h3, h4, h5, cond_true, Option.bind_some, Int.toNat_natCast]
  simp only [z12, List.nil_append] at h
  rw [h]
  rfl

theorem take_next {α : Type} (xs : List α) {i : Nat} (h : i < xs.length) : xs.take (i + 1) = xs.take i ++ [xs[i]] := by
  rw [List.take_add_one, List.getElem?_eq_getElem h]; rfl

theorem i_next {i : Nat} (h : i < 1000) : IntKind.wrap .i64 ((i : Int) + 1) = ((i + 1 : Nat) : Int) := by
  rw [wrapI64 (by omega) (by omega)]; rfl

theorem Of_eq (N : Nat) (es : List E6) (n : Int) (he : es.length < 1000) (hN : 1000 < N) : W.leatref44_Of N es n = some (metOf es n) := by
  have h := iter_some (round := W.leatref44_Of_L3 N) (fun x => ∃ i : Nat, i ≤ es.length ∧ x = ((n, ((i : Int), ())), (es, (metOf (es.take i) n, ())))) (fun x => es.length - x.1.2.1.toNat) ((), (metOf es n, ())) (by
    rintro F _ ⟨i, hi, rfl⟩
    by_cases hlt : i < es.length
    · left
      refine ⟨((n, (((i + 1 : Nat) : Int), ())), (es, (metOf (es.take (i + 1)) n, ()))), ⟨i + 1, hlt, rfl⟩, by simp only [Int.toNat_natCast]; omega, ?_⟩
      have d1 : decide ((0 : Int) ≤ (i : Int)) = true := by simp
      have d2 : decide ((i : Int) < ((es.length : Nat) : Int)) = true := by simpa using hlt
      have d3 := getD_lt es ((0, (0, (0, (0, (0, 0))))) : E6) hlt
      have hl : (metOf (es.take i) n).length ≤ 1000 := Nat.le_trans (List.length_filter_le ..) (by simp; omega)
      have d4 : decide (((metOf (es.take i) n).length + [es[i]].length) * 48 ≤ 140737488355328) = true := by simp; omega
      have d5 : ((metOf (es.take i) n).length + [es[i]].length) * 48 ≤ 140737488355328 := by simp; omega
      simp only [W.leatref44_Of_L3, d1, d2, d3, Bool.and_self, cond_true, Int.toNat_natCast, i_next (show i < 1000 by omega), decide_eq_true d5]
      rw [take_next es hlt]
      generalize es[i] = e
      simp only [metOf, List.filter_append]
      by_cases c1 : e.2.1 = 8
      · have : metP n e = false := by simp [metP, c1]
        simp [this, c1]
      · by_cases c2 : 0 ≤ e.2.2.1
        · by_cases c3 : e.2.2.1 < n
          · have : metP n e = true := by simp [metP, c1, c2, c3]
            simp [this, beq_false_of_ne c1, c2, c3]
          · have : metP n e = false := by simp [metP, c3]
            simp [this, beq_false_of_ne c1, c2, c3]
        · have : metP n e = false := by simp [metP, c2]
          simp [this, beq_false_of_ne c1, c2]
    · right
      have : i = es.length := by omega
      subst this
      simp [W.leatref44_Of_L3]) N ((n, (0, ())), (es, ([], ()))) ⟨0, by omega, by simp [metOf]⟩ (by simp; omega)
  simp only [W.leatref44_Of, h, Option.bind_some]

theorem number_eq (N : Nat) (es : List E6) (j k : Int) (he : es.length < 1000) (hN : 1000 < N) : W.leatref44_number N es j k = some (num (kf j k) es) := by
  have h := iter_some (round := W.leatref44_number_L3 N) (fun x => ∃ i : Nat, i ≤ es.length ∧ x = ((j, (k, (num (kf j k) (es.take i), ((i : Int), ())))), (es, ()))) (fun x => es.length - x.1.2.2.2.1.toNat) ((num (kf j k) es, ()), ()) (by
    rintro F _ ⟨i, hi, rfl⟩
    by_cases hlt : i < es.length
    · left
      refine ⟨((j, (k, (num (kf j k) (es.take (i + 1)), (((i + 1 : Nat) : Int), ())))), (es, ())), ⟨i + 1, hlt, rfl⟩, by simp only [Int.toNat_natCast]; omega, ?_⟩
      have d1 : decide ((0 : Int) ≤ (i : Int)) = true := by simp
      have d2 : decide ((i : Int) < ((es.length : Nat) : Int)) = true := by simpa using hlt
      have d3 := getD_lt es ((0, (0, (0, (0, (0, 0))))) : E6) hlt
      have hn := num_le (kf j k) (es.take i)
      have hl : (es.take i).length ≤ 1000 := by simp; omega
      have d4 : IntKind.wrap .i64 (num (kf j k) (es.take i) + 1) = num (kf j k) (es.take i) + 1 := wrapI64 (by omega) (by omega)
      simp only [W.leatref44_number_L3, d1, d2, d3, Bool.and_self, cond_true, Int.toNat_natCast, i_next (show i < 1000 by omega), d4]
      rw [take_next es hlt, num_app]
      generalize es[i] = e
      by_cases c1 : e.2.2.1 = j
      · by_cases c2 : e.2.1 = k
        · simp [kf, c1, c2]
        · simp [kf, c1, beq_false_of_ne c2]
      · simp [kf, beq_false_of_ne c1]
    · right
      have : i = es.length := by omega
      subst this
      simp [W.leatref44_number_L3]) N ((j, (k, (0, (0, ())))), (es, ())) ⟨0, by omega, by simp [num]⟩ (by simp; omega)
  simp only [W.leatref44_number, h, Option.bind_some]

def flo (es : List E6) (j s : Int) (p : List E6) : S12 :=
  (num (kf j 1) es, (num (kf j 3) es, (num (mrk j) p, (num (dor j) p, (num (wyy j) p, (num (kf j 6) es, (num (kf j 5) es, (num (kf j 4) es, (num (kf j 7) es, (num (kf j 3) es * s, (lng j p, (wtd j p, ()))))))))))))

def z12s : S12 := (0, (0, (0, (0, (0, (0, (0, (0, (0, (0, (0, (0, ()))))))))))))

theorem Flow_eq (N : Nat) (es : List E6) (j s : Int) (he : es.length < 1000) (hN : 1000 < N) (hs : 1 ≤ s ∧ s ≤ 65536) (h6 : ∀ e ∈ es, I64 (B6 e)) : W.leatref44_Flow N es j s = some (spc es j s) := by
  have h := iter_some (round := W.leatref44_Flow_L4 N) (fun x => ∃ i : Nat, i ≤ es.length ∧ x = ((j, ((i : Int), ())), (es, (z12s, (flo es j s (es.take i), ()))))) (fun x => es.length - x.1.2.1.toNat) ((), (z12s, (flo es j s es, ()))) (by
    rintro F _ ⟨i, hi, rfl⟩
    by_cases hlt : i < es.length
    · left
      refine ⟨((j, (((i + 1 : Nat) : Int), ())), (es, (z12s, (flo es j s (es.take (i + 1)), ())))), ⟨i + 1, hlt, rfl⟩, by simp only [Int.toNat_natCast]; omega, ?_⟩
      have d1 : decide ((0 : Int) ≤ (i : Int)) = true := by simp
      have d2 : decide ((i : Int) < ((es.length : Nat) : Int)) = true := by simpa using hlt
      have d3 := getD_lt es ((0, (0, (0, (0, (0, 0))))) : E6) hlt
      have hb := h6 es[i] (List.getElem_mem _)
      have hl : (es.take i).length ≤ 1000 := by simp; omega
      have d4 : ∀ P, IntKind.wrap .i64 (num P (es.take i) + 1) = num P (es.take i) + 1 := by
        intro P; have hn := num_le P (es.take i); exact wrapI64 (by omega) (by omega)
      have d5 := leatref01_Add_eq N (wtd_I j (es.take i)) hb
      simp only [W.leatref44_Flow_L4, W.leatref44_Flow_L4_j1, W.leatref44_Flow_L4_j2, W.leatref44_Flow_L4_j3, flo, z12s, d1, d2, d3, Bool.and_self, cond_true, Int.toNat_natCast, i_next (show i < 1000 by omega), d4, d5, Option.bind_some, imx_eq]
      rw [take_next es hlt]
      clear d3 d5 hb
      generalize es[i] = e
      obtain ⟨t, k, f, q, a, b⟩ := e
      simp only [num_app, lng_app, wtd_app, mrk, dor, wyy, kf, F6, K6, A6, B6]
      by_cases c1 : f = j
      · subst c1
        by_cases k3 : k = 3
        · subst k3
          by_cases ha : a = 3
          · subst ha; simp
          · simp [beq_false_of_ne ha]
        · by_cases k2 : k = 2
          · subst k2
            by_cases hb : b = 1
            · subst hb; simp
            · simp [beq_false_of_ne hb]
          · simp [beq_false_of_ne k3, beq_false_of_ne k2]
      · simp [beq_false_of_ne c1]
    · right
      have : i = es.length := by omega
      subst this
      simp [W.leatref44_Flow_L4, flo, z12s]) N ((j, (0, ())), (es, (z12s, (flo es j s [], ())))) ⟨0, by omega, by simp⟩ (by simp; omega)
  have hw : IntKind.wrap .i64 (num (kf j 3) es * s) = num (kf j 3) es * s := by
    have h := num_le (kf j 3) es
    have h1 := Int.mul_nonneg h.1 (show 0 ≤ s by omega)
    have h2 := Int.mul_le_mul (show num (kf j 3) es ≤ 1000 by omega) hs.2 (by omega) (by omega)
    exact wrapI64 (by omega) (by omega)
  have e0 : flo es j s [] = (num (kf j 1) es, (num (kf j 3) es, (0, (0, (0, (num (kf j 6) es, (num (kf j 5) es, (num (kf j 4) es, (num (kf j 7) es, (num (kf j 3) es * s, (0, (0, ())))))))))))) := rfl
  rw [e0, z12s] at h
  simp only [W.leatref44_Flow, number_eq N es j _ he hN, Option.bind_some, hw, h]
  rfl

theorem Flows_ref (N : Nat) (es : List E6) (mss : List Int) (h6 : ∀ e ∈ es, I64 (B6 e)) (he : es.length < 1000) (hm : mss.length < 1000) (hN : 1000 < N) :
    W.leatref44_Flows N es mss = some ((List.range mss.length).map (fun j : Nat => spc (metOf es (mss.length : Int)) (j : Int) (mz mss j))) := by
  have hl : (metOf es (mss.length : Int)).length ≤ es.length := List.length_filter_le ..
  have h := iter_some (round := W.leatref44_Flows_L3 N) (fun x => ∃ i : Nat, i ≤ mss.length ∧ x = (((i : Int), ()), (es, (mss, ((List.range i).map (fun j : Nat => spc (metOf es (mss.length : Int)) (j : Int) (mz mss j)), ()))))) (fun x => mss.length - x.1.1.toNat) ((), ((List.range mss.length).map (fun j : Nat => spc (metOf es (mss.length : Int)) (j : Int) (mz mss j)), ())) (by
    rintro F _ ⟨i, hi, rfl⟩
    by_cases hlt : i < mss.length
    · left
      refine ⟨((((i + 1 : Nat) : Int), ()), (es, (mss, ((List.range (i + 1)).map (fun j : Nat => spc (metOf es (mss.length : Int)) (j : Int) (mz mss j)), ())))), ⟨i + 1, hlt, rfl⟩, by simp only [Int.toNat_natCast]; omega, ?_⟩
      have d2 : decide ((i : Int) < ((mss.length : Nat) : Int)) = true := by simpa using hlt
      have d3 := Flow_eq N (metOf es (mss.length : Int)) (i : Int) (mz mss i) (by omega) hN (mz_b mss i) (fun e hx => (of_all es mss.length h6 e hx).2)
      have d5 : (((List.range i).map (fun j : Nat => spc (metOf es (mss.length : Int)) (j : Int) (mz mss j))).length + [spc (metOf es (mss.length : Int)) (i : Int) (mz mss i)].length) * 96 ≤ 140737488355328 := by simp; omega
      simp only [W.leatref44_Flows_L3, d2, cond_true, Of_eq N es _ he hN, Size_eq N mss i hlt, d3, Option.bind_some, decide_eq_true d5, i_next (show i < 1000 by omega)]
      rw [List.range_succ, List.map_append]
      rfl
    · right
      have : i = mss.length := by omega
      subst this
      simp [W.leatref44_Flows_L3]) N (((0 : Int), ()), (es, (mss, ([], ())))) ⟨0, by omega, by simp⟩ (by simp; omega)
  simp only [W.leatref44_Flows, h, Option.bind_some]

theorem same_eq (N : Nat) (xs : List R12) (h : xs.length < 2000) (hN : 2000 < N) : W.leatlaw44_same N xs xs = some true := by
  have h := iter_some (round := W.leatlaw44_same_L4 N) (fun x => ∃ i : Nat, i ≤ xs.length ∧ x = (((xs.length : Int), ((i : Int), ())), (xs, (xs, ())))) (fun x => xs.length - x.1.2.1.toNat) (.inr ((), ())) (by
    rintro F _ ⟨i, hi, rfl⟩
    by_cases hlt : i < xs.length
    · left
      refine ⟨(((xs.length : Int), (((i + 1 : Nat) : Int), ())), (xs, (xs, ()))), ⟨i + 1, hlt, rfl⟩, by simp only [Int.toNat_natCast]; omega, ?_⟩
      have d1 : decide ((0 : Int) ≤ (i : Int)) = true := by simp
      have d2 : decide ((i : Int) < ((xs.length : Nat) : Int)) = true := by simpa using hlt
      have d3 : IntKind.wrap .i64 ((i : Int) + 1) = ((i + 1 : Nat) : Int) := by rw [wrapI64 (by omega) (by omega)]; rfl
      simp only [W.leatlaw44_same_L4, d1, d2, d3, Bool.and_self, cond_true, beq_self_eq_true, Bool.not_true, cond_false]
    · right
      have : i = xs.length := by omega
      subst this
      simp [W.leatlaw44_same_L4]) N (((xs.length : Int), (0, ())), (xs, (xs, ()))) ⟨0, by omega, rfl⟩ (by simp; omega)
  simp only [W.leatlaw44_same, beq_self_eq_true, Bool.not_true, cond_false, h, Option.bind_some]

theorem all_step0 (N : Nat) (F : _ → Option _) (n i : Int) (a : S12) (b0 b1 b2 b3 b4 b5 b6 b7 b8 b9 b10 b11 c0 c1 c2 c3 c4 c5 c6 c7 c8 c9 c10 c11 : Int) (rs : List R12) (hb : I64 b0) (hc : I64 c0) :
    W.meter_All_L6 N F ((n, (i, ((), (0, ())))), (a, ((b0, (b1, (b2, (b3, (b4, (b5, (b6, (b7, (b8, (b9, (b10, (b11, ())))))))))))), ((c0, (c1, (c2, (c3, (c4, (c5, (c6, (c7, (c8, (c9, (c10, (c11, ())))))))))))), (rs, ()))))) = F ((n, (i, ((), (1, ())))), (a, ((sadd b0 c0, (b1, (b2, (b3, (b4, (b5, (b6, (b7, (b8, (b9, (b10, (b11, ())))))))))))), ((c0, (c1, (c2, (c3, (c4, (c5, (c6, (c7, (c8, (c9, (c10, (c11, ())))))))))))), (rs, ()))))) := by
  simp [W.meter_All_L6, sat_Add_eq N hb hc]

theorem all_step1 (N : Nat) (F : _ → Option _) (n i : Int) (a : S12) (b0 b1 b2 b3 b4 b5 b6 b7 b8 b9 b10 b11 c0 c1 c2 c3 c4 c5 c6 c7 c8 c9 c10 c11 : Int) (rs : List R12) (hb : I64 b1) (hc : I64 c1) :
    W.meter_All_L6 N F ((n, (i, ((), (1, ())))), (a, ((b0, (b1, (b2, (b3, (b4, (b5, (b6, (b7, (b8, (b9, (b10, (b11, ())))))))))))), ((c0, (c1, (c2, (c3, (c4, (c5, (c6, (c7, (c8, (c9, (c10, (c11, ())))))))))))), (rs, ()))))) = F ((n, (i, ((), (2, ())))), (a, ((b0, (sadd b1 c1, (b2, (b3, (b4, (b5, (b6, (b7, (b8, (b9, (b10, (b11, ())))))))))))), ((c0, (c1, (c2, (c3, (c4, (c5, (c6, (c7, (c8, (c9, (c10, (c11, ())))))))))))), (rs, ()))))) := by
  simp [W.meter_All_L6, sat_Add_eq N hb hc]

theorem all_step2 (N : Nat) (F : _ → Option _) (n i : Int) (a : S12) (b0 b1 b2 b3 b4 b5 b6 b7 b8 b9 b10 b11 c0 c1 c2 c3 c4 c5 c6 c7 c8 c9 c10 c11 : Int) (rs : List R12) (hb : I64 b2) (hc : I64 c2) :
    W.meter_All_L6 N F ((n, (i, ((), (2, ())))), (a, ((b0, (b1, (b2, (b3, (b4, (b5, (b6, (b7, (b8, (b9, (b10, (b11, ())))))))))))), ((c0, (c1, (c2, (c3, (c4, (c5, (c6, (c7, (c8, (c9, (c10, (c11, ())))))))))))), (rs, ()))))) = F ((n, (i, ((), (3, ())))), (a, ((b0, (b1, (sadd b2 c2, (b3, (b4, (b5, (b6, (b7, (b8, (b9, (b10, (b11, ())))))))))))), ((c0, (c1, (c2, (c3, (c4, (c5, (c6, (c7, (c8, (c9, (c10, (c11, ())))))))))))), (rs, ()))))) := by
  simp [W.meter_All_L6, sat_Add_eq N hb hc]

theorem all_step3 (N : Nat) (F : _ → Option _) (n i : Int) (a : S12) (b0 b1 b2 b3 b4 b5 b6 b7 b8 b9 b10 b11 c0 c1 c2 c3 c4 c5 c6 c7 c8 c9 c10 c11 : Int) (rs : List R12) (hb : I64 b3) (hc : I64 c3) :
    W.meter_All_L6 N F ((n, (i, ((), (3, ())))), (a, ((b0, (b1, (b2, (b3, (b4, (b5, (b6, (b7, (b8, (b9, (b10, (b11, ())))))))))))), ((c0, (c1, (c2, (c3, (c4, (c5, (c6, (c7, (c8, (c9, (c10, (c11, ())))))))))))), (rs, ()))))) = F ((n, (i, ((), (4, ())))), (a, ((b0, (b1, (b2, (sadd b3 c3, (b4, (b5, (b6, (b7, (b8, (b9, (b10, (b11, ())))))))))))), ((c0, (c1, (c2, (c3, (c4, (c5, (c6, (c7, (c8, (c9, (c10, (c11, ())))))))))))), (rs, ()))))) := by
  simp [W.meter_All_L6, sat_Add_eq N hb hc]

theorem all_step4 (N : Nat) (F : _ → Option _) (n i : Int) (a : S12) (b0 b1 b2 b3 b4 b5 b6 b7 b8 b9 b10 b11 c0 c1 c2 c3 c4 c5 c6 c7 c8 c9 c10 c11 : Int) (rs : List R12) (hb : I64 b4) (hc : I64 c4) :
    W.meter_All_L6 N F ((n, (i, ((), (4, ())))), (a, ((b0, (b1, (b2, (b3, (b4, (b5, (b6, (b7, (b8, (b9, (b10, (b11, ())))))))))))), ((c0, (c1, (c2, (c3, (c4, (c5, (c6, (c7, (c8, (c9, (c10, (c11, ())))))))))))), (rs, ()))))) = F ((n, (i, ((), (5, ())))), (a, ((b0, (b1, (b2, (b3, (sadd b4 c4, (b5, (b6, (b7, (b8, (b9, (b10, (b11, ())))))))))))), ((c0, (c1, (c2, (c3, (c4, (c5, (c6, (c7, (c8, (c9, (c10, (c11, ())))))))))))), (rs, ()))))) := by
  simp [W.meter_All_L6, sat_Add_eq N hb hc]

theorem all_step5 (N : Nat) (F : _ → Option _) (n i : Int) (a : S12) (b0 b1 b2 b3 b4 b5 b6 b7 b8 b9 b10 b11 c0 c1 c2 c3 c4 c5 c6 c7 c8 c9 c10 c11 : Int) (rs : List R12) (hb : I64 b5) (hc : I64 c5) :
    W.meter_All_L6 N F ((n, (i, ((), (5, ())))), (a, ((b0, (b1, (b2, (b3, (b4, (b5, (b6, (b7, (b8, (b9, (b10, (b11, ())))))))))))), ((c0, (c1, (c2, (c3, (c4, (c5, (c6, (c7, (c8, (c9, (c10, (c11, ())))))))))))), (rs, ()))))) = F ((n, (i, ((), (6, ())))), (a, ((b0, (b1, (b2, (b3, (b4, (sadd b5 c5, (b6, (b7, (b8, (b9, (b10, (b11, ())))))))))))), ((c0, (c1, (c2, (c3, (c4, (c5, (c6, (c7, (c8, (c9, (c10, (c11, ())))))))))))), (rs, ()))))) := by
  simp [W.meter_All_L6, sat_Add_eq N hb hc]

theorem all_step6 (N : Nat) (F : _ → Option _) (n i : Int) (a : S12) (b0 b1 b2 b3 b4 b5 b6 b7 b8 b9 b10 b11 c0 c1 c2 c3 c4 c5 c6 c7 c8 c9 c10 c11 : Int) (rs : List R12) (hb : I64 b6) (hc : I64 c6) :
    W.meter_All_L6 N F ((n, (i, ((), (6, ())))), (a, ((b0, (b1, (b2, (b3, (b4, (b5, (b6, (b7, (b8, (b9, (b10, (b11, ())))))))))))), ((c0, (c1, (c2, (c3, (c4, (c5, (c6, (c7, (c8, (c9, (c10, (c11, ())))))))))))), (rs, ()))))) = F ((n, (i, ((), (7, ())))), (a, ((b0, (b1, (b2, (b3, (b4, (b5, (sadd b6 c6, (b7, (b8, (b9, (b10, (b11, ())))))))))))), ((c0, (c1, (c2, (c3, (c4, (c5, (c6, (c7, (c8, (c9, (c10, (c11, ())))))))))))), (rs, ()))))) := by
  simp [W.meter_All_L6, sat_Add_eq N hb hc]

theorem all_step7 (N : Nat) (F : _ → Option _) (n i : Int) (a : S12) (b0 b1 b2 b3 b4 b5 b6 b7 b8 b9 b10 b11 c0 c1 c2 c3 c4 c5 c6 c7 c8 c9 c10 c11 : Int) (rs : List R12) (hb : I64 b7) (hc : I64 c7) :
    W.meter_All_L6 N F ((n, (i, ((), (7, ())))), (a, ((b0, (b1, (b2, (b3, (b4, (b5, (b6, (b7, (b8, (b9, (b10, (b11, ())))))))))))), ((c0, (c1, (c2, (c3, (c4, (c5, (c6, (c7, (c8, (c9, (c10, (c11, ())))))))))))), (rs, ()))))) = F ((n, (i, ((), (8, ())))), (a, ((b0, (b1, (b2, (b3, (b4, (b5, (b6, (sadd b7 c7, (b8, (b9, (b10, (b11, ())))))))))))), ((c0, (c1, (c2, (c3, (c4, (c5, (c6, (c7, (c8, (c9, (c10, (c11, ())))))))))))), (rs, ()))))) := by
  simp [W.meter_All_L6, sat_Add_eq N hb hc]

theorem all_step8 (N : Nat) (F : _ → Option _) (n i : Int) (a : S12) (b0 b1 b2 b3 b4 b5 b6 b7 b8 b9 b10 b11 c0 c1 c2 c3 c4 c5 c6 c7 c8 c9 c10 c11 : Int) (rs : List R12) (hb : I64 b8) (hc : I64 c8) :
    W.meter_All_L6 N F ((n, (i, ((), (8, ())))), (a, ((b0, (b1, (b2, (b3, (b4, (b5, (b6, (b7, (b8, (b9, (b10, (b11, ())))))))))))), ((c0, (c1, (c2, (c3, (c4, (c5, (c6, (c7, (c8, (c9, (c10, (c11, ())))))))))))), (rs, ()))))) = F ((n, (i, ((), (9, ())))), (a, ((b0, (b1, (b2, (b3, (b4, (b5, (b6, (b7, (sadd b8 c8, (b9, (b10, (b11, ())))))))))))), ((c0, (c1, (c2, (c3, (c4, (c5, (c6, (c7, (c8, (c9, (c10, (c11, ())))))))))))), (rs, ()))))) := by
  simp [W.meter_All_L6, sat_Add_eq N hb hc]

theorem all_step9 (N : Nat) (F : _ → Option _) (n i : Int) (a : S12) (b0 b1 b2 b3 b4 b5 b6 b7 b8 b9 b10 b11 c0 c1 c2 c3 c4 c5 c6 c7 c8 c9 c10 c11 : Int) (rs : List R12) (hb : I64 b9) (hc : I64 c9) :
    W.meter_All_L6 N F ((n, (i, ((), (9, ())))), (a, ((b0, (b1, (b2, (b3, (b4, (b5, (b6, (b7, (b8, (b9, (b10, (b11, ())))))))))))), ((c0, (c1, (c2, (c3, (c4, (c5, (c6, (c7, (c8, (c9, (c10, (c11, ())))))))))))), (rs, ()))))) = F ((n, (i, ((), (10, ())))), (a, ((b0, (b1, (b2, (b3, (b4, (b5, (b6, (b7, (b8, (sadd b9 c9, (b10, (b11, ())))))))))))), ((c0, (c1, (c2, (c3, (c4, (c5, (c6, (c7, (c8, (c9, (c10, (c11, ())))))))))))), (rs, ()))))) := by
  simp [W.meter_All_L6, sat_Add_eq N hb hc]

theorem all_step10 (N : Nat) (F : _ → Option _) (n i : Int) (a : S12) (b0 b1 b2 b3 b4 b5 b6 b7 b8 b9 b10 b11 c0 c1 c2 c3 c4 c5 c6 c7 c8 c9 c10 c11 : Int) (rs : List R12) (hb : I64 b11) (hc : I64 c11) :
    W.meter_All_L6 N F ((n, (i, ((), (10, ())))), (a, ((b0, (b1, (b2, (b3, (b4, (b5, (b6, (b7, (b8, (b9, (b10, (b11, ())))))))))))), ((c0, (c1, (c2, (c3, (c4, (c5, (c6, (c7, (c8, (c9, (c10, (c11, ())))))))))))), (rs, ()))))) = F ((n, (i, ((), (11, ())))), (a, ((b0, (b1, (b2, (b3, (b4, (b5, (b6, (b7, (b8, (b9, (b10, (sadd b11 c11, ())))))))))))), ((c0, (c1, (c2, (c3, (c4, (c5, (c6, (c7, (c8, (c9, (c10, (c11, ())))))))))))), (rs, ()))))) := by
  simp [W.meter_All_L6, sat_Add_eq N hb hc]

theorem all_in (N M : Nat) (hM : 12 ≤ M) (n i : Int) (a : S12) (b0 b1 b2 b3 b4 b5 b6 b7 b8 b9 b10 b11 c0 c1 c2 c3 c4 c5 c6 c7 c8 c9 c10 c11 : Int) (rs : List R12) (hb0 : I64 b0) (hb1 : I64 b1) (hb2 : I64 b2) (hb3 : I64 b3) (hb4 : I64 b4) (hb5 : I64 b5) (hb6 : I64 b6) (hb7 : I64 b7) (hb8 : I64 b8) (hb9 : I64 b9) (_hb10 : I64 b10) (hb11 : I64 b11) (hc0 : I64 c0) (hc1 : I64 c1) (hc2 : I64 c2) (hc3 : I64 c3) (hc4 : I64 c4) (hc5 : I64 c5) (hc6 : I64 c6) (hc7 : I64 c7) (hc8 : I64 c8) (hc9 : I64 c9) (_hc10 : I64 c10) (hc11 : I64 c11) :
    iter (W.meter_All_L6 N) M ((n, (i, ((), (0, ())))), (a, ((b0, (b1, (b2, (b3, (b4, (b5, (b6, (b7, (b8, (b9, (b10, (b11, ())))))))))))), ((c0, (c1, (c2, (c3, (c4, (c5, (c6, (c7, (c8, (c9, (c10, (c11, ())))))))))))), (rs, ()))))) = some ((n, (i, ())), (a, ((sadd b0 c0, (sadd b1 c1, (sadd b2 c2, (sadd b3 c3, (sadd b4 c4, (sadd b5 c5, (sadd b6 c6, (sadd b7 c7, (sadd b8 c8, (sadd b9 c9, (b10, (sadd b11 c11, ())))))))))))), ((c0, (c1, (c2, (c3, (c4, (c5, (c6, (c7, (c8, (c9, (c10, (c11, ())))))))))))), (rs, ()))))) := by
  obtain ⟨K, rfl⟩ : ∃ K, M = K + 12 := ⟨M - 12, by omega⟩
  simp only [iter]
  rw [all_step0 N _ n i a _ _ _ _ _ _ _ _ _ _ _ _ _ _ _ _ _ _ _ _ _ _ _ _ rs (by assumption) (by assumption)]
  rw [all_step1 N _ n i a _ _ _ _ _ _ _ _ _ _ _ _ _ _ _ _ _ _ _ _ _ _ _ _ rs (by assumption) (by assumption)]
  rw [all_step2 N _ n i a _ _ _ _ _ _ _ _ _ _ _ _ _ _ _ _ _ _ _ _ _ _ _ _ rs (by assumption) (by assumption)]
  rw [all_step3 N _ n i a _ _ _ _ _ _ _ _ _ _ _ _ _ _ _ _ _ _ _ _ _ _ _ _ rs (by assumption) (by assumption)]
  rw [all_step4 N _ n i a _ _ _ _ _ _ _ _ _ _ _ _ _ _ _ _ _ _ _ _ _ _ _ _ rs (by assumption) (by assumption)]
  rw [all_step5 N _ n i a _ _ _ _ _ _ _ _ _ _ _ _ _ _ _ _ _ _ _ _ _ _ _ _ rs (by assumption) (by assumption)]
  rw [all_step6 N _ n i a _ _ _ _ _ _ _ _ _ _ _ _ _ _ _ _ _ _ _ _ _ _ _ _ rs (by assumption) (by assumption)]
  rw [all_step7 N _ n i a _ _ _ _ _ _ _ _ _ _ _ _ _ _ _ _ _ _ _ _ _ _ _ _ rs (by assumption) (by assumption)]
  rw [all_step8 N _ n i a _ _ _ _ _ _ _ _ _ _ _ _ _ _ _ _ _ _ _ _ _ _ _ _ rs (by assumption) (by assumption)]
  rw [all_step9 N _ n i a _ _ _ _ _ _ _ _ _ _ _ _ _ _ _ _ _ _ _ _ _ _ _ _ rs (by assumption) (by assumption)]
  rw [all_step10 N _ n i a _ _ _ _ _ _ _ _ _ _ _ _ _ _ _ _ _ _ _ _ _ _ _ _ rs (by assumption) (by assumption)]
  simp [W.meter_All_L6]

def addS (m : S12) (w : R12) : S12 := (sadd m.1 w.1, (sadd m.2.1 w.2.1, (sadd m.2.2.1 w.2.2.1, (sadd m.2.2.2.1 w.2.2.2.1, (sadd m.2.2.2.2.1 w.2.2.2.2.1, (sadd m.2.2.2.2.2.1 w.2.2.2.2.2.1, (sadd m.2.2.2.2.2.2.1 w.2.2.2.2.2.2.1, (sadd m.2.2.2.2.2.2.2.1 w.2.2.2.2.2.2.2.1, (sadd m.2.2.2.2.2.2.2.2.1 w.2.2.2.2.2.2.2.2.1, (sadd m.2.2.2.2.2.2.2.2.2.1 w.2.2.2.2.2.2.2.2.2.1, (max m.2.2.2.2.2.2.2.2.2.2.1 w.2.2.2.2.2.2.2.2.2.2.1, (sadd m.2.2.2.2.2.2.2.2.2.2.2.1 w.2.2.2.2.2.2.2.2.2.2.2, ()))))))))))))
def I12 (r : R12) : Prop := I64 r.1 ∧ I64 r.2.1 ∧ I64 r.2.2.1 ∧ I64 r.2.2.2.1 ∧ I64 r.2.2.2.2.1 ∧ I64 r.2.2.2.2.2.1 ∧ I64 r.2.2.2.2.2.2.1 ∧ I64 r.2.2.2.2.2.2.2.1 ∧ I64 r.2.2.2.2.2.2.2.2.1 ∧ I64 r.2.2.2.2.2.2.2.2.2.1 ∧ I64 r.2.2.2.2.2.2.2.2.2.2.1 ∧ I64 r.2.2.2.2.2.2.2.2.2.2.2
def I12s (r : S12) : Prop := I64 r.1 ∧ I64 r.2.1 ∧ I64 r.2.2.1 ∧ I64 r.2.2.2.1 ∧ I64 r.2.2.2.2.1 ∧ I64 r.2.2.2.2.2.1 ∧ I64 r.2.2.2.2.2.2.1 ∧ I64 r.2.2.2.2.2.2.2.1 ∧ I64 r.2.2.2.2.2.2.2.2.1 ∧ I64 r.2.2.2.2.2.2.2.2.2.1 ∧ I64 r.2.2.2.2.2.2.2.2.2.2.1 ∧ I64 r.2.2.2.2.2.2.2.2.2.2.2.1
theorem imax {a b : Int} (ha : I64 a) (hb : I64 b) : I64 (max a b) := by
  constructor <;> omega
theorem addS_I (m : S12) (w : R12) (hm : I12s m) (hw : I12 w) : I12s (addS m w) := by
  simp only [I12s, I12, addS] at *
  exact ⟨sadd_I _ _, sadd_I _ _, sadd_I _ _, sadd_I _ _, sadd_I _ _, sadd_I _ _, sadd_I _ _, sadd_I _ _, sadd_I _ _, sadd_I _ _, imax hm.2.2.2.2.2.2.2.2.2.2.1 hw.2.2.2.2.2.2.2.2.2.2.1, sadd_I _ _⟩

theorem all_loop (N : Nat) (hN : 1000 < N) (rs : List R12) (hl : rs.length < 1000) (hr : ∀ w ∈ rs, I12 w) (h0 : I12s z12s) :
    ∃ m, I12s m ∧ m = rs.foldl addS z12s ∧ iter (W.meter_All_L3 N) N (((rs.length : Int), (0, ())), (z12s, (z12s, (rs, ())))) = some ((), (z12s, (m, ()))) := by
  have hI : ∀ i, i ≤ rs.length → I12s ((rs.take i).foldl addS z12s) := by
    intro i
    induction i with
    | zero => intro _; exact h0
    | succ i ih =>
      intro hi
      rw [take_next rs (by omega), List.foldl_append]
      exact addS_I _ _ (ih (by omega)) (hr _ (List.getElem_mem _))
  refine ⟨_, by simpa using hI rs.length (by omega), rfl, ?_⟩
  exact iter_some (round := W.meter_All_L3 N) (fun x => ∃ i : Nat, i ≤ rs.length ∧ x = (((rs.length : Int), ((i : Int), ())), (z12s, ((rs.take i).foldl addS z12s, (rs, ()))))) (fun x => rs.length - x.1.2.1.toNat) _ (by
    rintro F _ ⟨i, hi, rfl⟩
    by_cases hlt : i < rs.length
    · left
      refine ⟨(((rs.length : Int), (((i + 1 : Nat) : Int), ())), (z12s, ((rs.take (i + 1)).foldl addS z12s, (rs, ())))), ⟨i + 1, hlt, rfl⟩, by simp only [Int.toNat_natCast]; omega, ?_⟩
      have d1 : decide ((0 : Int) ≤ (i : Int)) = true := by simp
      have d2 : decide ((i : Int) < ((rs.length : Nat) : Int)) = true := by simpa using hlt
      have d3 := getD_lt rs ((0, (0, (0, (0, (0, (0, (0, (0, (0, (0, (0, 0))))))))))) : R12) hlt
      have hm := hI i hi
      have hw := hr _ (List.getElem_mem hlt)
      rw [take_next rs hlt, List.foldl_append]
      simp only [W.meter_All_L3, d1, d2, d3, Bool.and_self, cond_true, Int.toNat_natCast, List.foldl_cons, List.foldl_nil]
      generalize (rs.take i).foldl addS z12s = m at *
      generalize rs[i] = w at *
      obtain ⟨b0, b1, b2, b3, b4, b5, b6, b7, b8, b9, b10, b11, u⟩ := m
      obtain ⟨c0, c1, c2, c3, c4, c5, c6, c7, c8, c9, c10, c11⟩ := w
      simp only [I12s, I12] at hm hw
      rw [all_in N N (by omega) (rs.length : Int) (i : Int) z12s b0 b1 b2 b3 b4 b5 b6 b7 b8 b9 b10 b11 c0 c1 c2 c3 c4 c5 c6 c7 c8 c9 c10 c11 rs hm.1 hm.2.1 hm.2.2.1 hm.2.2.2.1 hm.2.2.2.2.1 hm.2.2.2.2.2.1 hm.2.2.2.2.2.2.1 hm.2.2.2.2.2.2.2.1 hm.2.2.2.2.2.2.2.2.1 hm.2.2.2.2.2.2.2.2.2.1 hm.2.2.2.2.2.2.2.2.2.2.1 hm.2.2.2.2.2.2.2.2.2.2.2 hw.1 hw.2.1 hw.2.2.1 hw.2.2.2.1 hw.2.2.2.2.1 hw.2.2.2.2.2.1 hw.2.2.2.2.2.2.1 hw.2.2.2.2.2.2.2.1 hw.2.2.2.2.2.2.2.2.1 hw.2.2.2.2.2.2.2.2.2.1 hw.2.2.2.2.2.2.2.2.2.2.1 hw.2.2.2.2.2.2.2.2.2.2.2]
      simp only [Option.bind_some, i_next (show i < 1000 by omega), imx_eq, addS]
    · right
      have : i = rs.length := by omega
      subst this
      simp [W.meter_All_L3]) N _ ⟨0, by omega, by simp⟩ (by simp; omega)

theorem all_ref (N : Nat) (hN : 1000 < N) (rs : List R12) (hl : rs.length < 1000) (hr : ∀ w ∈ rs, I12 w) (h0 : I12s z12s) :
    iter (W.leatref44_All_L3 N) N ((0, ()), (rs, (z12s, (z12s, ())))) = some ((), (z12s, (rs.foldl addS z12s, ()))) := by
  have hI : ∀ i, i ≤ rs.length → I12s ((rs.take i).foldl addS z12s) := by
    intro i
    induction i with
    | zero => intro _; exact h0
    | succ i ih =>
      intro hi
      rw [take_next rs (by omega), List.foldl_append]
      exact addS_I _ _ (ih (by omega)) (hr _ (List.getElem_mem _))
  exact iter_some (round := W.leatref44_All_L3 N) (fun x => ∃ i : Nat, i ≤ rs.length ∧ x = (((i : Int), ()), (rs, (z12s, ((rs.take i).foldl addS z12s, ()))))) (fun x => rs.length - x.1.1.toNat) _ (by
    rintro F _ ⟨i, hi, rfl⟩
    by_cases hlt : i < rs.length
    · left
      refine ⟨((((i + 1 : Nat) : Int), ()), (rs, (z12s, ((rs.take (i + 1)).foldl addS z12s, ())))), ⟨i + 1, hlt, rfl⟩, by simp only [Int.toNat_natCast]; omega, ?_⟩
      have d1 : decide ((0 : Int) ≤ (i : Int)) = true := by simp
      have d2 : decide ((i : Int) < ((rs.length : Nat) : Int)) = true := by simpa using hlt
      have d3 := getD_lt rs ((0, (0, (0, (0, (0, (0, (0, (0, (0, (0, (0, 0))))))))))) : R12) hlt
      have hm := hI i hi
      have hw := hr _ (List.getElem_mem hlt)
      rw [take_next rs hlt, List.foldl_append]
      simp only [W.leatref44_All_L3, d1, d2, d3, Bool.and_self, cond_true, Int.toNat_natCast, List.foldl_cons, List.foldl_nil]
      generalize (rs.take i).foldl addS z12s = m at *
      generalize rs[i] = w at *
      obtain ⟨b0, b1, b2, b3, b4, b5, b6, b7, b8, b9, b10, b11, u⟩ := m
      obtain ⟨c0, c1, c2, c3, c4, c5, c6, c7, c8, c9, c10, c11⟩ := w
      simp only [I12s, I12] at hm hw
      simp only [leatref01_Add_eq N hm.1 hw.1, leatref01_Add_eq N hm.2.1 hw.2.1, leatref01_Add_eq N hm.2.2.1 hw.2.2.1, leatref01_Add_eq N hm.2.2.2.1 hw.2.2.2.1, leatref01_Add_eq N hm.2.2.2.2.1 hw.2.2.2.2.1, leatref01_Add_eq N hm.2.2.2.2.2.1 hw.2.2.2.2.2.1, leatref01_Add_eq N hm.2.2.2.2.2.2.1 hw.2.2.2.2.2.2.1, leatref01_Add_eq N hm.2.2.2.2.2.2.2.1 hw.2.2.2.2.2.2.2.1, leatref01_Add_eq N hm.2.2.2.2.2.2.2.2.1 hw.2.2.2.2.2.2.2.2.1, leatref01_Add_eq N hm.2.2.2.2.2.2.2.2.2.1 hw.2.2.2.2.2.2.2.2.2.1, leatref01_Add_eq N hm.2.2.2.2.2.2.2.2.2.2.2 hw.2.2.2.2.2.2.2.2.2.2.2, Option.bind_some, i_next (show i < 1000 by omega), imx_eq, addS, z12s]
    · right
      have : i = rs.length := by omega
      subst this
      simp [W.leatref44_All_L3, z12s]) N _ ⟨0, by omega, by simp⟩ (by simp; omega)

theorem All_same (N : Nat) (hN : 1000 < N) (rs : List R12) (hl : rs.length < 1000) (hr : ∀ w ∈ rs, I12 w) :
    ∃ r, W.meter_All N rs = some r ∧ W.leatref44_All N rs = some r := by
  have h0 : I12s z12s := by simp only [I12s, z12s]; omega
  obtain ⟨m, _, rfl, h1⟩ := all_loop N hN rs hl hr h0
  have h2 := all_ref N hN rs hl hr h0
  have e1 : W.meter_All N rs = (iter (W.meter_All_L3 N) N (((rs.length : Int), (0, ())), (z12s, (z12s, (rs, ()))))).bind fun r0 => some (r0.2.2.1.1, r0.2.2.1.2.1, r0.2.2.1.2.2.1, r0.2.2.1.2.2.2.1, r0.2.2.1.2.2.2.2.1, r0.2.2.1.2.2.2.2.2.1, r0.2.2.1.2.2.2.2.2.2.1, r0.2.2.1.2.2.2.2.2.2.2.1, r0.2.2.1.2.2.2.2.2.2.2.2.1, r0.2.2.1.2.2.2.2.2.2.2.2.2.1, r0.2.2.1.2.2.2.2.2.2.2.2.2.2.1, r0.2.2.1.2.2.2.2.2.2.2.2.2.2.2.1) := rfl
  have e2 : W.leatref44_All N rs = (iter (W.leatref44_All_L3 N) N ((0, ()), (rs, (z12s, (z12s, ()))))).bind fun r0 => some (r0.2.2.1.1, r0.2.2.1.2.1, r0.2.2.1.2.2.1, r0.2.2.1.2.2.2.1, r0.2.2.1.2.2.2.2.1, r0.2.2.1.2.2.2.2.2.1, r0.2.2.1.2.2.2.2.2.2.1, r0.2.2.1.2.2.2.2.2.2.2.1, r0.2.2.1.2.2.2.2.2.2.2.2.1, r0.2.2.1.2.2.2.2.2.2.2.2.2.1, r0.2.2.1.2.2.2.2.2.2.2.2.2.2.1, r0.2.2.1.2.2.2.2.2.2.2.2.2.2.2.1) := rfl
  rw [e1, e2, h1, h2]
  exact ⟨_, rfl, rfl⟩

theorem meter_works : W.leatlaw44_works 3000 = some true := by kernel_rfl

theorem cut_le {α : Type} (xs : List α) (k : Int) (hk : k ≤ 80) : (cutL xs 0 (imn ((xs.length : Nat) : Int) k)).length ≤ 80 ∧ ∀ x ∈ cutL xs 0 (imn ((xs.length : Nat) : Int) k), x ∈ xs := by
  simp only [cutL, imn_eq]
  constructor
  · simp only [List.length_drop, List.length_take]; omega
  · intro x hx
    exact List.mem_of_mem_take (List.mem_of_mem_drop hx)

theorem MeterFlows_i (es : List E6) (mss : List Int) (rs : List R12) (h6 : ∀ e ∈ es, I64 (B6 e)) (hr : ∀ w ∈ rs, I12 w) : W.leatlaw44_MeterFlows 3000 es mss rs = some true := by
  have g1 : ∀ n : Nat, (decide ((0 : Int) ≤ imn (n : Int) 80) && decide (imn (n : Int) 80 ≤ (n : Int))) = true := by intro n; rw [imn_eq]; simp; omega
  have g2 : ∀ n : Nat, (decide ((0 : Int) ≤ imn (n : Int) 6) && decide (imn (n : Int) 6 ≤ (n : Int))) = true := by intro n; rw [imn_eq]; simp; omega
  have g3 : ∀ n : Nat, (decide ((0 : Int) ≤ imn (n : Int) 10) && decide (imn (n : Int) 10 ≤ (n : Int))) = true := by intro n; rw [imn_eq]; simp; omega
  obtain ⟨c1, m1⟩ := cut_le es 80 (by omega)
  obtain ⟨c2, m2⟩ := cut_le mss 6 (by omega)
  obtain ⟨c3, m3⟩ := cut_le rs 10 (by omega)
  simp only [W.leatlaw44_MeterFlows, g1, g2, g3, cond_true]
  generalize cutL es 0 (imn ((es.length : Nat) : Int) 80) = es' at *
  generalize cutL mss 0 (imn ((mss.length : Nat) : Int) 6) = mss' at *
  generalize cutL rs 0 (imn ((rs.length : Nat) : Int) 10) = rs' at *
  have k6 : ∀ e ∈ es', I64 (B6 e) := fun e he => h6 e (m1 e he)
  obtain ⟨r, q1, q2⟩ := All_same 3000 (by omega) rs' (by omega) (fun w hw => hr w (m3 w hw))
  rw [Flows_eq 3000 es' mss' k6 (by omega) (by omega), Flows_ref 3000 es' mss' k6 (by omega) (by omega) (by omega)]
  simp only [Option.bind_some]
  rw [same_eq 3000 _ (by simp; omega) (by omega), q1, q2]
  simp only [Option.bind_some, beq_self_eq_true, Bool.and_true, cond_true, meter_works]

theorem MeterFlows (x : RT [.row 83 [.int .i64, .int .i64, .int .i64, .int .i64, .int .i64, .int .i64], .row 2 [.int .i64], .row 66 [.int .i64, .int .i64, .int .i64, .int .i64, .int .i64, .int .i64, .int .i64, .int .i64, .int .i64, .int .i64, .int .i64, .int .i64]]) (h : RT.wf _ x) : ∃ N, uncR [.row 83 [.int .i64, .int .i64, .int .i64, .int .i64, .int .i64, .int .i64], .row 2 [.int .i64], .row 66 [.int .i64, .int .i64, .int .i64, .int .i64, .int .i64, .int .i64, .int .i64, .int .i64, .int .i64, .int .i64, .int .i64, .int .i64]] (W.leatlaw44_MeterFlows N) x = some true := by
  obtain ⟨es, mss, rs⟩ := x
  refine ⟨3000, MeterFlows_i es mss rs (fun e he => ?_) (fun w hw => ?_)⟩
  · have h1 := h.1.2 e he
    exact i64_range h1.2.2.2.2.2
  · have h1 := h.2.2.2 w hw
    exact ⟨i64_range h1.1, i64_range h1.2.1, i64_range h1.2.2.1, i64_range h1.2.2.2.1, i64_range h1.2.2.2.2.1, i64_range h1.2.2.2.2.2.1, i64_range h1.2.2.2.2.2.2.1, i64_range h1.2.2.2.2.2.2.2.1, i64_range h1.2.2.2.2.2.2.2.2.1, i64_range h1.2.2.2.2.2.2.2.2.2.1, i64_range h1.2.2.2.2.2.2.2.2.2.2.1, i64_range h1.2.2.2.2.2.2.2.2.2.2.2⟩

end Go.Proofs.Ytakjmminaolfnaa.Pure
