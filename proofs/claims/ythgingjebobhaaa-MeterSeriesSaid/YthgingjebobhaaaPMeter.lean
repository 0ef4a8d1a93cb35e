/- The counts of each flow: what each function of the program and of the document's answer comes to. -/
import Derived.Test.YthgingjebobhaaaPSat
namespace Go.Proofs.Ythgingjebobhaaa.Pure
open Go.Ev Go.RowKit

theorem sadd_I (a b : Int) : I64 (sadd a b) := by
  constructor <;> (simp only [sadd, cl]; omega)

abbrev E6 : Type := Int × Int × Int × Int × Int × Int
abbrev S12 : Type := Int × Int × Int × Int × Int × Int × Int × Int × Int × Int × Int × Int × Unit
abbrev T6 (e : E6) : Int := e.1
abbrev K6 (e : E6) : Int := e.2.1
abbrev F6 (e : E6) : Int := e.2.2.1
abbrev A6 (e : E6) : Int := e.2.2.2.2.1
abbrev B6 (e : E6) : Int := e.2.2.2.2.2

def kf (j k : Int) (e : E6) : Bool := F6 e == j && K6 e == k
def num (P : E6 → Bool) (p : List E6) : Int := (p.countP P : Nat)
def lng (j : Int) (p : List E6) : Int := p.foldl (fun v e => if kf j 3 e then max v (B6 e) else v) 0
def wtd (j : Int) (p : List E6) : Int := p.foldl (fun v e => if kf j 3 e then sadd v (B6 e) else v) 0
def mrk (j : Int) (e : E6) : Bool := kf j 3 e && A6 e == 3
def dor (j : Int) (e : E6) : Bool := kf j 2 e && B6 e == 1
def wyy (j : Int) (e : E6) : Bool := kf j 2 e && !(B6 e == 1)

theorem num_app (P : E6 → Bool) (p : List E6) (e : E6) : num P (p ++ [e]) = num P p + if P e then 1 else 0 := by
  simp only [num, List.countP_append, List.countP_singleton]
  split <;> simp_all

theorem num_le (P : E6 → Bool) (p : List E6) : 0 ≤ num P p ∧ num P p ≤ p.length := by
  have := List.countP_le_length (p := P) (l := p)
  simp only [num]
  omega

theorem lng_app (j : Int) (p : List E6) (e : E6) : lng j (p ++ [e]) = if kf j 3 e then max (lng j p) (B6 e) else lng j p := by
  simp only [lng, List.foldl_append, List.foldl_cons, List.foldl_nil]

theorem wtd_app (j : Int) (p : List E6) (e : E6) : wtd j (p ++ [e]) = if kf j 3 e then sadd (wtd j p) (B6 e) else wtd j p := by
  simp only [wtd, List.foldl_append, List.foldl_cons, List.foldl_nil]

theorem wtd_I (j : Int) (p : List E6) : I64 (wtd j p) := by
  have h : ∀ (p : List E6) (v : Int), I64 v → I64 (p.foldl (fun v e => if kf j 3 e then sadd v (B6 e) else v) v) := by
    intro p
    induction p with
    | nil => intro v hv; exact hv
    | cons e t ih =>
      intro v hv
      simp only [List.foldl_cons]
      apply ih
      split
      · exact sadd_I _ _
      · exact hv
  exact h p 0 ⟨by omega, by omega⟩

/-- What is counted of one flow. -/
def spc (p : List E6) (j s : Int) : R12 :=
  (num (kf j 1) p, num (kf j 3) p, num (mrk j) p, num (dor j) p, num (wyy j) p, num (kf j 6) p, num (kf j 5) p, num (kf j 4) p, num (kf j 7) p, num (kf j 3) p * s, lng j p, wtd j p)

theorem spc_other (p : List E6) (e : E6) {j : Int} (s : Int) (h : F6 e ≠ j) : spc (p ++ [e]) j s = spc p j s := by
  have hk : ∀ k, kf j k e = false := by intro k; simp [kf, h]
  simp [spc, num_app, lng_app, wtd_app, mrk, dor, wyy, hk]

theorem getD_lt {α : Type} (xs : List α) (d : α) {i : Nat} (h : i < xs.length) : xs.getD i d = xs[i] := by
  simp [List.getD, List.getElem?_eq_getElem h]

theorem metSet_set (xs : List R12) (i : Nat) (r : R12) (j : Nat) (f : Int → Int) (h : i < xs.length) : metSet (xs.set i r) i j f = xs.set i (set12 r (f (get12 r j)) j) := by
  have : (xs.set i r).getD i z12 = r := by rw [getD_lt _ _ (by simpa using h)]; simp
  simp only [metSet, this, List.set_set]

theorem metGet_set (xs : List R12) (i : Nat) (r : R12) (j : Nat) (h : i < xs.length) : metGet (xs.set i r) i j = get12 r j := by
  have : (xs.set i r).getD i z12 = r := by rw [getD_lt _ _ (by simpa using h)]; simp
  simp only [metGet, this]

theorem metSet_one (xs : List R12) (i : Nat) (j : Nat) (f : Int → Int) : metSet xs i j f = xs.set i (set12 (xs.getD i z12) (f (get12 (xs.getD i z12) j)) j) := rfl

def mz (mss : List Int) (j : Nat) : Int := cl (mss.getD j 0) 1 65536
theorem mz_b (mss : List Int) (j : Nat) : 1 ≤ mz mss j ∧ mz mss j ≤ 65536 := by
  simp only [mz, cl]; omega

theorem size_eq (N : Nat) (mss : List Int) (j : Nat) (h : j < mss.length) : W.meter_size N mss (j : Int) = some (mz mss j) := by
  have h1 : decide ((0 : Int) ≤ (j : Int)) = true := by simp
  have h2 : decide ((j : Int) < ((mss.length : Nat) : Int)) = true := by simpa using h
  simp only [W.meter_size, h1, h2, Bool.and_self, cond_true, sat_Clamp_eq, Option.bind_some, Int.toNat_natCast, mz]

theorem Size_eq (N : Nat) (mss : List Int) (j : Nat) (h : j < mss.length) : W.leatref44_Size N mss (j : Int) = some (mz mss j) := by
  have h1 : decide ((0 : Int) ≤ (j : Int)) = true := by simp
  have h2 : decide ((j : Int) < ((mss.length : Nat) : Int)) = true := by simpa using h
  simp only [W.leatref44_Size, h1, h2, Bool.and_self, cond_true, Int.toNat_natCast, mz, imn_eq, imx_eq, cl, Option.some.injEq]
  omega

theorem map_set {β : Type} (n : Nat) (f g : Nat → β) (j : Nat) (h : ∀ k, k ≠ j → f k = g k) : ((List.range n).map f).set j (g j) = (List.range n).map g := by
  apply List.ext_getElem
  · simp
  · intro k h1 h2
    simp only [List.getElem_set, List.getElem_map, List.getElem_range]
    split
    · rename_i he; rw [he]
    · rename_i he; exact h k (fun hh => he hh.symm)

theorem replicate_map (n : Nat) (mss : List Int) : List.replicate n z12 = (List.range n).map (fun j : Nat => spc [] (j : Int) (mz mss j)) := by
  apply List.ext_getElem
  · simp
  · intro k h1 h2
    simp [spc, num, lng, wtd, z12]

theorem of_all (es : List E6) (n : Nat) (h6 : ∀ e ∈ es, I64 (B6 e)) : ∀ e ∈ metOf es (n : Int), (0 ≤ F6 e ∧ F6 e < n) ∧ I64 (B6 e) := by
  intro e he
  simp only [metOf, List.mem_filter, metP, Bool.and_eq_true, decide_eq_true_eq] at he
  exact ⟨he.2.2, h6 e he.1⟩

theorem take_next {α : Type} (xs : List α) {i : Nat} (h : i < xs.length) : xs.take (i + 1) = xs.take i ++ [xs[i]] := by
  rw [List.take_add_one, List.getElem?_eq_getElem h]; rfl

theorem i_next {i : Nat} (h : i < 1000) : IntKind.wrap .i64 ((i : Int) + 1) = ((i + 1 : Nat) : Int) := by
  rw [wrapI64 (by omega) (by omega)]; rfl

theorem Of_eq (N : Nat) (es : List E6) (n : Int) (he : es.length < 1000) (hN : 1000 < N) : W.leatref44_Of N es n = some (metOf es n) := by
  have h := iter_some (round := W.leatref44_Of_L3 N) (fun x => ∃ i : Nat, i ≤ es.length ∧ x = ((n, ((i : Int), ())), (es, (metOf (es.take i) n, ())))) (fun x => es.length - x.1.2.1.toNat) ((), (metOf es n, ())) (by
    rintro F _ ⟨i, hi, rfl⟩
    by_cases hlt : i < es.length
    · left
      refine ⟨((n, (((i + 1 : Nat) : Int), ())), (es, (metOf (es.take (i + 1)) n, ()))), ⟨i + 1, hlt, rfl⟩, by simp only [Int.toNat_natCast]; omega, ?_⟩
      have d1 : decide ((0 : Int) ≤ (i : Int)) = true := by simp
      have d2 : decide ((i : Int) < ((es.length : Nat) : Int)) = true := by simpa using hlt
      have d3 := getD_lt es ((0, (0, (0, (0, (0, 0))))) : E6) hlt
      have hl : (metOf (es.take i) n).length ≤ 1000 := Nat.le_trans (List.length_filter_le ..) (by simp; omega)
      have d4 : decide (((metOf (es.take i) n).length + [es[i]].length) * 48 ≤ 140737488355328) = true := by simp; omega
      have d5 : ((metOf (es.take i) n).length + [es[i]].length) * 48 ≤ 140737488355328 := by simp; omega
      simp only [W.leatref44_Of_L3, d1, d2, d3, Bool.and_self, cond_true, Int.toNat_natCast, i_next (show i < 1000 by omega), decide_eq_true d5]
      rw [take_next es hlt]
      generalize es[i] = e
      simp only [metOf, List.filter_append]
      by_cases c1 : e.2.1 = 8
      · have : metP n e = false := by simp [metP, c1]
        simp [this, c1]
      · by_cases c2 : 0 ≤ e.2.2.1
        · by_cases c3 : e.2.2.1 < n
          · have : metP n e = true := by simp [metP, c1, c2, c3]
            simp [this, beq_false_of_ne c1, c2, c3]
          · have : metP n e = false := by simp [metP, c3]
            simp [this, beq_false_of_ne c1, c2, c3]
        · have : metP n e = false := by simp [metP, c2]
          simp [this, beq_false_of_ne c1, c2]
    · right
      have : i = es.length := by omega
      subst this
      simp [W.leatref44_Of_L3]) N ((n, (0, ())), (es, ([], ()))) ⟨0, by omega, by simp [metOf]⟩ (by simp; omega)
  simp only [W.leatref44_Of, h, Option.bind_some]

def flo (es : List E6) (j s : Int) (p : List E6) : S12 :=
  (num (kf j 1) es, (num (kf j 3) es, (num (mrk j) p, (num (dor j) p, (num (wyy j) p, (num (kf j 6) es, (num (kf j 5) es, (num (kf j 4) es, (num (kf j 7) es, (num (kf j 3) es * s, (lng j p, (wtd j p, ()))))))))))))

def z12s : S12 := (0, (0, (0, (0, (0, (0, (0, (0, (0, (0, (0, (0, ()))))))))))))

def addS (m : S12) (w : R12) : S12 := (sadd m.1 w.1, (sadd m.2.1 w.2.1, (sadd m.2.2.1 w.2.2.1, (sadd m.2.2.2.1 w.2.2.2.1, (sadd m.2.2.2.2.1 w.2.2.2.2.1, (sadd m.2.2.2.2.2.1 w.2.2.2.2.2.1, (sadd m.2.2.2.2.2.2.1 w.2.2.2.2.2.2.1, (sadd m.2.2.2.2.2.2.2.1 w.2.2.2.2.2.2.2.1, (sadd m.2.2.2.2.2.2.2.2.1 w.2.2.2.2.2.2.2.2.1, (sadd m.2.2.2.2.2.2.2.2.2.1 w.2.2.2.2.2.2.2.2.2.1, (max m.2.2.2.2.2.2.2.2.2.2.1 w.2.2.2.2.2.2.2.2.2.2.1, (sadd m.2.2.2.2.2.2.2.2.2.2.2.1 w.2.2.2.2.2.2.2.2.2.2.2, ()))))))))))))
def I12 (r : R12) : Prop := I64 r.1 ∧ I64 r.2.1 ∧ I64 r.2.2.1 ∧ I64 r.2.2.2.1 ∧ I64 r.2.2.2.2.1 ∧ I64 r.2.2.2.2.2.1 ∧ I64 r.2.2.2.2.2.2.1 ∧ I64 r.2.2.2.2.2.2.2.1 ∧ I64 r.2.2.2.2.2.2.2.2.1 ∧ I64 r.2.2.2.2.2.2.2.2.2.1 ∧ I64 r.2.2.2.2.2.2.2.2.2.2.1 ∧ I64 r.2.2.2.2.2.2.2.2.2.2.2
def I12s (r : S12) : Prop := I64 r.1 ∧ I64 r.2.1 ∧ I64 r.2.2.1 ∧ I64 r.2.2.2.1 ∧ I64 r.2.2.2.2.1 ∧ I64 r.2.2.2.2.2.1 ∧ I64 r.2.2.2.2.2.2.1 ∧ I64 r.2.2.2.2.2.2.2.1 ∧ I64 r.2.2.2.2.2.2.2.2.1 ∧ I64 r.2.2.2.2.2.2.2.2.2.1 ∧ I64 r.2.2.2.2.2.2.2.2.2.2.1 ∧ I64 r.2.2.2.2.2.2.2.2.2.2.2.1
theorem imax {a b : Int} (ha : I64 a) (hb : I64 b) : I64 (max a b) := by
  constructor <;> omega
theorem addS_I (m : S12) (w : R12) (hm : I12s m) (hw : I12 w) : I12s (addS m w) := by
  simp only [I12s, I12, addS] at *
  exact ⟨sadd_I _ _, sadd_I _ _, sadd_I _ _, sadd_I _ _, sadd_I _ _, sadd_I _ _, sadd_I _ _, sadd_I _ _, sadd_I _ _, sadd_I _ _, imax hm.2.2.2.2.2.2.2.2.2.2.1 hw.2.2.2.2.2.2.2.2.2.2.1, sadd_I _ _⟩

theorem meter_works : W.leatlaw44_works 3000 = some true := by kernel_rfl

theorem cut_le {α : Type} (xs : List α) (k : Int) (hk : k ≤ 80) : (cutL xs 0 (imn ((xs.length : Nat) : Int) k)).length ≤ 80 ∧ ∀ x ∈ cutL xs 0 (imn ((xs.length : Nat) : Int) k), x ∈ xs := by
  simp only [cutL, imn_eq]
  constructor
  · simp only [List.length_drop, List.length_take]; omega
  · intro x hx
    exact List.mem_of_mem_take (List.mem_of_mem_drop hx)

end Go.Proofs.Ythgingjebobhaaa.Pure
