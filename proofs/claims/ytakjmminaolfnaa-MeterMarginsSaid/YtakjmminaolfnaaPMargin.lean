/- The margin of the classic queue, and the longest wait: what the program and the document's answer come to. -/
import Derived.Test.YtakjmminaolfnaaPMeter
namespace Go.Proofs.Ytakjmminaolfnaa.Pure
open Go.Ev Go.RowKit

def odd (a : Int) : Bool := !(a.tmod 2 == 0)

theorem odd_eq (N : Nat) (a : Int) : W.leatref44_odd N a = some (odd a) := rfl

theorem and1 (a : Int) : bits .and .i64 a 1 = a % 2 := by
  simp only [bits]
  rw [show IntKind.bits .i64 = 64 from rfl, bv_wrap, BitVec.toInt_eq_toNat_cond, BitVec.toNat_and, BitVec.toNat_ofInt, BitVec.toNat_ofInt]
  have e : ((1 : Int) % ((2 ^ 64 : Nat) : Int)).toNat = 1 := by decide
  have e2 : ((2 ^ 64 : Nat) : Int) = 18446744073709551616 := by decide
  rw [e, Nat.and_one_is_mod, e2]
  split <;> omega

theorem odd_mod (a : Int) : odd a = (a % 2 == 1) := by
  have h1 := Int.tmod_add_mul_tdiv a 2
  have h2 : -2 < a.tmod 2 ∧ a.tmod 2 < 2 := by
    constructor
    · by_cases h : 0 ≤ a
      · rw [tmod_nn h]; omega
      · have := Int.tmod_lt_of_pos (-a) (show (0 : Int) < 2 by omega)
        rw [Int.neg_tmod] at this; omega
    · exact Int.tmod_lt_of_pos a (by omega)
  unfold odd
  by_cases h : a.tmod 2 = 0
  · rw [h] at h1
    have : a % 2 ≠ 1 := by omega
    rw [h, beq_false_of_ne this]; rfl
  · have : a % 2 = 1 := by omega
    rw [beq_false_of_ne h, this]; rfl

theorem and1_one (a : Int) : (bits .and .i64 a 1 == 1) = odd a := by rw [and1, odd_mod]

theorem and1_zero (a : Int) : (bits .and .i64 a 1 == 0) = !odd a := by
  rw [and1, odd_mod]
  by_cases h : a % 2 = 1
  · rw [h]; rfl
  · have : a % 2 = 0 := by omega
    rw [this]; rfl

def runK : Int → Int → List Int → Int
  | a, _, [] => a
  | a, s, y :: t => runK (min a (s + y)) (s + y) t
def runI : Int → List Int → Int
  | a, [] => a
  | a, x :: t => runI (runK a 0 (x :: t)) t
def sm (xs : List Int) : Int := xs.foldl (fun r y => min r 0 + y) 0
theorem runK_app (y : Int) : ∀ (xs : List Int) (a s : Int), runK a s (xs ++ [y]) = min (runK a s xs) (s + xs.sum + y)
  | [], a, s => by simp [runK]
  | x :: t, a, s => by simp only [List.cons_append, runK, runK_app y t, List.sum_cons]; congr 1; omega
theorem runK_min (b : Int) : ∀ (xs : List Int) (a s : Int), runK (min a b) s xs = min (runK a s xs) b
  | [], a, s => rfl
  | x :: t, a, s => by
    simp only [runK]
    rw [← runK_min b t]; congr 1; omega
theorem runI_min (b : Int) : ∀ (xs : List Int) (a : Int), runI (min a b) xs = min (runI a xs) b
  | [], a => rfl
  | x :: t, a => by simp only [runI, runK_min, runI_min b t]
theorem smc (y : Int) : ∀ (t : List Int) (r : Int), (t ++ [y]).foldl (fun r y => min r 0 + y) r = min (min r 0 + t.sum + y) ((t ++ [y]).foldl (fun r y => min r 0 + y) 0)
  | [], r => by simp; omega
  | x :: t, r => by
    simp only [List.cons_append, List.foldl_cons, List.sum_cons]
    rw [smc y t (min r 0 + x), smc y t (min 0 0 + x)]
    omega
theorem sm_app (xs : List Int) (y : Int) : sm (xs ++ [y]) = min (sm xs) 0 + y := by simp [sm]
theorem runI_app (y : Int) : ∀ (xs : List Int) (a : Int), runI a (xs ++ [y]) = min (runI a xs) (sm (xs ++ [y]))
  | [], a => by simp [runI, runK, sm]
  | x :: t, a => by
    have e1 := smc y t (min 0 0 + x)
    have e2 := smc y t 0
    have e3 : sm (x :: t ++ [y]) = (t ++ [y]).foldl (fun r y => min r 0 + y) (min 0 0 + x) := rfl
    have e4 : sm (t ++ [y]) = (t ++ [y]).foldl (fun r y => min r 0 + y) 0 := rfl
    simp only [List.cons_append, runI]
    rw [runI_app y t, show x :: (t ++ [y]) = (x :: t) ++ [y] from rfl, runK_app, runI_min, e3, e1, e4]
    simp only [List.sum_cons]
    omega

def mrg (out : List (List Int)) (row : List Int) : Int := (out ++ [row]).foldl runI 0
theorem mrg_app (out : List (List Int)) (row : List Int) (y : Int) : mrg out (row ++ [y]) = min (mrg out row) (min (sm row) 0 + y) := by
  simp only [mrg, List.foldl_append, List.foldl_cons, List.foldl_nil, runI_app, sm_app]
theorem mrg_close (out : List (List Int)) (row : List Int) : mrg (out ++ [row]) [] = mrg out row := by
  simp only [mrg, List.foldl_append, List.foldl_cons, List.foldl_nil, runI]

abbrev MSt : Type := Int × List (List Int) × List Int
def stp (e : E6) (low : Bool) (sz : Int) (s : MSt) : MSt :=
  let w := if K6 e = 1 ∧ odd (A6 e) = false then s.1 + 1 else s.1
  if K6 e ≠ 3 ∧ (K6 e ≠ 2 ∨ B6 e = 1) then (w, s.2.1, s.2.2)
  else
    let row := if K6 e = 3 ∧ 0 < w then s.2.2 ++ [if low then 0 - sz else 15 * sz] else s.2.2
    let w2 := if low then w else w - 1
    if w2 ≤ 0 then (w2, s.2.1 ++ [row], []) else (w2, s.2.1, row)
def lastw (f : Int) (p : List E6) : Bool := p.foldl (fun b e => if K6 e = 1 ∧ F6 e = f then odd (A6 e) else b) false
def lowOf (p : List E6) (e : E6) : Bool := if A6 e = 3 then lastw (F6 e) p else odd (A6 e)
def z6 : E6 := (0, 0, 0, 0, 0, 0)
def run (mss : List Int) (l : List E6) : Nat → MSt
  | 0 => (0, [], [])
  | i + 1 => stp (l.getD i z6) (lowOf (l.take i) (l.getD i z6)) (mz mss (F6 (l.getD i z6)).toNat) (run mss l i)

/-- What holds of the rows. -/
structure RunOK (i : Nat) (s : MSt) : Prop where
  w : -(i : Int) ≤ s.1 ∧ s.1 ≤ i
  out : s.2.1.length ≤ i
  row : s.2.2.length ≤ i
  ro : ∀ y ∈ s.2.2, -983040 ≤ y ∧ y ≤ 983040
  outs : ∀ r ∈ s.2.1, r.length ≤ i ∧ ∀ y ∈ r, -983040 ≤ y ∧ y ≤ 983040
theorem stp_ok {i : Nat} {s : MSt} (h : RunOK i s) (e : E6) (low : Bool) {sz : Int} (hs : 1 ≤ sz ∧ sz ≤ 65536) : RunOK (i + 1) (stp e low sz s) := by
  obtain ⟨hw, ho, hr, hro, hos⟩ := h
  have hos' : ∀ r ∈ s.2.1, r.length ≤ i + 1 ∧ ∀ y ∈ r, -983040 ≤ y ∧ y ≤ 983040 := fun r hr => ⟨by have := (hos r hr).1; omega, (hos r hr).2⟩
  unfold stp
  generalize hw' : (if K6 e = 1 ∧ odd (A6 e) = false then s.1 + 1 else s.1) = w
  have hwb : -(i : Int) ≤ w ∧ w ≤ i + 1 := by rw [← hw']; split <;> omega
  dsimp only
  split
  · exact ⟨⟨by omega, by omega⟩, Nat.le_succ_of_le ho, Nat.le_succ_of_le hr, hro, hos'⟩
  · generalize hrow : (if K6 e = 3 ∧ 0 < w then s.2.2 ++ [if low then 0 - sz else 15 * sz] else s.2.2) = row
    have hrb : row.length ≤ i + 1 ∧ ∀ y ∈ row, -983040 ≤ y ∧ y ≤ 983040 := by
      rw [← hrow]
      split
      · refine ⟨by simp; omega, fun y hy => ?_⟩
        simp only [List.mem_append, List.mem_singleton] at hy
        rcases hy with hy | rfl
        · exact hro y hy
        · split <;> omega
      · exact ⟨Nat.le_succ_of_le hr, hro⟩
    generalize hw2 : (if low then w else w - 1) = w2
    have hwc : -((i : Int) + 1) ≤ w2 ∧ w2 ≤ i + 1 := by rw [← hw2]; split <;> omega
    split
    · refine ⟨⟨by omega, by omega⟩, by simp; omega, by simp, by simp, fun r hr => ?_⟩
      simp only [List.mem_append, List.mem_singleton] at hr
      rcases hr with hr | rfl
      · exact hos' r hr
      · exact hrb
    · exact ⟨⟨by omega, by omega⟩, Nat.le_succ_of_le ho, hrb.1, hrb.2, hos'⟩

theorem run_ok (mss : List Int) (l : List E6) : ∀ i, RunOK i (run mss l i)
  | 0 => ⟨by simp [run], by simp [run], by simp [run], by simp [run], by simp [run]⟩
  | i + 1 => stp_ok (run_ok mss l i) _ _ (mz_b _ _)

theorem isLow_eq (N : Nat) (l : List E6) (i : Nat) (hi : i < l.length) (hl : l.length < 1000) (hN : 1000 < N) : W.leatref44_isLow N l (i : Int) = some (lowOf (l.take i) (l.getD i z6)) := by
  have d1 : decide ((0 : Int) ≤ (i : Int)) = true := by simp
  have d2 : decide ((i : Int) < ((l.length : Nat) : Int)) = true := by simpa using hi
  have d3 := getD_lt l ((0, (0, (0, (0, (0, 0))))) : E6) hi
  have d3' := getD_lt l z6 hi
  simp only [W.leatref44_isLow, d1, d2, d3, d3', Bool.and_self, cond_true, Int.toNat_natCast, odd_eq, Option.bind_some, lowOf]
  by_cases ha : A6 l[i] = 3
  · rw [if_pos ha]
    have h := iter_some (round := W.leatref44_isLow_L5 N) (fun x => ∃ k : Nat, k ≤ i ∧ x = (((i : Int), (lastw (F6 l[i]) (l.take k), ((k : Int), ()))), (l, ()))) (fun x => i - x.1.2.2.1.toNat) ((lastw (F6 l[i]) (l.take i), ()), ()) (by
      rintro F _ ⟨k, hk, rfl⟩
      by_cases hlt : k < i
      · left
        refine ⟨(((i : Int), (lastw (F6 l[i]) (l.take (k + 1)), (((k + 1 : Nat) : Int), ()))), (l, ())), ⟨k + 1, hlt, rfl⟩, by simp only [Int.toNat_natCast]; omega, ?_⟩
        have e1 : decide ((0 : Int) ≤ (k : Int)) = true := by simp
        have e2 : decide ((k : Int) < ((l.length : Nat) : Int)) = true := by simp; omega
        have e3 := getD_lt l ((0, (0, (0, (0, (0, 0))))) : E6) (show k < l.length by omega)
        have e4 : decide ((k : Int) < (i : Int)) = true := by simpa using hlt
        simp only [W.leatref44_isLow_L5, d1, d2, d3, e1, e2, e3, e4, Bool.and_self, cond_true, Int.toNat_natCast, i_next (show k < 1000 by omega), odd_eq, Option.bind_some]
        rw [take_next l (show k < l.length by omega)]
        simp only [lastw, List.foldl_append, List.foldl_cons, List.foldl_nil]
        by_cases c1 : K6 l[k] = 1
        · by_cases c2 : F6 l[k] = F6 l[i]
          · simp [c1, c2]
          · simp [c1, c2, beq_false_of_ne c2]
        · simp [c1, beq_false_of_ne c1]
      · right
        have : k = i := by omega
        subst this
        simp [W.leatref44_isLow_L5]) N (((i : Int), (false, (0, ()))), (l, ())) ⟨0, by omega, by simp [lastw]⟩ (by simp; omega)
    rw [h]
    simp [ha]
  · rw [if_neg ha, beq_false_of_ne ha]
    rfl

theorem rows_round (N : Nat) (mss : List Int) (l : List E6) (i : Nat) (hi : i < l.length) (hl : l.length < 1000) (hN : 1000 < N) (hf : 0 ≤ F6 l[i] ∧ F6 l[i] < mss.length)
    (F : ((Int × (Int × Unit)) × ((List Int) × ((List E6) × ((List (List Int)) × ((List Int) × Unit))))) → Option (Unit × ((List (List Int)) × ((List Int) × Unit)))) :
    W.leatref44_Rows_L6 N F (((run mss l i).1, ((i : Int), ())), (mss, (l, ((run mss l i).2.1, ((run mss l i).2.2, ()))))) =
      F (((run mss l (i + 1)).1, (((i + 1 : Nat) : Int), ())), (mss, (l, ((run mss l (i + 1)).2.1, ((run mss l (i + 1)).2.2, ()))))) := by
  have hlow := isLow_eq N l i hi hl hN
  have hok := run_ok mss l i
  have hsz : W.leatref44_Size N mss (F6 l[i]) = some (mz mss (F6 l[i]).toNat) := by
    have := Size_eq N mss (F6 l[i]).toNat (by omega)
    rwa [show ((F6 l[i]).toNat : Int) = F6 l[i] by omega] at this
  have hzb := mz_b mss (F6 l[i]).toNat
  have d1 : decide ((0 : Int) ≤ (i : Int)) = true := by simp
  have d2 : decide ((i : Int) < ((l.length : Nat) : Int)) = true := by simpa using hi
  have d3 := getD_lt l ((0, (0, (0, (0, (0, 0))))) : E6) hi
  have d3' := getD_lt l z6 hi
  simp only [run, d3'] at hlow ⊢
  generalize run mss l i = s at hok ⊢
  generalize lowOf (l.take i) l[i] = low at hlow ⊢
  simp only [W.leatref44_Rows_L6, d1, d2, d3, Bool.and_self, cond_true, Int.toNat_natCast, hlow, i_next (show i < 1000 by omega)]
  clear d3 d3' hlow
  generalize l[i] = e at hsz hzb ⊢
  generalize mz mss (F6 e).toNat = sz at hsz hzb ⊢
  obtain ⟨hw, ho, hr, _, _⟩ := hok
  obtain ⟨w, out, row⟩ := s
  obtain ⟨t, k, f, q, a, b⟩ := e
  simp only [F6] at hsz
  simp only at hw ho hr
  have w1 : IntKind.wrap .i64 (w + 1) = w + 1 := wrapI64 (by omega) (by omega)
  have w2 : IntKind.wrap .i64 (w + 1 - 1) = w := by rw [wrapI64 (by omega) (by omega)]; omega
  have w3 : IntKind.wrap .i64 (w - 1) = w - 1 := wrapI64 (by omega) (by omega)
  have w4 : IntKind.wrap .i64 (0 - sz) = 0 - sz := wrapI64 (by omega) (by omega)
  have w5 : IntKind.wrap .i64 (15 * sz) = 15 * sz := wrapI64 (by omega) (by omega)
  have b1 : ∀ y : Int, decide ((row.length + [y].length) * 8 ≤ 140737488355328) = true := by intro y; simp; omega
  have b2 : ∀ y : List Int, decide ((out.length + [y].length) * 24 ≤ 140737488355328) = true := by intro y; simp; omega
  simp only [W.leatref44_Rows_L6_j1, i_next (show i < 1000 by omega), odd_eq, hsz, Option.bind_some, w1, w2, w3, w4, w5, b1, b2, cond_true, stp, K6, A6, B6]
  by_cases k1 : k = 1
  · subst k1
    cases ho : odd a <;> simp
  · by_cases k3 : k = 3
    · subst k3
      by_cases h0 : 0 < w
      · by_cases h1 : w ≤ 0
        · omega
        · by_cases h2 : w - 1 ≤ 0
          · cases low <;> simp [h0, h1, h2]
          · cases low <;> simp [h0, h1, h2]
      · by_cases h1 : w ≤ 0
        · have h2 : w - 1 ≤ 0 := by omega
          cases low <;> simp [h0, h1, h2]
        · omega
    · by_cases k2 : k = 2
      · subst k2
        by_cases hb : b = 1
        · subst hb; simp
        · by_cases h1 : w ≤ 0
          · have h2 : w - 1 ≤ 0 := by omega
            cases low <;> simp [hb, beq_false_of_ne hb, h1, h2]
          · by_cases h2 : w - 1 ≤ 0
            · cases low <;> simp [hb, beq_false_of_ne hb, h1, h2]
            · cases low <;> simp [hb, beq_false_of_ne hb, h1, h2]
      · simp [k1, k2, k3, beq_false_of_ne k1, beq_false_of_ne k2, beq_false_of_ne k3]

theorem Rows_eq (N : Nat) (es : List E6) (mss : List Int) (l : List E6) (hl : l = metOf es (mss.length : Int)) (hes : es.length < 1000) (hN : 1000 < N) (hf : ∀ e ∈ l, 0 ≤ F6 e ∧ F6 e < mss.length) :
    W.leatref44_Rows N ((), (es, (mss, ()))) = some ((), ((run mss l l.length).2.1 ++ [(run mss l l.length).2.2], ())) := by
  have hlen : l.length < 1000 := by rw [hl]; exact Nat.lt_of_le_of_lt (List.length_filter_le ..) hes
  have h := iter_some (round := W.leatref44_Rows_L6 N) (fun x => ∃ i : Nat, i ≤ l.length ∧ x = (((run mss l i).1, ((i : Int), ())), (mss, (l, ((run mss l i).2.1, ((run mss l i).2.2, ())))))) (fun x => l.length - x.1.2.1.toNat) ((), ((run mss l l.length).2.1, ((run mss l l.length).2.2, ()))) (by
    rintro F _ ⟨i, hi, rfl⟩
    by_cases hlt : i < l.length
    · left
      exact ⟨_, ⟨i + 1, hlt, rfl⟩, by simp only [Int.toNat_natCast]; omega, rows_round N mss l i hlt hlen hN (hf _ (List.getElem_mem hlt)) F⟩
    · right
      have : i = l.length := by omega
      subst this
      simp [W.leatref44_Rows_L6]) N ((0, (0, ())), (mss, (l, ([], ([], ()))))) ⟨0, by omega, rfl⟩ (by simp; omega)
  have ho := (run_ok mss l l.length).out
  have b2 : decide (((run mss l l.length).2.1.length + [(run mss l l.length).2.2].length) * 24 ≤ 140737488355328) = true := by simp; omega
  simp only [W.leatref44_Rows, Of_eq N es _ hes hN, Option.bind_some, ← hl, h, b2, cond_true]

theorem runK_le : ∀ (xs : List Int) (a s : Int), runK a s xs ≤ a
  | [], a, s => Int.le_refl _
  | x :: t, a, s => by simp only [runK]; exact Int.le_trans (runK_le t _ _) (by omega)

theorem drop_cons {α : Type} (xs : List α) {i : Nat} (h : i < xs.length) : xs.drop i = xs[i] :: xs.drop (i + 1) := List.drop_eq_getElem_cons h

theorem L11_eq (N : Nat) (rows : List (List Int)) (r i : Nat) (a0 : Int) (hN : 2000 < N) (hr : r < rows.length) (hi : i ≤ rows[r].length) (hl : rows[r].length < 1000) (hb : ∀ y ∈ rows[r], -983040 ≤ y ∧ y ≤ 983040) :
    iter (W.leatref44_Margin_L11 N) N ((a0, ((r : Int), ((i : Int), (0, ((i : Int), ()))))), (rows, ())) = some ((runK a0 0 (rows[r].drop i), ((r : Int), ((i : Int), ()))), (rows, ())) := by
  exact iter_some (round := W.leatref44_Margin_L11 N) (fun x => ∃ (k : Nat) (a s : Int), k ≤ rows[r].length ∧ (-983040 * (k : Int) ≤ s ∧ s ≤ 983040 * (k : Int)) ∧ runK a s (rows[r].drop k) = runK a0 0 (rows[r].drop i) ∧ x = ((a, ((r : Int), ((i : Int), (s, ((k : Int), ()))))), (rows, ()))) (fun x => rows[r].length - x.1.2.2.2.2.1.toNat) _ (by
    rintro F _ ⟨k, a, s, hk, hs, he, rfl⟩
    have d1 : decide ((0 : Int) ≤ (r : Int)) = true := by simp
    have d2 : decide ((r : Int) < ((rows.length : Nat) : Int)) = true := by simpa using hr
    have d3 := getD_lt rows ([] : List Int) hr
    by_cases hlt : k < rows[r].length
    · left
      have hy := hb rows[r][k] (List.getElem_mem _)
      refine ⟨((min a (s + rows[r][k]), ((r : Int), ((i : Int), (s + rows[r][k], (((k + 1 : Nat) : Int), ()))))), (rows, ())), ⟨k + 1, _, _, hlt, by omega, ?_, rfl⟩, by simp only [Int.toNat_natCast]; omega, ?_⟩
      · rw [drop_cons _ hlt] at he
        exact he
      · have e1 : decide ((0 : Int) ≤ (k : Int)) = true := by simp
        have e2 : decide ((k : Int) < ((rows[r].length : Nat) : Int)) = true := by simpa using hlt
        have e3 := getD_lt rows[r] (0 : Int) hlt
        have e4 : IntKind.wrap .i64 (s + rows[r][k]) = s + rows[r][k] := wrapI64 (by omega) (by omega)
        simp only [W.leatref44_Margin_L11, d1, d2, d3, e1, e2, e3, e4, Bool.and_self, cond_true, Int.toNat_natCast, i_next (show k < 1000 by omega), imn_eq]
    · right
      have : k = rows[r].length := by omega
      subst this
      have e5 : decide (((rows[r].length : Nat) : Int) < ((rows[r].length : Nat) : Int)) = false := by simp
      simp only [W.leatref44_Margin_L11, d1, d2, d3, e5, Bool.and_self, cond_true, cond_false, Int.toNat_natCast]
      rw [List.drop_length] at he
      simp only [runK] at he
      rw [he]) N _ ⟨i, a0, 0, hi, by omega, rfl, rfl⟩ (by simp; omega)

theorem L7_eq (N : Nat) (rows : List (List Int)) (r : Nat) (a0 : Int) (hN : 2000 < N) (hr : r < rows.length) (hl : rows[r].length < 1000) (hb : ∀ y ∈ rows[r], -983040 ≤ y ∧ y ≤ 983040) :
    iter (W.leatref44_Margin_L7 N) N ((a0, ((r : Int), (0, ()))), (rows, ())) = some ((runI a0 rows[r], ((r : Int), ())), (rows, ())) := by
  exact iter_some (round := W.leatref44_Margin_L7 N) (fun x => ∃ (k : Nat) (a : Int), k ≤ rows[r].length ∧ runI a (rows[r].drop k) = runI a0 rows[r] ∧ x = ((a, ((r : Int), ((k : Int), ()))), (rows, ()))) (fun x => rows[r].length - x.1.2.2.1.toNat) _ (by
    rintro F _ ⟨k, a, hk, he, rfl⟩
    have d1 : decide ((0 : Int) ≤ (r : Int)) = true := by simp
    have d2 : decide ((r : Int) < ((rows.length : Nat) : Int)) = true := by simpa using hr
    have d3 := getD_lt rows ([] : List Int) hr
    by_cases hlt : k < rows[r].length
    · left
      refine ⟨((runK a 0 (rows[r].drop k), ((r : Int), (((k + 1 : Nat) : Int), ()))), (rows, ())), ⟨k + 1, _, hlt, ?_, rfl⟩, by simp only [Int.toNat_natCast]; omega, ?_⟩
      · rw [← he]
        rw [drop_cons _ hlt]
        rfl
      · have e2 : decide ((k : Int) < ((rows[r].length : Nat) : Int)) = true := by simpa using hlt
        simp only [W.leatref44_Margin_L7, d1, d2, d3, e2, Bool.and_self, cond_true, Int.toNat_natCast, L11_eq N rows r k a hN hr hk hl hb, Option.bind_some, i_next (show k < 1000 by omega)]
    · right
      have : k = rows[r].length := by omega
      subst this
      have e5 : decide (((rows[r].length : Nat) : Int) < ((rows[r].length : Nat) : Int)) = false := by simp
      simp only [W.leatref44_Margin_L7, d1, d2, d3, e5, Bool.and_self, cond_true, cond_false, Int.toNat_natCast]
      rw [List.drop_length] at he
      simp only [runI] at he
      rw [he]) N _ ⟨0, a0, by omega, rfl, rfl⟩ (by simp; omega)

theorem L4_eq (N : Nat) (rows : List (List Int)) (hN : 2000 < N) (hrl : rows.length < 1000) (hb : ∀ r ∈ rows, r.length < 1000 ∧ ∀ y ∈ r, -983040 ≤ y ∧ y ≤ 983040) :
    iter (W.leatref44_Margin_L4 N) N ((0, (0, ())), (rows, ())) = some ((rows.foldl runI 0, ()), ()) := by
  exact iter_some (round := W.leatref44_Margin_L4 N) (fun x => ∃ (k : Nat) (a : Int), k ≤ rows.length ∧ (rows.drop k).foldl runI a = rows.foldl runI 0 ∧ x = ((a, ((k : Int), ())), (rows, ()))) (fun x => rows.length - x.1.2.1.toNat) _ (by
    rintro F _ ⟨k, a, hk, he, rfl⟩
    by_cases hlt : k < rows.length
    · left
      have hk' := hb rows[k] (List.getElem_mem _)
      refine ⟨((runI a rows[k], (((k + 1 : Nat) : Int), ())), (rows, ())), ⟨k + 1, _, hlt, ?_, rfl⟩, by simp only [Int.toNat_natCast]; omega, ?_⟩
      · rw [← he]
        rw [drop_cons _ hlt]
        rfl
      · have e2 : decide ((k : Int) < ((rows.length : Nat) : Int)) = true := by simpa using hlt
        simp only [W.leatref44_Margin_L4, e2, cond_true, L7_eq N rows k a hN hlt hk'.1 hk'.2, Option.bind_some, i_next (show k < 1000 by omega)]
    · right
      have : k = rows.length := by omega
      subst this
      rw [List.drop_length] at he
      simp only [List.foldl_nil] at he
      rw [← he]
      simp [W.leatref44_Margin_L4]) N _ ⟨0, 0, by omega, rfl, rfl⟩ (by simp; omega)

theorem Margin_ref (N : Nat) (es : List E6) (mss : List Int) (l : List E6) (hl : l = metOf es (mss.length : Int)) (hes : es.length < 900) (hN : 2000 < N) (hf : ∀ e ∈ l, 0 ≤ F6 e ∧ F6 e < mss.length) :
    W.leatref44_Margin N es mss = some (mrg (run mss l l.length).2.1 (run mss l l.length).2.2) := by
  have hlen : l.length < 900 := by rw [hl]; exact Nat.lt_of_le_of_lt (List.length_filter_le ..) hes
  obtain ⟨_, h2, h3, h4, h5⟩ := run_ok mss l l.length
  have h := L4_eq N ((run mss l l.length).2.1 ++ [(run mss l l.length).2.2]) hN (by simp; omega) (by
    intro r hr
    simp only [List.mem_append, List.mem_singleton] at hr
    rcases hr with hr | rfl
    · exact ⟨by have := (h5 r hr).1; omega, (h5 r hr).2⟩
    · exact ⟨by omega, h4⟩)
  simp only [W.leatref44_Margin, Rows_eq N es mss l hl (by omega) (by omega) hf, Option.bind_some, h, mrg]

theorem sm_b' : ∀ (xs : List Int) (r : Int) (m : Nat), (∀ y ∈ xs, -983040 ≤ y ∧ y ≤ 983040) → -983040 * (m : Int) ≤ r → r ≤ 983040 →
    -983040 * ((m + xs.length : Nat) : Int) ≤ xs.foldl (fun r y => min r 0 + y) r ∧ xs.foldl (fun r y => min r 0 + y) r ≤ 983040
  | [], r, m, _, h1, h2 => ⟨by simpa using h1, h2⟩
  | x :: t, r, m, h, h1, h2 => by
    have hx := h x (by simp)
    have := sm_b' t (min r 0 + x) (m + 1) (fun y hy => h y (by simp [hy])) (by omega) (by omega)
    simp only [List.foldl_cons, List.length_cons]
    rw [show m + (t.length + 1) = m + 1 + t.length by omega]
    exact this

theorem sm_b (xs : List Int) (h : ∀ y ∈ xs, -983040 ≤ y ∧ y ≤ 983040) : -983040 * (xs.length : Int) ≤ sm xs ∧ sm xs ≤ 983040 := by
  have := sm_b' xs 0 0 h (by omega) (by omega)
  simpa [sm] using this

theorem lastw_app (f : Int) (p : List E6) (e : E6) : lastw f (p ++ [e]) = if K6 e = 1 ∧ F6 e = f then odd (A6 e) else lastw f p := by
  simp only [lastw, List.foldl_append, List.foldl_cons, List.foldl_nil]

abbrev PMS : Type := Unit × Unit × (Int × Unit) × (Int × Unit) × (Int × Unit) × Unit × Unit × (Int × Unit) × List Int × List Bool × List E6 × Unit
def lows (mss : List Int) (p : List E6) : List Bool := (List.range mss.length).map (fun j : Nat => lastw (j : Int) p)
abbrev pst (n : Int) (mss : List Int) (es : List E6) (p : List E6) (s : MSt) : PMS :=
  ((), ((), ((s.1, ()), ((sm s.2.2, ()), ((mrg s.2.1 s.2.2, ()), ((), ((), ((n, ()), (mss, (lows mss p, (es, ())))))))))))

theorem lows_same (mss : List Int) (p : List E6) (e : E6) (h : K6 e ≠ 1) : lows mss (p ++ [e]) = lows mss p := by
  simp only [lows, lastw_app, h, false_and, if_false]

theorem lows_set (mss : List Int) (p : List E6) (e : E6) (h : K6 e = 1) (j : Nat) (hj : F6 e = (j : Int)) : (lows mss p).set j (odd (A6 e)) = lows mss (p ++ [e]) := by
  have e1 := map_set mss.length (fun j : Nat => lastw (j : Int) p) (fun j : Nat => lastw (j : Int) (p ++ [e])) j (fun k hk => by
    simp only [lastw_app]
    rw [if_neg]
    rintro ⟨_, h2⟩
    omega)
  have e2 : lastw (j : Int) (p ++ [e]) = odd (A6 e) := by rw [lastw_app, if_pos ⟨h, hj⟩]
  simp only [e2] at e1
  exact e1

theorem margin_round (N : Nat) (n : Int) (mss : List Int) (es p : List E6) (e : E6) (s : MSt) (i : Nat) (hi : i < 900) (hs : RunOK i s) (hf : 0 ≤ F6 e ∧ F6 e < mss.length) (F : PMS → Option PMS) :
    W.meter_Margin_R5 N e F (pst n mss es p s) = F (pst n mss es (p ++ [e]) (stp e (lowOf p e) (mz mss (F6 e).toNat) s)) := by
  obtain ⟨j, hj⟩ : ∃ j : Nat, F6 e = (j : Int) := ⟨(F6 e).toNat, by omega⟩
  have hj' : j < mss.length := by omega
  have hlen : (lows mss p).length = mss.length := by simp [lows]
  have hget : (lows mss p).getD j false = lastw (F6 e) p := by rw [getD_lt _ _ (by omega), hj]; simp [lows]
  have hsz : W.meter_size N mss (F6 e) = some (mz mss (F6 e).toNat) := by
    have := size_eq N mss j hj'
    rwa [← hj, show j = (F6 e).toNat by omega] at this
  have hzb := mz_b mss (F6 e).toNat
  have d1 : decide ((0 : Int) ≤ e.2.2.1) = true := by simpa using hf.1
  have d2 : decide (e.2.2.1 < (((lows mss p).length : Nat) : Int)) = true := by rw [hlen]; simpa using hf.2
  have d3 : e.2.2.1.toNat = j := by have h8 : e.2.2.1 = (j : Int) := hj; omega
  have first : W.meter_Margin_R5 N e F (pst n mss es p s) = W.meter_Margin_R5_j1 N F (pst n mss es p s) e (lowOf p e) := by
    simp only [W.meter_Margin_R5, pst, d1, d2, d3, hget, Bool.and_self, cond_true, and1_one, lowOf]
    by_cases ha : A6 e = 3
    · rw [if_pos ha]; simp [ha]
    · rw [if_neg ha, beq_false_of_ne ha]; rfl
  rw [first]
  have hset := lows_set mss p e
  have hsame := lows_same mss p e
  generalize lowOf p e = low
  generalize mz mss (F6 e).toNat = sz at hsz hzb ⊢
  have hsb := sm_b s.2.2 hs.ro
  obtain ⟨hw, ho, hr, _, _⟩ := hs
  obtain ⟨w, out, row⟩ := s
  obtain ⟨t, k, f, q, a, b⟩ := e
  simp only [F6, K6, A6] at hsz hset hsame hj
  simp only at hw ho hr hsb d1 d2 d3
  have w1 : IntKind.wrap .i64 (w + 1) = w + 1 := wrapI64 (by omega) (by omega)
  have w3 : IntKind.wrap .i64 (w - 1) = w - 1 := wrapI64 (by omega) (by omega)
  have w4 : IntKind.wrap .i64 (0 - sz) = 0 - sz := wrapI64 (by omega) (by omega)
  have w5 : IntKind.wrap .i64 (15 * sz) = 15 * sz := wrapI64 (by omega) (by omega)
  have w6 : IntKind.wrap .i64 (min (sm row) 0 + (0 - sz)) = min (sm row) 0 + (0 - sz) := wrapI64 (by omega) (by omega)
  have w7 : IntKind.wrap .i64 (min (sm row) 0 + 15 * sz) = min (sm row) 0 + 15 * sz := wrapI64 (by omega) (by omega)
  have s0 : sm [] = 0 := rfl
  simp only [W.meter_Margin_R5_j1, W.meter_Margin_R5_j2, W.meter_Margin_R5_j3, W.meter_Margin_R5_j4, pst, d1, d2, d3, hsz, Option.bind_some, Bool.and_self, cond_true, and1_one, and1_zero, imn_eq, w1, w3, w4, w5, w6, w7, stp, K6, A6, B6]
  by_cases k1 : k = 1
  · subst k1
    rw [hset rfl j hj]
    cases ho : odd a <;> simp
  · rw [hsame k1]
    by_cases k3 : k = 3
    · subst k3
      by_cases h0 : 0 < w
      · have h1 : ¬ w ≤ 0 := by omega
        by_cases h2 : w - 1 ≤ 0
        · cases low <;> simp [h0, h1, h2, mrg_app, mrg_close, sm_app, s0]
        · cases low <;> simp [h0, h1, h2, mrg_app, sm_app]
      · have h1 : w ≤ 0 := by omega
        have h2 : w - 1 ≤ 0 := by omega
        cases low <;> simp [h0, h1, h2, mrg_close, s0]
    · by_cases k2 : k = 2
      · subst k2
        by_cases hb : b = 1
        · subst hb; simp
        · by_cases h1 : w ≤ 0
          · have h2 : w - 1 ≤ 0 := by omega
            cases low <;> simp [hb, beq_false_of_ne hb, h1, h2, mrg_close, s0]
          · by_cases h2 : w - 1 ≤ 0
            · cases low <;> simp [hb, beq_false_of_ne hb, h1, h2, mrg_close, s0]
            · cases low <;> simp [hb, beq_false_of_ne hb, h1, h2]
      · simp [k1, k2, k3, beq_false_of_ne k1, beq_false_of_ne k2, beq_false_of_ne k3]

theorem margin_loop (N : Nat) (n : Int) (mss : List Int) (es l : List E6) (hl : l.length < 900) (hf : ∀ e ∈ l, 0 ≤ F6 e ∧ F6 e < mss.length) : ∀ (k i : Nat), i + k = l.length →
    itR (W.meter_Margin_R5 N) (l.drop i) (pst n mss es (l.take i) (run mss l i)) = some (pst n mss es l (run mss l l.length))
  | 0, i, h => by
    have : i = l.length := by omega
    subst this
    simp [itR]
  | k + 1, i, h => by
    have hlt : i < l.length := by omega
    rw [drop_cons _ hlt]
    simp only [itR]
    rw [margin_round N n mss es (l.take i) l[i] (run mss l i) i (by omega) (run_ok mss l i) (hf _ (List.getElem_mem hlt)), ← take_next l hlt]
    have := margin_loop N n mss es l hl hf k (i + 1) (by omega)
    simp only [run, getD_lt l z6 hlt] at this
    exact this

theorem Margin_prog (N : Nat) (es : List E6) (mss : List Int) (l : List E6) (hl : l = metOf es (mss.length : Int)) (hes : es.length < 900) (hm : mss.length < 900) (hf : ∀ e ∈ l, 0 ≤ F6 e ∧ F6 e < mss.length) :
    W.meter_Margin N es mss = some (mrg (run mss l l.length).2.1 (run mss l l.length).2.2) := by
  have hlen : l.length < 900 := by rw [hl]; exact Nat.lt_of_le_of_lt (List.length_filter_le ..) hes
  have h1 : decide ((0 : Int) ≤ ((mss.length : Nat) : Int)) = true := by simp
  have h3 : decide (((mss.length : Nat) : Int) * 1 ≤ 140737488355328) = true := by simp; omega
  have h4 : decide (((mss.length : Nat) : Int) ≤ 140737488355328) = true := by simp; omega
  have h5 : decide (es.length ≤ 1000000000) = true := by simp; omega
  have h := margin_loop N (mss.length : Int) mss es l hlen hf l.length 0 (by omega)
  have h0 : pst (mss.length : Int) mss es (l.take 0) (run mss l 0) = ((), ((), ((0, ()), ((0, ()), ((0, ()), ((), ((), (((mss.length : Int), ()), (mss, (List.replicate mss.length false, (es, ()))))))))))) := by
    have : lows mss [] = List.replicate mss.length false := by
      apply List.ext_getElem
      · simp [lows]
      · intro k _ _; simp [lows, lastw]
    simp [pst, run, this, sm, mrg, runI]
  rw [h0, List.drop_zero] at h
  simp only [W.meter_Margin, h1, h3, h4, h5, decide_true, Bool.and_self, cond_true, Option.bind_some, Int.toNat_natCast, ← hl, h]

def sel (code frm : Int) (e : E6) : Bool := K6 e == 3 && ((decide (code < 0) || A6 e == code) && decide (frm ≤ T6 e))
def selm (code frm : Int) (p : List E6) : Int := p.foldl (fun v e => if sel code frm e then max v (B6 e) else v) (-9223372036854775808)
def lngw (code frm : Int) (p : List E6) : Int := if num (sel code frm) p = 0 then 0 else selm code frm p
theorem sel_none (code frm : Int) : ∀ (p : List E6) (v : Int), (∀ e ∈ p, sel code frm e = false) → p.foldl (fun v e => if sel code frm e then max v (B6 e) else v) v = v
  | [], _, _ => rfl
  | e :: t, v, h => by
    have h1 := h e (by simp)
    simp only [List.foldl_cons, h1, Bool.false_eq_true, if_false]
    exact sel_none code frm t v fun x hx => h x (by simp [hx])

theorem selm_app (code frm : Int) (p : List E6) (e : E6) : selm code frm (p ++ [e]) = if sel code frm e then max (selm code frm p) (B6 e) else selm code frm p := by
  simp only [selm, List.foldl_append, List.foldl_cons, List.foldl_nil]

theorem selm_zero (code frm : Int) (p : List E6) (h : num (sel code frm) p = 0) : selm code frm p = -9223372036854775808 := by
  refine sel_none code frm p _ fun e he => ?_
  have h1 : p.countP (sel code frm) = 0 := by simp only [num] at h; omega
  have := List.countP_eq_zero.1 h1 e he
  simpa using this

theorem lngw_app (code frm : Int) (p : List E6) (e : E6) (he : I64 (B6 e)) : lngw code frm (p ++ [e]) = if sel code frm e then (if num (sel code frm) p = 0 ∨ lngw code frm p < B6 e then B6 e else lngw code frm p) else lngw code frm p := by
  have hn := num_le (sel code frm) p
  by_cases hs : sel code frm e = true
  · have hA : lngw code frm (p ++ [e]) = max (selm code frm p) (B6 e) := by
      unfold lngw
      rw [if_neg (by rw [num_app, if_pos hs]; omega), selm_app, if_pos hs]
    rw [hA, if_pos hs]
    by_cases h0 : num (sel code frm) p = 0
    · rw [if_pos (Or.inl h0), selm_zero _ _ _ h0]; omega
    · have hB : lngw code frm p = selm code frm p := by unfold lngw; rw [if_neg h0]
      rw [hB]
      by_cases hb : selm code frm p < B6 e
      · rw [if_pos (Or.inr hb)]; omega
      · rw [if_neg (fun h => h.elim h0 hb)]; omega
  · have h1 : num (sel code frm) (p ++ [e]) = num (sel code frm) p := by rw [num_app, if_neg hs, Int.add_zero]
    have h2 : selm code frm (p ++ [e]) = selm code frm p := by rw [selm_app, if_neg hs]
    unfold lngw
    rw [h1, h2, if_neg hs]

theorem Waits_prog (N : Nat) (l : List E6) (code frm : Int) (hl : l.length < 1000) (hN : 1000 < N) (h6 : ∀ e ∈ l, I64 (B6 e)) : W.meter_Waits N l code frm = some (lngw code frm l, num (sel code frm) l) := by
  have h := iter_some (round := W.meter_Waits_L3 N) (fun x => ∃ i : Nat, i ≤ l.length ∧ x = ((code, (frm, (lngw code frm (l.take i), (num (sel code frm) (l.take i), ((l.length : Int), ((i : Int), ())))))), (l, ()))) (fun x => l.length - x.1.2.2.2.2.2.1.toNat) ((lngw code frm l, (num (sel code frm) l, ())), ()) (by
    rintro F _ ⟨i, hi, rfl⟩
    by_cases hlt : i < l.length
    · left
      refine ⟨_, ⟨i + 1, hlt, rfl⟩, by simp only [Int.toNat_natCast]; omega, ?_⟩
      have d1 : decide ((0 : Int) ≤ (i : Int)) = true := by simp
      have d2 : decide ((i : Int) < ((l.length : Nat) : Int)) = true := by simpa using hlt
      have d3 := getD_lt l ((0, (0, (0, (0, (0, 0))))) : E6) hlt
      have he := h6 l[i] (List.getElem_mem _)
      have hn := num_le (sel code frm) (l.take i)
      have hlen : (l.take i).length ≤ 1000 := by simp; omega
      have d4 : IntKind.wrap .i64 (num (sel code frm) (l.take i) + 1) = num (sel code frm) (l.take i) + 1 := wrapI64 (by omega) (by omega)
      simp only [W.meter_Waits_L3, W.meter_Waits_L3_j1, d1, d2, d3, Bool.and_self, cond_true, Int.toNat_natCast, i_next (show i < 1000 by omega), d4]
      rw [take_next l hlt, lngw_app _ _ _ _ he, num_app]
      clear d3 he
      generalize l[i] = e
      generalize lngw code frm (l.take i) = lw
      generalize num (sel code frm) (l.take i) = nm
      obtain ⟨t, k, f, q, a, b⟩ := e
      simp only [sel, K6, A6, T6, B6]
      by_cases k3 : k = 3
      · subst k3
        by_cases hc : code < 0
        · by_cases hf : frm ≤ t
          · by_cases hm : nm = 0
            · simp [hc, hf, hm]
            · by_cases hb : lw < b
              · simp [hc, hf, hm, beq_false_of_ne hm, hb]
              · simp [hc, hf, hm, beq_false_of_ne hm, hb]
          · simp [hc, hf]
        · by_cases ha : a = code
          · by_cases hf : frm ≤ t
            · by_cases hm : nm = 0
              · simp [hc, ha, hf, hm]
              · by_cases hb : lw < b
                · simp [hc, ha, hf, hm, beq_false_of_ne hm, hb]
                · simp [hc, ha, hf, hm, beq_false_of_ne hm, hb]
            · simp [hc, ha, hf]
          · simp [hc, beq_false_of_ne ha]
      · simp [beq_false_of_ne k3]
    · right
      have : i = l.length := by omega
      subst this
      simp [W.meter_Waits_L3]) N ((code, (frm, (0, (0, ((l.length : Int), (0, ())))))), (l, ())) ⟨0, by omega, by simp [lngw, num]⟩ (by simp; omega)
  simp only [W.meter_Waits, h, Option.bind_some]

theorem Waits_ref (N : Nat) (l : List E6) (code frm : Int) (hl : l.length < 1000) (hN : 1000 < N) : W.leatref44_Waits N l code frm = some (lngw code frm l, num (sel code frm) l) := by
  have h := iter_some (round := W.leatref44_Waits_L3 N) (fun x => ∃ i : Nat, i ≤ l.length ∧ x = ((code, (frm, (selm code frm (l.take i), (num (sel code frm) (l.take i), ((i : Int), ()))))), (l, ()))) (fun x => l.length - x.1.2.2.2.2.1.toNat) ((selm code frm l, (num (sel code frm) l, ())), ()) (by
    rintro F _ ⟨i, hi, rfl⟩
    by_cases hlt : i < l.length
    · left
      refine ⟨_, ⟨i + 1, hlt, rfl⟩, by simp only [Int.toNat_natCast]; omega, ?_⟩
      have d1 : decide ((0 : Int) ≤ (i : Int)) = true := by simp
      have d2 : decide ((i : Int) < ((l.length : Nat) : Int)) = true := by simpa using hlt
      have d3 := getD_lt l ((0, (0, (0, (0, (0, 0))))) : E6) hlt
      have hn := num_le (sel code frm) (l.take i)
      have hlen : (l.take i).length ≤ 1000 := by simp; omega
      have d4 : IntKind.wrap .i64 (num (sel code frm) (l.take i) + 1) = num (sel code frm) (l.take i) + 1 := wrapI64 (by omega) (by omega)
      simp only [W.leatref44_Waits_L3, W.leatref44_Waits_L3_j1, d1, d2, d3, Bool.and_self, cond_true, Int.toNat_natCast, i_next (show i < 1000 by omega), d4, imx_eq]
      rw [take_next l hlt, selm_app, num_app]
      clear d3
      generalize l[i] = e
      generalize selm code frm (l.take i) = lw
      generalize num (sel code frm) (l.take i) = nm
      obtain ⟨t, k, f, q, a, b⟩ := e
      simp only [sel, K6, A6, T6, B6]
      by_cases k3 : k = 3
      · subst k3
        by_cases hf : frm ≤ t
        · by_cases hc : code < 0
          · simp [hc, hf]
          · by_cases ha : a = code
            · simp [hc, ha, hf]
            · simp [hc, beq_false_of_ne ha, hf]
        · simp [hf]
      · simp [beq_false_of_ne k3]
    · right
      have : i = l.length := by omega
      subst this
      simp [W.leatref44_Waits_L3]) N ((code, (frm, (-9223372036854775808, (0, (0, ()))))), (l, ())) ⟨0, by omega, by simp [selm, num]⟩ (by simp; omega)
  simp only [W.leatref44_Waits, h, Option.bind_some]
  by_cases h0 : num (sel code frm) l = 0
  · simp [h0, lngw]
  · rw [beq_false_of_ne h0]
    simp [h0, lngw]

theorem MeterMargins_i (es : List E6) (mss : List Int) (two : Int × Int) (h6 : ∀ e ∈ es, I64 (B6 e)) : W.leatlaw44_MeterMargins 3000 es mss two = some true := by
  have g1 : ∀ n : Nat, (decide ((0 : Int) ≤ imn (n : Int) 80) && decide (imn (n : Int) 80 ≤ (n : Int))) = true := by intro n; rw [imn_eq]; simp; omega
  have g2 : ∀ n : Nat, (decide ((0 : Int) ≤ imn (n : Int) 6) && decide (imn (n : Int) 6 ≤ (n : Int))) = true := by intro n; rw [imn_eq]; simp; omega
  obtain ⟨c1, m1⟩ := cut_le es 80 (by omega)
  obtain ⟨c2, m2⟩ := cut_le mss 6 (by omega)
  simp only [W.leatlaw44_MeterMargins, g1, g2, cond_true]
  generalize cutL es 0 (imn ((es.length : Nat) : Int) 80) = es' at *
  generalize cutL mss 0 (imn ((mss.length : Nat) : Int) 6) = mss' at *
  have k6 : ∀ e ∈ es', I64 (B6 e) := fun e he => h6 e (m1 e he)
  have hf : ∀ e ∈ metOf es' (mss'.length : Int), 0 ≤ F6 e ∧ F6 e < mss'.length := fun e he => (of_all es' mss'.length k6 e he).1
  rw [Waits_prog 3000 es' _ _ (by omega) (by omega) k6, Waits_ref 3000 es' _ _ (by omega) (by omega)]
  simp only [Option.bind_some]
  rw [Margin_prog 3000 es' mss' _ rfl (by omega) (by omega) hf, Margin_ref 3000 es' mss' _ rfl (by omega) (by omega) hf]
  simp only [Option.bind_some, beq_self_eq_true, cond_true, meter_works]

theorem MeterMargins (x : RT [.row 83 [.int .i64, .int .i64, .int .i64, .int .i64, .int .i64, .int .i64], .row 2 [.int .i64], .agg [.int .i64, .int .i64]]) (h : RT.wf _ x) : ∃ N, uncR [.row 83 [.int .i64, .int .i64, .int .i64, .int .i64, .int .i64, .int .i64], .row 2 [.int .i64], .agg [.int .i64, .int .i64]] (W.leatlaw44_MeterMargins N) x = some true := by
  obtain ⟨es, mss, two⟩ := x
  refine ⟨3000, MeterMargins_i es mss two (fun e he => ?_)⟩
  have h1 := h.1.2 e he
  exact i64_range h1.2.2.2.2.2

end Go.Proofs.Ytakjmminaolfnaa.Pure
