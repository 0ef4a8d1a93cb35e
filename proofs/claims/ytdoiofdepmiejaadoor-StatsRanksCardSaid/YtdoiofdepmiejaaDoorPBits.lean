/- Numbers by their bits, the lowest first: what the document's long arithmetic comes to. -/
import Derived.Test.YtdoiofdepmiejaaDoorPSat
namespace Go.Proofs.YtdoiofdepmiejaaDoor.Pure
open Go.Ev Go.RowKit

def nv : List Int → Int
  | [] => 0
  | b :: t => b + 2 * nv t

def Bt (l : List Int) : Prop := ∀ x ∈ l, x = 0 ∨ x = 1

theorem Bt.nil : Bt [] := List.forall_mem_nil _

theorem Bt.app {a b : List Int} (ha : Bt a) (hb : Bt b) : Bt (a ++ b) := fun x h => (List.mem_append.1 h).elim (ha x) (hb x)

theorem Bt.one {x : Int} (h : x = 0 ∨ x = 1) : Bt [x] := fun y hy => by simp at hy; subst hy; exact h

theorem Bt.zeros (n : Nat) : Bt (List.replicate n 0) := fun _ h => .inl (List.mem_replicate.1 h).2

theorem Bt.get {l : List Int} (h : Bt l) (i : Nat) : l.getD i 0 = 0 ∨ l.getD i 0 = 1 := by
  by_cases hi : i < l.length
  · have : l.getD i 0 = l[i] := by simp [List.getD, hi]
    rw [this]; exact h _ (List.getElem_mem hi)
  · left; simp [List.getD, Nat.le_of_not_lt hi]

theorem Bt.set {l : List Int} (h : Bt l) (i : Nat) {x : Int} (hx : x = 0 ∨ x = 1) : Bt (l.set i x) := fun y hy => by
  rcases List.mem_or_eq_of_mem_set hy with h1 | h1
  · exact h y h1
  · subst h1; exact hx

theorem nv_app (a b : List Int) : nv (a ++ b) = nv a + 2 ^ a.length * nv b := by
  induction a with
  | nil => simp [nv]
  | cons x t ih => simp only [List.cons_append, nv, ih, List.length_cons, Int.pow_succ]; grind

theorem nv_bd {l : List Int} (h : Bt l) : 0 ≤ nv l ∧ nv l < 2 ^ l.length := by
  induction l with
  | nil => simp [nv]
  | cons x t ih =>
    have h1 := ih fun y hy => h y (List.mem_cons_of_mem _ hy)
    have h2 := h x (List.mem_cons_self)
    simp only [nv, List.length_cons, Int.pow_succ]
    omega

theorem nv_zeros (n : Nat) : nv (List.replicate n 0) = 0 := by
  induction n with
  | zero => rfl
  | succ n ih => simp [List.replicate_succ, nv, ih]

theorem nv_take (l : List Int) (i : Nat) : nv (l.take (i + 1)) = nv (l.take i) + 2 ^ i * l.getD i 0 := by
  by_cases hi : i < l.length
  · rw [List.take_add_one, List.getElem?_eq_getElem hi]
    simp only [Option.toList]
    rw [nv_app]
    simp [nv, List.getD, hi, Nat.min_eq_left (Nat.le_of_lt hi)]
  · have hi' : l.length ≤ i := by omega
    rw [List.take_of_length_le hi', List.take_of_length_le (by omega)]
    simp [List.getD, hi']

theorem nv_drop (l : List Int) (i : Nat) : nv (l.drop i) = l.getD i 0 + 2 * nv (l.drop (i + 1)) := by
  by_cases hi : i < l.length
  · rw [List.drop_eq_getElem_cons hi]
    simp [nv, List.getD, hi]
  · rw [List.drop_eq_nil_of_le (by omega), List.drop_eq_nil_of_le (by omega)]
    simp [nv, List.getD, Nat.le_of_not_lt hi]

theorem nv_split (l : List Int) (i : Nat) (hi : i ≤ l.length) : nv l = nv (l.take i) + 2 ^ i * nv (l.drop i) := by
  conv => lhs; rw [← List.take_append_drop i l]
  rw [nv_app, List.length_take, Nat.min_eq_left hi]

theorem getD_len {l : List Int} {i : Nat} (h : l.length ≤ i) : l.getD i 0 = 0 := by simp [List.getD, h]

theorem leatref02_Bits_eq (N : Nat) {n : Int} (h : U64 n) {k : Nat} (hk : k ≤ 64) (hN : 70 < N) :
    ∃ l, W.leatref02_Bits N n k = some l ∧ Bt l ∧ l.length = k ∧ nv l = n % 2 ^ k := by
  obtain ⟨y, ⟨l, rfl, h1, h2, h3⟩, he⟩ := iter_done (round := W.leatref02_Bits_L3 N) (fun x => ∃ (m : Int) (i : Nat) (l : List Int), x = ((m, ((k : Int), ((i : Int), ()))), (l, ())) ∧ U64 m ∧ i ≤ k ∧ Bt l ∧ l.length = i ∧ nv l + 2 ^ i * m = n) (fun x => 65 - x.1.2.2.1.toNat)
    (fun y => ∃ l, y = ((), (l, ())) ∧ Bt l ∧ l.length = k ∧ nv l = n % 2 ^ k) (by
      rintro F x ⟨m, i, l, rfl, hm, hi, hb, hl, hv⟩
      have hp := pow_pos' i
      by_cases hlt : i < k
      · left
        have hm2 := Int.emod_nonneg m (show (2 : Int) ≠ 0 by omega)
        have hm3 := Int.emod_lt_of_pos m (show (0 : Int) < 2 by omega)
        have e1 : Int.tmod m 2 = m % 2 := tmod_nn hm.1
        have e2 : Int.tdiv m 2 = m / 2 := tdiv_nn hm.1
        have e3 := wrapI64 (x := m % 2) (by omega) (by omega)
        have e4 := wrapU64 (x := m / 2) (by omega) (by omega)
        have e5 := wrapI64 (x := (i : Int) + 1) (by omega) (by omega)
        refine ⟨((m / 2, ((k : Int), (((i + 1 : Nat) : Int), ()))), (l ++ [m % 2], ())), ⟨m / 2, i + 1, _, rfl, ⟨by omega, by omega⟩, hlt, hb.app (.one (by omega)), by simp [hl], ?_⟩, by simp; omega, ?_⟩
        · rw [nv_app, hl]; simp only [nv, Int.pow_succ]
          have : m = 2 * (m / 2) + m % 2 := by omega
          grind
        · have c1 : ((i : Int) < (k : Int)) = True := eq_true (by omega)
          have c2 : (((l.length + [m % 2].length) * 8 : Nat) ≤ 140737488355328) = True := eq_true (by simp; omega)
          simp only [W.leatref02_Bits_L3, e1, e2, e3, e4, e5, c1, c2, decide_true, cond_true]
          rfl
      · right
        obtain rfl : i = k := by omega
        refine ⟨_, ?_, by simp only [W.leatref02_Bits_L3]; rw [biff (by omega)]⟩
        refine ⟨l, rfl, hb, hl, ?_⟩
        have := nv_bd hb
        rw [hl] at this
        rw [← hv, Int.add_mul_emod_self_left, Int.emod_eq_of_lt this.1 this.2]) N ((n, ((k : Int), (0, ()))), ([], ())) ⟨n, 0, [], rfl, h, by omega, .nil, rfl, by simp [nv]⟩ (by simp; omega)
  exact ⟨l, by simp only [W.leatref02_Bits, he, Option.bind_some], h1, h2, h3⟩

theorem leatref02_Add_round (N : Nat) (F : _ → Option _) {c : Int} {i : Nat} {a b out : List Int} (hc : c = 0 ∨ c = 1) (ha : Bt a) (hb : Bt b) (hl : out.length = i) (hi : i < 100000) (hlt : i < a.length ∨ i < b.length) :
    W.leatref02_Add_L4 N F ((c, ((i : Int), ())), (a, (b, (out, ())))) = F (((c + a.getD i 0 + b.getD i 0) / 2, (((i + 1 : Nat) : Int), ())), (a, (b, (out ++ [(c + a.getD i 0 + b.getD i 0) % 2], ())))) := by
  have h1 := ha.get i
  have h2 := hb.get i
  have e5 := wrapI64 (x := (i : Int) + 1) (by omega) (by omega)
  have c0 : (0 : Int) ≤ (i : Int) := by omega
  have cl : ∀ z : Int, ((out.length + [z].length) * 8 : Nat) ≤ 140737488355328 := fun z => by simp; omega
  have k1 : i < a.length ∨ a.getD i 0 = 0 := by by_cases h : i < a.length; exact .inl h; exact .inr (getD_len (by omega))
  have k2 : i < b.length ∨ b.getD i 0 = 0 := by by_cases h : i < b.length; exact .inl h; exact .inr (getD_len (by omega))
  have d1 : ((i : Int) < (a.length : Int)) = (i < a.length) := by simp
  have d2 : ((i : Int) < (b.length : Int)) = (i < b.length) := by simp
  simp only [W.leatref02_Add_L4, Int.toNat_natCast, cl, c0, d1, d2, e5]
  generalize a.getD i 0 = p at *
  generalize b.getD i 0 = q at *
  have w0 := wrapI64 (x := c + q) (by omega) (by omega)
  have w1 := wrapI64 (x := c + p) (by omega) (by omega)
  have w2 := wrapI64 (x := c + p + q) (by omega) (by omega)
  have w3 : Int.tmod (c + p + q) 2 = (c + p + q) % 2 := tmod_nn (by omega)
  have w4 : Int.tdiv (c + p + q) 2 = (c + p + q) / 2 := tdiv_nn (by omega)
  have w5 := wrapI64 (x := (c + p + q) / 2) (by omega) (by omega)
  have v3 : Int.tmod (c + q) 2 = (c + q) % 2 := tmod_nn (by omega)
  have v4 : Int.tdiv (c + q) 2 = (c + q) / 2 := tdiv_nn (by omega)
  have v5 := wrapI64 (x := (c + q) / 2) (by omega) (by omega)
  have u3 : Int.tmod (c + p) 2 = (c + p) % 2 := tmod_nn (by omega)
  have u4 : Int.tdiv (c + p) 2 = (c + p) / 2 := tdiv_nn (by omega)
  have u5 := wrapI64 (x := (c + p) / 2) (by omega) (by omega)
  by_cases hia : i < a.length <;> by_cases hib : i < b.length
  · simp [hia, hib, w1, w2, w3, w4, w5]
  · obtain rfl : q = 0 := by omega
    simp [hia, hib, w1, u3, u4, u5]
  · obtain rfl : p = 0 := by omega
    simp [hia, hib, w0, v3, v4, v5]
  · omega

/-- A SUM. -/
theorem leatref02_Add_eq (N : Nat) {a b : List Int} (ha : Bt a) (hb : Bt b) (la : a.length ≤ 1000) (lb : b.length ≤ 1000) (hN : 2000 < N) :
    ∃ l, W.leatref02_Add N a b = some l ∧ Bt l ∧ l.length = max a.length b.length + 1 ∧ nv l = nv a + nv b := by
  obtain ⟨y, ⟨c, l, rfl, h0, h1, h2, h3⟩, he⟩ := iter_done (round := W.leatref02_Add_L4 N) (fun x => ∃ (c : Int) (i : Nat) (l : List Int), x = ((c, ((i : Int), ())), (a, (b, (l, ())))) ∧ (c = 0 ∨ c = 1) ∧ i ≤ max a.length b.length ∧ Bt l ∧ l.length = i ∧ nv l + 2 ^ i * c = nv (a.take i) + nv (b.take i)) (fun x => 1001 - x.1.2.1.toNat)
    (fun y => ∃ c l, y = ((c, ()), (l, ())) ∧ (c = 0 ∨ c = 1) ∧ Bt l ∧ l.length = max a.length b.length ∧ nv l + 2 ^ l.length * c = nv a + nv b) (by
      rintro F x ⟨c, i, l, rfl, hc, hi, hbl, hl, hv⟩
      by_cases hlt : i < a.length ∨ i < b.length
      · left
        have h1 := ha.get i
        have h2 := hb.get i
        refine ⟨_, ⟨_, i + 1, _, rfl, ?_, by omega, hbl.app (.one ?_), by simp [hl], ?_⟩, by simp; omega, leatref02_Add_round N F hc ha hb hl (by omega) hlt⟩
        · omega
        · omega
        · rw [nv_app, hl, nv_take, nv_take]
          simp only [nv, Int.pow_succ]
          have : c + a.getD i 0 + b.getD i 0 = 2 * ((c + a.getD i 0 + b.getD i 0) / 2) + (c + a.getD i 0 + b.getD i 0) % 2 := by omega
          grind
      · right
        have e : i = max a.length b.length := by omega
        refine ⟨_, ⟨c, l, rfl, hc, hbl, by omega, ?_⟩, ?_⟩
        · rw [hl, hv, List.take_of_length_le (by omega), List.take_of_length_le (by omega)]
        · have d1 : ((i : Int) < (a.length : Int)) = False := eq_false (by omega)
          have d2 : ((i : Int) < (b.length : Int)) = False := eq_false (by omega)
          simp only [W.leatref02_Add_L4, d1, d2, decide_false]
          rfl) N ((0, (0, ())), (a, (b, ([], ())))) ⟨0, 0, [], rfl, .inl rfl, by omega, .nil, rfl, by simp [nv]⟩ (by simp; omega)
  refine ⟨l ++ [c], ?_, h1.app (.one h0), by simp [h2], ?_⟩
  · have : ((l.length + [c].length) * 8 : Nat) ≤ 140737488355328 := by simp; omega
    simp only [W.leatref02_Add, he, Option.bind_some, this, decide_true, cond_true]
  · rw [nv_app]; simp only [nv]; rw [← h3]; grind

theorem leatref02_Mul_eq (N : Nat) {a b : List Int} (ha : Bt a) (hb : Bt b) (la : a.length ≤ 200) (lb : b.length ≤ 200) (hN : 2000 < N) :
    ∃ l, W.leatref02_Mul N a b = some l ∧ Bt l ∧ l.length ≤ a.length + b.length + 1 ∧ nv l = nv a * nv b := by
  obtain ⟨y, ⟨l, rfl, h1, h2, h3⟩, he⟩ := iter_done (round := W.leatref02_Mul_L3 N) (fun x => ∃ (i : Nat) (l : List Int), x = (((i : Int), ()), (a, (b, (l, ())))) ∧ i ≤ b.length ∧ Bt l ∧ l.length ≤ a.length + i + 1 ∧ nv l = nv a * nv (b.take i)) (fun x => 1001 - x.1.1.toNat)
    (fun y => ∃ l, y = ((), (l, ())) ∧ Bt l ∧ l.length ≤ a.length + b.length + 1 ∧ nv l = nv a * nv b) (by
      rintro F x ⟨i, l, rfl, hi, hbl, hl, hv⟩
      have e5 := wrapI64 (x := (i : Int) + 1) (by omega) (by omega)
      by_cases hlt : i < b.length
      · left
        have d1 : ((i : Int) < (b.length : Int)) = True := eq_true (by omega)
        have d2 : ((0 : Int) ≤ (i : Int)) = True := eq_true (by omega)
        rcases hb.get i with h0 | h0
        · refine ⟨((((i + 1 : Nat) : Int), ()), (a, (b, (l, ())))), ⟨i + 1, l, rfl, hlt, hbl, by omega, ?_⟩, by simp; omega, ?_⟩
          · rw [nv_take, h0, hv]; simp
          · simp only [W.leatref02_Mul_L3, d1, d2, decide_true, Bool.and_self, cond_true, Int.toNat_natCast, h0, e5]
            rfl
        · obtain ⟨r, r1, r2, r3, r4⟩ := leatref02_Add_eq N hbl ((Bt.zeros i).app ha) (by omega) (by simp; omega) hN
          refine ⟨((((i + 1 : Nat) : Int), ()), (a, (b, (r, ())))), ⟨i + 1, r, rfl, hlt, r2, by rw [r3]; simp; omega, ?_⟩, by simp; omega, ?_⟩
          · rw [nv_take, h0, r4, nv_app, nv_zeros, hv]; simp; grind
          · have c1 : ((i : Int) * 8 ≤ 140737488355328) = True := eq_true (by omega)
            have c2 : ((i : Int) ≤ 140737488355328) = True := eq_true (by omega)
            have c3 : ((((List.replicate i (0 : Int)).length + a.length) * 8 : Nat) ≤ 140737488355328) = True := eq_true (by simp; omega)
            simp only [W.leatref02_Mul_L3, d1, d2, decide_true, Bool.and_self, cond_true, Int.toNat_natCast, h0, e5, c1, c2, c3, r1, Option.bind_some, beq_self_eq_true]
            rfl
      · right
        obtain rfl : i = b.length := by omega
        refine ⟨_, ⟨l, rfl, hbl, by omega, ?_⟩, by simp only [W.leatref02_Mul_L3]; rw [biff (by omega)]⟩
        rw [hv, List.take_of_length_le (by omega)]) N ((0, ()), (a, (b, ([0], ())))) ⟨0, [0], rfl, by omega, .one (.inl rfl), by simp, by simp [nv]⟩ (by simp; omega)
  exact ⟨l, by simp only [W.leatref02_Mul, he, Option.bind_some], h1, h2, h3⟩

/-- The order. -/
theorem leatref02_Cmp_eq (N : Nat) {a b : List Int} (ha : Bt a) (hb : Bt b) (la : a.length ≤ 1000) (lb : b.length ≤ 1000) (hN : 2000 < N) :
    W.leatref02_Cmp N a b = some (if nv a < nv b then -1 else if nv b < nv a then 1 else 0) := by
  obtain ⟨y, hy, he⟩ := iter_done (round := W.leatref02_Cmp_L2 N) (fun x => ∃ (i : Nat), x = (((i : Int) - 1, ()), (a, (b, ()))) ∧ i ≤ max a.length b.length ∧ nv (a.drop i) = nv (b.drop i)) (fun x => (x.1.1 + 1).toNat)
    (fun y => (y = .inl (((-1), ()), ()) ∧ nv a < nv b) ∨ (y = .inl ((1, ()), ()) ∧ nv b < nv a) ∨ (y = .inr ((), ()) ∧ nv a = nv b)) (by
      rintro F x ⟨i, rfl, hi, hv⟩
      cases i with
      | zero =>
        right
        refine ⟨_, .inr (.inr ⟨rfl, by simpa using hv⟩), by simp only [W.leatref02_Cmp_L2]; rw [biff (by simp)]⟩
      | succ i =>
        have e5 := wrapI64 (x := ((i : Nat) : Int) - 1) (by omega) (by omega)
        have e6 : (((i + 1 : Nat) : Int) - 1) = (i : Int) := by omega
        have c0 : (0 : Int) ≤ (i : Int) := by omega
        have h1 := ha.get i
        have h2 := hb.get i
        have k1 : i < a.length ∨ a.getD i 0 = 0 := by by_cases h : i < a.length; exact .inl h; exact .inr (getD_len (by omega))
        have k2 : i < b.length ∨ b.getD i 0 = 0 := by by_cases h : i < b.length; exact .inl h; exact .inr (getD_len (by omega))
        have d1 : ((i : Int) < (a.length : Int)) = (i < a.length) := by simp
        have d2 : ((i : Int) < (b.length : Int)) = (i < b.length) := by simp
        have na : nv (a.drop i) = a.getD i 0 + 2 * nv (a.drop (i + 1)) := nv_drop a i
        have nb : nv (b.drop i) = b.getD i 0 + 2 * nv (b.drop (i + 1)) := nv_drop b i
        have ja : nv a = nv (a.take i) + 2 ^ i * nv (a.drop i) := by
          by_cases h : i ≤ a.length
          · exact nv_split a i h
          · rw [List.take_of_length_le (by omega), List.drop_eq_nil_of_le (by omega)]; simp [nv]
        have jb : nv b = nv (b.take i) + 2 ^ i * nv (b.drop i) := by
          by_cases h : i ≤ b.length
          · exact nv_split b i h
          · rw [List.take_of_length_le (by omega), List.drop_eq_nil_of_le (by omega)]; simp [nv]
        have ba := nv_bd (l := a.take i) (fun y hy => ha y (List.mem_of_mem_take hy))
        have bb := nv_bd (l := b.take i) (fun y hy => hb y (List.mem_of_mem_take hy))
        have pa : (2 : Int) ^ (a.take i).length ≤ 2 ^ i := by
          have := Nat.pow_le_pow_right (n := 2) (by omega) (show (a.take i).length ≤ i by rw [List.length_take]; omega)
          exact_mod_cast this
        have pb : (2 : Int) ^ (b.take i).length ≤ 2 ^ i := by
          have := Nat.pow_le_pow_right (n := 2) (by omega) (show (b.take i).length ≤ i by rw [List.length_take]; omega)
          exact_mod_cast this
        have hp := pow_pos' i
        simp only [W.leatref02_Cmp_L2, e5, e6, c0, d1, d2, Int.toNat_natCast]
        generalize a.getD i 0 = p at *
        generalize b.getD i 0 = q at *
        by_cases hpq : p = q
        · left
          refine ⟨(((i : Int) - 1, ()), (a, (b, ()))), ⟨i, rfl, by omega, by omega⟩, by simp, ?_⟩
          subst hpq
          by_cases hia : i < a.length <;> by_cases hib : i < b.length <;> simp [hia, hib]
          · obtain rfl : p = 0 := by omega
            simp
          · obtain rfl : p = 0 := by omega
            simp
        · right
          rcases h1 with rfl | rfl <;> rcases h2 with rfl | rfl
          · exact absurd rfl hpq
          · refine ⟨_, .inl ⟨rfl, ?_⟩, ?_⟩
            · rw [ja, jb, na, nb, hv]; grind
            · by_cases hia : i < a.length <;> by_cases hib : i < b.length <;> simp [hia, hib]
              all_goals omega
          · refine ⟨_, .inr (.inl ⟨rfl, ?_⟩), ?_⟩
            · rw [ja, jb, na, nb, hv]; grind
            · by_cases hia : i < a.length <;> by_cases hib : i < b.length <;> simp [hia, hib]
              all_goals omega
          · exact absurd rfl hpq) N ((((max a.length b.length : Nat) : Int) - 1, ()), (a, (b, ()))) ⟨max a.length b.length, rfl, Nat.le_refl _, by rw [List.drop_eq_nil_of_le (by omega), List.drop_eq_nil_of_le (by omega)]⟩ (by simp; omega)
  have e1 : IntKind.wrap .i64 ((if ((b.length : Nat) : Int) > ((a.length : Nat) : Int) then ((b.length : Nat) : Int) else ((a.length : Nat) : Int)) - 1) = ((max a.length b.length : Nat) : Int) - 1 := by
    rw [wrapI64 (by split <;> omega) (by split <;> omega)]; split <;> omega
  simp only [W.leatref02_Cmp, e1, he, Option.bind_some]
  rcases hy with ⟨rfl, h⟩ | ⟨rfl, h⟩ | ⟨rfl, h⟩
  · simp [h]
  · simp [h]; omega
  · simp [h]

theorem leatref02_Sub_round (N : Nat) (F : _ → Option _) {c : Int} {i : Nat} {a b out : List Int} (hc : c = 0 ∨ c = 1) (ha : Bt a) (hb : Bt b) (hl : out.length = i) (hi : i < 100000) (hlt : i < a.length) :
    W.leatref02_Sub_L4 N F ((c, ((i : Int), ())), (a, (b, (out, ())))) = F (((if a.getD i 0 - c - b.getD i 0 < 0 then 1 else 0), (((i + 1 : Nat) : Int), ())), (a, (b, (out ++ [if a.getD i 0 - c - b.getD i 0 < 0 then a.getD i 0 - c - b.getD i 0 + 2 else a.getD i 0 - c - b.getD i 0], ())))) := by
  have h1 := ha.get i
  have h2 := hb.get i
  have e5 := wrapI64 (x := (i : Int) + 1) (by omega) (by omega)
  have c0 : (0 : Int) ≤ (i : Int) := by omega
  have cl : ∀ z : Int, ((out.length + [z].length) * 8 : Nat) ≤ 140737488355328 := fun z => by simp; omega
  have k2 : i < b.length ∨ b.getD i 0 = 0 := by by_cases h : i < b.length; exact .inl h; exact .inr (getD_len (by omega))
  have d1 : ((i : Int) < (a.length : Int)) = (i < a.length) := by simp
  have d2 : ((i : Int) < (b.length : Int)) = (i < b.length) := by simp
  simp only [W.leatref02_Sub_L4, Int.toNat_natCast, cl, c0, d1, d2, e5]
  obtain ⟨p, hp⟩ : ∃ p, a.getD i 0 = p := ⟨_, rfl⟩
  obtain ⟨q, hq⟩ : ∃ q, b.getD i 0 = q := ⟨_, rfl⟩
  simp only [hp, hq] at *
  have w1 := wrapI64 (x := p - c) (by omega) (by omega)
  have w2 := wrapI64 (x := p - c - q) (by omega) (by omega)
  have w3 := wrapI64 (x := p - c + 2) (by omega) (by omega)
  have w4 := wrapI64 (x := p - c - q + 2) (by omega) (by omega)
  by_cases hib : i < b.length
  · by_cases hn : p - c - q < 0 <;> simp [hlt, hib, w1, w2, w4, hn]
  · obtain rfl : q = 0 := by omega
    by_cases hn : p - c < 0 <;> simp [hlt, hib, w1, w3, hn]

/-- A DIFFERENCE. -/
theorem leatref02_Sub_eq (N : Nat) {a b : List Int} (ha : Bt a) (hb : Bt b) (la : a.length ≤ 1000) (hab : nv b ≤ nv a) (hN : 2000 < N) :
    ∃ l, W.leatref02_Sub N a b = some l ∧ Bt l ∧ l.length = a.length ∧ nv l = nv a - nv b := by
  obtain ⟨y, ⟨c, l, rfl, h0, h1, h2, h3⟩, he⟩ := iter_done (round := W.leatref02_Sub_L4 N) (fun x => ∃ (c : Int) (i : Nat) (l : List Int), x = ((c, ((i : Int), ())), (a, (b, (l, ())))) ∧ (c = 0 ∨ c = 1) ∧ i ≤ a.length ∧ Bt l ∧ l.length = i ∧ nv l = nv (a.take i) - nv (b.take i) + 2 ^ i * c) (fun x => 1001 - x.1.2.1.toNat)
    (fun y => ∃ (c : Int) (l : List Int), y = ((), (l, ())) ∧ (c = 0 ∨ c = 1) ∧ Bt l ∧ l.length = a.length ∧ nv l = nv a - nv (b.take a.length) + 2 ^ a.length * c) (by
      rintro F x ⟨c, i, l, rfl, hc, hi, hbl, hl, hv⟩
      by_cases hlt : i < a.length
      · left
        have h1 := ha.get i
        have h2 := hb.get i
        refine ⟨_, ⟨_, i + 1, _, rfl, ?_, by omega, hbl.app (.one ?_), by simp [hl], ?_⟩, by simp; omega, leatref02_Sub_round N F hc ha hb hl (by omega) hlt⟩
        · split <;> simp
        · split <;> omega
        · rw [nv_app, hl, nv_take, nv_take, hv]
          simp only [nv, Int.pow_succ]
          split <;> grind
      · right
        obtain rfl : i = a.length := by omega
        refine ⟨_, ⟨c, l, rfl, hc, hbl, hl, ?_⟩, by simp only [W.leatref02_Sub_L4]; rw [biff (by omega)]⟩
        rw [hv, List.take_of_length_le (Nat.le_refl _)]) N ((0, (0, ())), (a, (b, ([], ())))) ⟨0, 0, [], rfl, .inl rfl, by omega, .nil, rfl, by simp [nv]⟩ (by simp; omega)
  refine ⟨l, by simp only [W.leatref02_Sub, he, Option.bind_some], h1, h2, ?_⟩
  have b1 := nv_bd h1
  have b2 := nv_bd ha
  have b3 := nv_bd (l := b.take a.length) (fun y hy => hb y (List.mem_of_mem_take hy))
  have b4 := nv_bd (l := b.drop a.length) (fun y hy => hb y (List.mem_of_mem_drop hy))
  rw [h2] at b1
  have hp := pow_pos' a.length
  have e : nv b = nv (b.take a.length) := by
    by_cases h : a.length ≤ b.length
    · have j := nv_split b a.length h
      by_cases hz : nv (b.drop a.length) = 0
      · rw [hz] at j; omega
      · have := Int.mul_le_mul_of_nonneg_left (show 1 ≤ nv (b.drop a.length) by omega) (show 0 ≤ (2 : Int) ^ a.length by omega)
        omega
    · rw [List.take_of_length_le (by omega)]
  rw [← e] at h3
  rcases h0 with rfl | rfl
  · omega
  · omega

/-- A QUOTIENT, and what is left. -/
theorem leatref02_Div_eq (N : Nat) {a d : List Int} (ha : Bt a) (hd : Bt d) (la : a.length ≤ 400) (ld : d.length ≤ 400) (h0 : 0 < nv d) (hN : 2000 < N) :
    ∃ q r, W.leatref02_Div N a d = some (q, r) ∧ Bt q ∧ Bt r ∧ q.length = a.length ∧ r.length = a.length + 1 ∧ nv q = nv a / nv d ∧ nv r = nv a % nv d := by
  obtain ⟨y, ⟨q, r, rfl, hq, hr, lq, lr, h1, h2⟩, he⟩ := iter_done (round := W.leatref02_Div_L4 N) (fun x => ∃ (i : Nat) (q r : List Int), x = (((i : Int) - 1, ()), (a, (d, (q, (r, ()))))) ∧ i ≤ a.length ∧ Bt q ∧ Bt r ∧ q.length = a.length ∧ r.length + i = a.length + 1 ∧ nv (a.drop i) = nv (q.drop i) * nv d + nv r ∧ nv r < nv d ∧ nv (q.take i) = 0) (fun x => (x.1.1 + 1).toNat)
    (fun y => ∃ q r, y = ((), (q, (r, ()))) ∧ Bt q ∧ Bt r ∧ q.length = a.length ∧ r.length = a.length + 1 ∧ nv a = nv q * nv d + nv r ∧ nv r < nv d) (by
      rintro F x ⟨i, q, r, rfl, hi, hq, hr, lq, lr, hv, hlt, hz⟩
      cases i with
      | zero =>
        right
        refine ⟨_, ⟨q, r, rfl, hq, hr, lq, by omega, by simpa using hv, hlt⟩, by simp only [W.leatref02_Div_L4]; rw [biff (by simp)]⟩
      | succ i =>
        left
        have e5 := wrapI64 (x := ((i : Nat) : Int) - 1) (by omega) (by omega)
        have e6 : (((i + 1 : Nat) : Int) - 1) = (i : Int) := by omega
        have c0 : ((0 : Int) ≤ (i : Int)) = True := eq_true (by omega)
        have d1 : ((i : Int) < (a.length : Int)) = True := eq_true (by omega)
        have d2 : ((i : Int) < (q.length : Int)) = True := eq_true (by omega)
        have na : nv (a.drop i) = a.getD i 0 + 2 * nv (a.drop (i + 1)) := nv_drop a i
        have nr : nv ([a.getD i 0] ++ r) = a.getD i 0 + 2 * nv r := rfl
        have hb : Bt ([a.getD i 0] ++ r) := (Bt.one (ha.get i)).app hr
        have lb : ([a.getD i 0] ++ r).length = r.length + 1 := by simp
        have c1 : ((([a.getD i 0].length + r.length) * 8 : Nat) ≤ 140737488355328) = True := eq_true (by simp; omega)
        have hq0 : q.getD i 0 = 0 := by
          have j := nv_take q i
          have b1 := nv_bd (l := q.take i) (fun y hy => hq y (List.mem_of_mem_take hy))
          have hp := pow_pos' i
          rcases hq.get i with h | h
          · exact h
          · rw [h] at j; omega
        have hqt : nv (q.take i) = 0 := by have j := nv_take q i; rw [hq0] at j; omega
        have hqd : nv (q.drop i) = 2 * nv (q.drop (i + 1)) := by rw [nv_drop, hq0]; omega
        have hcmp := leatref02_Cmp_eq N hb hd (by omega) (by omega) hN
        rw [nr] at hcmp
        have hbit := ha.get i
        by_cases hge : nv d ≤ a.getD i 0 + 2 * nv r
        · obtain ⟨s, s1, s2, s3, s4⟩ := leatref02_Sub_eq N hb hd (by omega) (by rw [nr]; exact hge) hN
          rw [nr] at s4
          refine ⟨(((i : Int) - 1, ()), (a, (d, (q.set i 1, (s, ()))))), ⟨i, _, s, rfl, by omega, hq.set i (.inr rfl), s2, by simp [lq], by rw [s3, lb]; omega, ?_, by omega, ?_⟩, by simp, ?_⟩
          · have : nv ((q.set i 1).drop i) = 1 + 2 * nv (q.drop (i + 1)) := by
              rw [nv_drop]
              have e1 : (q.set i 1).getD i 0 = 1 := by simp [List.getD, show i < q.length by omega]
              rw [e1, List.drop_set_of_lt (by omega)]
            rw [this, na, hv, s4]; grind
          · rw [List.take_set_of_le (Nat.le_refl i)]; exact hqt
          · have hc : ((0 : Int) ≤ (if a.getD i 0 + 2 * nv r < nv d then -1 else if nv d < a.getD i 0 + 2 * nv r then 1 else 0)) = True := eq_true (by split <;> (try split) <;> omega)
            simp only [W.leatref02_Div_L4, e5, e6, c0, d1, d2, c1, Int.toNat_natCast, hcmp, s1, Option.bind_some, decide_true, Bool.and_self, cond_true, hc]
        · refine ⟨(((i : Int) - 1, ()), (a, (d, (q, ([a.getD i 0] ++ r, ()))))), ⟨i, _, _, rfl, by omega, hq, hb, lq, by rw [lb]; omega, ?_, by rw [nr]; omega, hqt⟩, by simp, ?_⟩
          · rw [hqd, na, hv, nr]; grind
          · have hc : ((0 : Int) ≤ (if a.getD i 0 + 2 * nv r < nv d then -1 else if nv d < a.getD i 0 + 2 * nv r then 1 else 0)) = False := eq_false (by split <;> (try split) <;> omega)
            simp only [W.leatref02_Div_L4, e5, e6, c0, d1, c1, Int.toNat_natCast, hcmp, Option.bind_some, decide_true, decide_false, Bool.and_self, cond_true, cond_false, hc]) N ((((a.length : Nat) : Int) - 1, ()), (a, (d, (List.replicate a.length 0, ([0], ())))))
      ⟨a.length, _, _, rfl, Nat.le_refl _, Bt.zeros _, .one (.inl rfl), by simp, by simp; omega, by rw [List.drop_eq_nil_of_le (Nat.le_refl _), List.drop_eq_nil_of_le (by simp)]; simp [nv], by simpa [nv] using h0, by rw [List.take_of_length_le (by simp), nv_zeros]⟩ (by simp; omega)
  refine ⟨q, r, ?_, hq, hr, lq, lr, ?_, ?_⟩
  · have e1 := wrapI64 (x := ((a.length : Nat) : Int) - 1) (by omega) (by omega)
    have c1 : ((0 : Int) ≤ ((a.length : Nat) : Int)) = True := eq_true (by omega)
    have c2 : (((a.length : Nat) : Int) * 8 ≤ 140737488355328) = True := eq_true (by omega)
    have c3 : (((a.length : Nat) : Int) ≤ 140737488355328) = True := eq_true (by omega)
    simp only [W.leatref02_Div, e1, c1, c2, c3, Int.toNat_natCast, he, Option.bind_some, decide_true, Bool.and_self, cond_true]
  · have b := nv_bd hr
    rw [h1, Int.add_comm, Int.add_mul_ediv_right _ _ (by omega), Int.ediv_eq_zero_of_lt b.1 h2]; omega
  · have b := nv_bd hr
    rw [h1, Int.add_comm, Int.add_mul_emod_self_right, Int.emod_eq_of_lt b.1 h2]

theorem nv_dt (l : List Int) (k j : Nat) : nv ((l.drop k).take (j + 1)) = l.getD k 0 + 2 * nv ((l.drop (k + 1)).take j) := by
  by_cases hi : k < l.length
  · have : l.getD k 0 = l[k] := by simp [List.getD, hi]
    rw [List.drop_eq_getElem_cons hi, List.take_succ_cons, this]
    rfl
  · rw [List.drop_eq_nil_of_le (by omega), List.drop_eq_nil_of_le (by omega)]
    simp [nv, List.getD, Nat.le_of_not_lt hi]

theorem nv_low {l : List Int} (h : Bt l) {k : Nat} (hv : nv l < 2 ^ k) : nv (l.take k) = nv l := by
  by_cases hk : k ≤ l.length
  · have j := nv_split l k hk
    have x1 := nv_bd (l := l.take k) (fun y hy => h y (List.mem_of_mem_take hy))
    have x2 := nv_bd (l := l.drop k) (fun y hy => h y (List.mem_of_mem_drop hy))
    have hp := pow_pos' k
    by_cases hz : nv (l.drop k) = 0
    · rw [hz] at j; omega
    · have := Int.mul_le_mul_of_nonneg_left (show 1 ≤ nv (l.drop k) by omega) (show 0 ≤ (2 : Int) ^ k by omega)
      omega
  · rw [List.take_of_length_le (by omega)]

theorem leatref02_Num_eq (N : Nat) {l : List Int} (hl : Bt l) {m : Nat} (hm : m ≤ 1000) (hN : 2000 < N) : W.leatref02_Num N l m = some (nv ((l.drop m).take 64)) := by
  have he := iter_some (round := W.leatref02_Num_L3 N) (fun x => ∃ (i : Nat), x = (((m : Int), (nv ((l.drop (m + i)).take (64 - i)), ((i : Int) - 1, ()))), (l, ())) ∧ i ≤ 64) (fun x => (x.1.2.2.1 + 1).toNat) ((nv ((l.drop m).take 64), ()), ()) (by
      rintro F x ⟨i, rfl, hi⟩
      cases i with
      | zero => right; simp only [W.leatref02_Num_L3]; rw [biff (by simp)]; rfl
      | succ i =>
        left
        refine ⟨(((m : Int), (nv ((l.drop (m + i)).take (64 - i)), ((i : Int) - 1, ()))), (l, ())), ⟨i, rfl, by omega⟩, by simp, ?_⟩
        have bd := nv_bd (l := (l.drop (m + i)).take (64 - i)) (fun y hy => hl y (List.mem_of_mem_drop (List.mem_of_mem_take hy)))
        have pw : (2 : Int) ^ ((l.drop (m + i)).take (64 - i)).length ≤ 2 ^ 64 := by
          have := Nat.pow_le_pow_right (n := 2) (by omega) (show ((l.drop (m + i)).take (64 - i)).length ≤ 64 by rw [List.length_take]; omega)
          exact_mod_cast this
        have bd' := nv_bd (l := (l.drop (m + (i + 1))).take (64 - (i + 1))) (fun y hy => hl y (List.mem_of_mem_drop (List.mem_of_mem_take hy)))
        have j : nv ((l.drop (m + i)).take (64 - i)) = l.getD (m + i) 0 + 2 * nv ((l.drop (m + (i + 1))).take (64 - (i + 1))) := by
          rw [show 64 - i = (64 - (i + 1)) + 1 by omega]; exact nv_dt l (m + i) _
        generalize nv ((l.drop (m + (i + 1))).take (64 - (i + 1))) = u at *
        generalize nv ((l.drop (m + i)).take (64 - i)) = v at *
        have hb := hl.get (m + i)
        have e6 : (((i + 1 : Nat) : Int) - 1) = (i : Int) := by omega
        have e5 := wrapI64 (x := (i : Int) - 1) (by omega) (by omega)
        have e7 := wrapI64 (x := (m : Int) + (i : Int)) (by omega) (by omega)
        have e8 := wrapU64 (x := u * 2) (by omega) (by omega)
        have c0 : ((0 : Int) ≤ (i : Int)) = True := eq_true (by omega)
        have c1 : ((0 : Int) ≤ (m : Int) + (i : Int)) = True := eq_true (by omega)
        have e9 : ((m : Int) + (i : Int)).toNat = m + i := by omega
        have k1 : m + i < l.length ∨ l.getD (m + i) 0 = 0 := by by_cases h : m + i < l.length; exact .inl h; exact .inr (getD_len (by omega))
        have d1 : ((m : Int) + (i : Int) < (l.length : Int)) = (m + i < l.length) := by simp; omega
        simp only [W.leatref02_Num_L3, e5, e6, e7, e8, e9, c0, c1, d1]
        by_cases hlen : m + i < l.length
        · rcases hb with h | h
          · rw [h] at j
            rw [h, show u * 2 = v by omega]
            simp [hlen]
          · rw [h] at j
            have e10 := wrapU64 (x := u * 2 + 1) (by omega) (by omega)
            rw [h, e10, show u * 2 + 1 = v by omega]
            simp [hlen]
        · have h : l.getD (m + i) 0 = 0 := getD_len (by omega)
          rw [h] at j
          rw [show u * 2 = v by omega]
          simp [hlen]) N (((m : Int), (0, (63, ()))), (l, ())) ⟨64, by simp [nv], by omega⟩ (by simp; omega)
  simp only [W.leatref02_Num, he, Option.bind_some]

/-- A PRODUCT BY A NUMBER, of the document's answer. -/
def mdv (a b c : Int) (up : Bool) : Int × Int :=
  if a < 0 ∨ b < 0 ∨ c ≤ 0 then (0, 1)
  else
    let q := if up ∧ a * b % c ≠ 0 then a * b / c + 1 else a * b / c
    if 9223372036854775807 < q then (0, 8) else (q, 0)

theorem leatref02_MulDiv_eq (N : Nat) {a b c : Int} (ha : I64 a) (hb : I64 b) (hc : I64 c) (up : Bool) (hN : 2000 < N) : W.leatref02_MulDiv N a b c up = some (mdv a b c up) := by
  simp only [W.leatref02_MulDiv, mdv]
  by_cases h1 : a < 0
  · simp [h1]
  by_cases h2 : b < 0
  · simp [h1, h2]
  by_cases h3 : c ≤ 0
  · simp [h1, h2, h3]
  simp only [h1, h2, h3, decide_false, beq_self_eq_true, cond_true, cond_false, or_self, if_false]
  rw [wrapU64 (x := a) (by omega) (by omega), wrapU64 (x := b) (by omega) (by omega), wrapU64 (x := c) (by omega) (by omega)]
  obtain ⟨la, a1, a2, a3, a4⟩ := leatref02_Bits_eq N (n := a) ⟨by omega, by omega⟩ (k := 64) (by omega) (by omega)
  obtain ⟨lb, b1, b2, b3, b4⟩ := leatref02_Bits_eq N (n := b) ⟨by omega, by omega⟩ (k := 64) (by omega) (by omega)
  obtain ⟨lc, c1, c2, c3, c4⟩ := leatref02_Bits_eq N (n := c) ⟨by omega, by omega⟩ (k := 64) (by omega) (by omega)
  obtain ⟨lm, m1, m2, m3, m4⟩ := leatref02_Bits_eq N (n := 9223372036854775807) ⟨by omega, by omega⟩ (k := 64) (by omega) (by omega)
  have ea : nv la = a := by rw [a4]; exact Int.emod_eq_of_lt (by omega) (by omega)
  have eb : nv lb = b := by rw [b4]; exact Int.emod_eq_of_lt (by omega) (by omega)
  have ec : nv lc = c := by rw [c4]; exact Int.emod_eq_of_lt (by omega) (by omega)
  have em : nv lm = 9223372036854775807 := by rw [m4]; rfl
  obtain ⟨p, p1, p2, p3, p4⟩ := leatref02_Mul_eq N a2 b2 (by omega) (by omega) hN
  obtain ⟨q, r, q1, q2, q3, q4, q5, q6, q7⟩ := leatref02_Div_eq N p2 c2 (by omega) (by omega) (by omega) hN
  rw [p4, ea, eb, ec] at q6 q7
  have hq0 : 0 ≤ a * b / c := Int.ediv_nonneg (Int.mul_nonneg (by omega) (by omega)) (by omega)
  have hr0 : 0 ≤ a * b % c := Int.emod_nonneg _ (by omega)
  have fin : ∀ l : List Int, Bt l → l.length ≤ 300 → nv l ≤ 9223372036854775807 → W.leatref02_Num N l 0 = some (nv l) := by
    intro l h1 h2 h3
    have := leatref02_Num_eq N h1 (m := 0) (by omega) hN
    rw [List.drop_zero, nv_low h1 (by omega)] at this
    exact this
  have cmp : ∀ l : List Int, Bt l → l.length ≤ 300 → W.leatref02_Cmp N l lm = some (if nv l < 9223372036854775807 then -1 else if 9223372036854775807 < nv l then 1 else 0) := by
    intro l h1 h2
    rw [leatref02_Cmp_eq N h1 m2 (by omega) (by omega) hN, em]
  have tail : ∀ l : List Int, Bt l → l.length ≤ 300 → ((W.leatref02_Cmp N l lm).bind fun r => bif (decide ((0 : Int) < r)) then some ((0 : Int), (8 : Int)) else (W.leatref02_Num N l 0).bind fun r => some ((IntKind.wrap .i64 r), 0)) = some (if 9223372036854775807 < nv l then (0, 8) else (nv l, 0)) := by
    intro l h1 h2
    have b := nv_bd h1
    rw [cmp l h1 h2, Option.bind_some]
    by_cases h : 9223372036854775807 < nv l
    · rw [if_neg (by omega), if_pos h, if_pos h]; rfl
    · rw [if_neg h, biff (by split <;> omega), fin l h1 h2 (by omega), Option.bind_some, wrapI64 (by omega) (by omega), if_neg h]
  have a1' : W.leatref02_Bits N a 64 = some la := a1
  have b1' : W.leatref02_Bits N b 64 = some lb := b1
  have c1' : W.leatref02_Bits N c 64 = some lc := c1
  have m1' : W.leatref02_Bits N 9223372036854775807 64 = some lm := m1
  simp only [a1', b1', c1', p1, q1, m1', Option.bind_some]
  cases up with
  | false =>
    simp only [Bool.false_eq_true, ne_eq, false_and, if_false, show (false == true) = false from rfl, cond_false]
    rw [tail q q2 (by omega), q6]
  | true =>
    have hz := leatref02_Cmp_eq N q3 (Bt.one (x := 0) (.inl rfl)) (by omega) (by simp) hN
    simp only [nv, q7, Int.mul_zero, Int.add_zero] at hz
    simp only [show (true == true) = true from rfl, cond_true, hz, Option.bind_some, true_and]
    by_cases hr : a * b % c = 0
    · rw [hr]
      simp only [Int.lt_irrefl, if_false, decide_false, cond_false, ne_eq, not_true_eq_false]
      rw [tail q q2 (by omega), q6]
    · rw [if_neg (by omega), if_pos (by omega), if_pos hr]
      obtain ⟨s, s1, s2, s3, s4⟩ := leatref02_Add_eq N q2 (Bt.one (x := 1) (.inr rfl)) (by omega) (by simp) hN
      simp only [nv, Int.mul_zero, Int.add_zero, q6] at s4
      simp only [s1, Option.bind_some, show decide ((0 : Int) < 1) = true from rfl, cond_true]
      rw [tail s s2 (by rw [s3]; simp; omega), s4]

end Go.Proofs.YtdoiofdepmiejaaDoor.Pure
