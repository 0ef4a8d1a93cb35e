/- Packets pass a hop: both texts, whole. -/
import Derived.Test.YtgjmfljogaanfaaGreatPPlu
namespace Go.Proofs.YtgjmfljogaanfaaGreat.Pure
open Go.Ev Go.RowKit

def putW (D : List Int) (h : H10) (w : Wd) (p : Pk) : Wd :=
  { s := (put (upto D h (key p) w).s (key p) p).1, free := max (upto D h (key p) w).free (key p), next := (upto D h (key p) w).next, out := (upto D h (key p) w).out,
    lost := bif (put (upto D h (key p) w).s (key p) p).2 then (upto D h (key p) w).lost else (upto D h (key p) w).lost ++ [p] }

theorem put_cnt (s : St) (now : Int) (p : Pk) : (put s now p).1.q1.length + (put s now p).1.q2.length = s.q1.length + s.q2.length + (bif (put s now p).2 then 1 else 0) ∧ (put s now p).1.l = s.l := by
  unfold put
  split
  · split
    · simp
    · simp; omega
  · split
    · simp
    · simp; omega

theorem upto_PI {D : List Int} {h : H10} {t : Int} {n : Nat} {w : Wd} (hn : n ≤ 100) (ht : t ≤ 268435456) (I : PI n h w) : PI n h (upto D h t w) := runF_PI hn ht _ w I

theorem putW_PI {D : List Int} {h : H10} {n : Nat} {w : Wd} {p : Pk} (hn : n ≤ 99) (hp : 0 ≤ key p ∧ key p ≤ 67108864) (I : PI n h w) : PI (n + 1) h (putW D h w p) := by
  have J := upto_PI (D := D) (t := key p) (by omega) (by omega) I
  have hc := (put_cnt (upto D h (key p) w).s (key p) p).1
  have f0 := J.f0; have f1 := J.f1; have hcnt := J.cnt
  refine ⟨Good_put _ _ J.g hn, by simp only [putW]; omega, by simp only [putW]; omega, J.x0, J.x1, ?_, J.hh⟩
  simp only [wt] at hcnt
  cases hb : (put (upto D h (key p) w).s (key p) p).2 with
  | true =>
    rw [hb] at hc
    simp only [cond_true] at hc
    simp only [putW, wt, hb, cond_true]; omega
  | false =>
    rw [hb] at hc
    simp only [cond_false] at hc
    simp only [putW, wt, hb, cond_false, List.length_append, List.length_singleton]; omega

theorem place_put (N : Nat) (hN : vast < N) {D : List Int} (hD : DOK D) {n : Nat} (hn : n ≤ 99) {h : H10} {w : Wd} {v : Hid} (b : Int) {p : Pk} (hp : 0 ≤ key p ∧ key p ≤ 67108864) (I : PI n h w) (R : Rep D w.s v) :
    ∃ b' v', W.chain_place_put N ((p, ()), pS h b w v D) = some ((), pS h b' (putW D h w p) v' D) ∧ Rep D (putW D h w p).s v' := by
  obtain ⟨b1, v1, e1, R1, J⟩ := place_upto N hN hD (by omega) (key p) (by omega) b I R
  have hN' := hN
  simp only [vast] at hN'
  obtain ⟨v2, e2, R2⟩ := dual_Put N (key p) p R1 J.g (by omega) (by omega)
  have hcnt := J.cnt
  have L1 : ((upto D h (key p) w).lost.length + 1) * 40 ≤ 140737488355328 := by omega
  refine ⟨b1, v2, ?_, R2⟩
  cases hb : (put (upto D h (key p) w).s (key p) p).2 with
  | true =>
    rw [hb] at e2
    simp only [W.chain_place_put, e1, Option.bind_some, e2, Bool.not_true, cond_false, imx_eq, putW, hb, cond_true]
  | false =>
    rw [hb] at e2
    simp only [W.chain_place_put, e1, Option.bind_some, e2, Bool.not_false, cond_true, L1, decide_true, imx_eq, putW, hb, cond_false]

/-- Packets that come, one behind the other. -/
def passW (D : List Int) (h : H10) (l : List Pk) (w : Wd) : Wd := l.foldl (putW D h) w

theorem passW_snoc (D : List Int) (h : H10) (l : List Pk) (p : Pk) (w : Wd) : passW D h (l ++ [p]) w = putW D h (passW D h l w) p := by simp [passW]

def w0 (h : H10) : Wd := { s := st0 h.2.2, free := 0, next := h.2.2.2.2.1, out := [], lost := [] }

theorem PI0 {h : H10} (hh : HOK h) : PI 0 h (w0 h) := by
  have he := hh.e
  exact ⟨Good0 _, Int.le_refl _, by simp [w0], by simp only [w0]; omega, by simp only [w0]; omega, rfl, hh⟩

abbrev InOK (l : List Pk) : Prop := ∀ p, p ∈ l → 0 ≤ key p ∧ key p ≤ 67108864

theorem take_next {l : List Pk} {i : Nat} (h : i < l.length) : l.take (i + 1) = l.take i ++ [l.getD i pk0] := by
  rw [List.take_succ_eq_append_getElem h]
  simp [List.getD_eq_getElem?_getD, h]

theorem getD_mem {l : List Pk} {i : Nat} (h : i < l.length) : l.getD i pk0 ∈ l := by
  simp [List.getD_eq_getElem?_getD, h]

abbrev cL3 (l : List Pk) (i : Int) (h : H10) (b : Int) (w : Wd) (v : Hid) (D : List Int) : (Int × Int × Unit) × (H10 × (Int × Int × Int) × Int × Unit) × List Pk × (L8 × T9 × T9 × T9 × (Int × Int) × Int × Unit) × List Pk × List Pk × (Int × Int × Int × Unit) × (Int × Int × Int × Unit) × (Int × Unit) × List Pk × List Pk × Unit × (Int × Unit) × List Int × Unit :=
  (((l.length : Int), (i, ())), ((h, ((h.1, (w.free, b)), (w.next, ()))), (l, (cA w.s, (w.out, (w.lost, ((v.f1, (v.m1, (65536, ()))), ((v.f2, (v.m2, (65536, ()))), ((w.s.used, ()), (v.r1, (v.r2, ((), ((v.dat, ()), (D, ()))))))))))))))

abbrev cL3e (h : H10) (b : Int) (w : Wd) (v : Hid) (D : List Int) : Unit × (H10 × (Int × Int × Int) × Int × Unit) × (L8 × T9 × T9 × T9 × (Int × Int) × Int × Unit) × List Pk × List Pk × (Int × Int × Int × Unit) × (Int × Int × Int × Unit) × (Int × Unit) × List Pk × List Pk × Unit × (Int × Unit) × List Int × Unit :=
  ((), ((h, ((h.1, (w.free, b)), (w.next, ()))), (cA w.s, (w.out, (w.lost, ((v.f1, (v.m1, (65536, ()))), ((v.f2, (v.m2, (65536, ()))), ((w.s.used, ()), (v.r1, (v.r2, ((), ((v.dat, ()), (D, ())))))))))))))

theorem pass_loop (N : Nat) (hN : vast < N) {D : List Int} (hD : DOK D) {h : H10} (hh : HOK h) (l : List Pk) (hl : l.length ≤ 99) (hi : InOK l) (v0 : Hid) (b0 : Int) (R0 : Rep D (w0 h).s v0) :
    ∃ z, (∃ b v, z = cL3e h b (passW D h l (w0 h)) v D ∧ Rep D (passW D h l (w0 h)).s v ∧ PI l.length h (passW D h l (w0 h))) ∧ iter (W.chain_Pass_L3 N) N (cL3 l 0 h b0 (w0 h) v0 D) = some z := by
  refine iter_done (fun x => ∃ (i : Nat) (b : Int) (v : Hid), i ≤ l.length ∧ x = cL3 l (i : Int) h b (passW D h (l.take i) (w0 h)) v D ∧ Rep D (passW D h (l.take i) (w0 h)).s v ∧ PI i h (passW D h (l.take i) (w0 h))) (fun x => l.length - x.1.2.1.toNat) _ ?_ N _ ⟨0, b0, v0, by omega, rfl, R0, PI0 hh⟩ (by simp only [vast] at hN; simp only [Int.toNat_zero]; omega)
  rintro F _ ⟨i, b, v, hil, rfl, R, I⟩
  by_cases hc : i < l.length
  · left
    have c0 : (i : Int) < (l.length : Int) := by omega
    have hp := hi _ (getD_mem hc)
    obtain ⟨b', v', e, R'⟩ := place_put N hN hD (by omega) b hp I R
    have e1 : IntKind.wrap .i64 ((i : Int) + 1) = ((i + 1 : Nat) : Int) := wN (by omega) (by omega)
    have en : passW D h (l.take (i + 1)) (w0 h) = putW D h (passW D h (l.take i) (w0 h)) (l.getD i pk0) := by rw [take_next hc, passW_snoc]
    refine ⟨cL3 l ((i + 1 : Nat) : Int) h b' (passW D h (l.take (i + 1)) (w0 h)) v' D, ⟨i + 1, b', v', by omega, rfl, by rw [en]; exact R', by rw [en]; exact putW_PI (by omega) hp I⟩, by simp only [Int.toNat_natCast]; omega, ?_⟩
    rw [en]
    simp only [W.chain_Pass_L3, c0, Int.natCast_nonneg, decide_true, Bool.and_true, cond_true, Int.toNat_natCast, e, Option.bind_some, e1]
  · right
    have c0 : ¬ (i : Int) < (l.length : Int) := by omega
    have ht : l.take i = l := List.take_of_length_le (by omega)
    have hin : i = l.length := by omega
    rw [ht] at R I
    refine ⟨_, ⟨b, v, rfl, R, hin ▸ I⟩, ?_⟩
    rw [ht]
    simp only [W.chain_Pass_L3, c0, decide_false, cond_false]

theorem mem_isort {q : Pk} {l : List Pk} (h : q ∈ isort l) : q ∈ l := by
  have : ∀ (l s : List Pk), q ∈ l.foldl (fun s p => ins p s) s → q ∈ s ∨ q ∈ l := by
    intro l
    induction l with
    | nil => intro s h; exact .inl h
    | cons p l ih =>
      intro s h
      rcases ih _ h with h | h
      · rcases mem_ins h with rfl | h
        · exact .inr (by simp)
        · exact .inl h
      · exact .inr (by simp [h])
  rcases this l [] h with h | h
  · simp at h
  · exact h

theorem coming_in (xs : List Pk) : InOK (isort (xs.map cleanP)) := by
  intro p hp
  have := mem_isort hp
  simp only [List.mem_map] at this
  obtain ⟨q, _, rfl⟩ := this
  simp only [key, cleanP]
  exact cl_in (by omega)

theorem chain_Limit_eq (N : Nat) (h : H10) (D : List Int) : W.chain_Limit N (((h, ()), ()), (D, ())) = some (((limH h, ()), ()), (D, ())) := by
  simp only [W.chain_Limit, sat_Clamp_eq, dual_Limit_eq, Option.bind_some, imx_eq, limH]

theorem leatref50_keep_eq (N : Nat) (a lo hi : Int) (h : lo ≤ hi) : W.leatref50_keep N a lo hi = some (cl a lo hi) := by
  simp only [W.leatref50_keep, imn_eq, imx_eq, cl, Option.some.injEq]; omega

theorem ref50_Limit_eq (N : Nat) (h : H10) (D : List Int) : W.leatref50_Limit N (((h, ()), ()), (D, ())) = some (((limH h, ()), ()), (D, ())) := by
  simp only [W.leatref50_Limit, leatref50_keep_eq N _ 100000 1099511627776 (by omega), leatref50_keep_eq N _ 0 16777216 (by omega), ref_Limit_eq, Option.bind_some, limH]
  by_cases hc : (lim h.2.2).2.2.1 < 1000
  · have : max (lim h.2.2).2.2.1 1000 = 1000 := by omega
    simp only [hc, decide_true, cond_true, this]
  · have : max (lim h.2.2).2.2.1 1000 = (lim h.2.2).2.2.1 := by omega
    simp only [hc, decide_false, cond_false, this]

/-- What passes a hop, and what is lost there. -/
def passH (D : List Int) (h : H10) (xs : List Pk) : Wd := rest D (limH h) (passW D (limH h) (isort (xs.map cleanP)) (w0 (limH h)))

theorem Pass_eq (N : Nat) (hN : vast < N) {D : List Int} (hD : DOK D) (h : H10) (xs : List Pk) (hl : xs.length ≤ 99) :
    W.chain_Pass N (((h, ()), ()), (D, (xs, ()))) = some ((), ((passH D h xs).out, ((passH D h xs).lost, ()))) := by
  have hll : (isort (xs.map cleanP)).length ≤ 99 := by rw [isort_length]; simpa using hl
  obtain ⟨z, ⟨b, v, rfl, R, I⟩, e⟩ := pass_loop N hN hD (limH_ok h) (isort (xs.map cleanP)) hll (coming_in xs) hid0 0 (Rep0 D (limH h).2.2)
  obtain ⟨b', v', e2⟩ := place_rest N hN hD (by omega) b I R
  have hN' := hN
  simp only [vast] at hN'
  have ec := coming_eq N (by simp only [big]; omega) xs (by simp only [big]; omega)
  have em : W.chain_made N (((h, ()), ()), (D, ())) = some ((), pS (limH h) 0 (w0 (limH h)) hid0 D) := by
    simp only [W.chain_made, chain_Limit_eq, Option.bind_some, dual_New_eq N _ hD, w0]
  simp only [W.chain_Pass, em, ec, Option.bind_some, e, e2, passH]

abbrev r5 (l : List Pk) (i : Int) (h : H10) (w : Wd) (E D : List Int) : (Int × Unit) × (H10 × L8 × T9 × T9 × T9 × (Int × Int) × Int × Int × Int × Int × Unit) × List Pk × List Int × List Pk × List Pk × List Int × List Pk × List Pk × Unit :=
  ((i, ()), (rWa h w, (l, rWb E w D)))

end Go.Proofs.YtgjmfljogaanfaaGreat.Pure
