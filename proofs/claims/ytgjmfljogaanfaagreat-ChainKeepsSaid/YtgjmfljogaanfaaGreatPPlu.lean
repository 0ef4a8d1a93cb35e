/- A hop: all that happens up to a time, and until nothing waits. -/
import Derived.Test.YtgjmfljogaanfaaGreatPPlc
namespace Go.Proofs.YtgjmfljogaanfaaGreat.Pure
open Go.Ev Go.RowKit

abbrev vast : Nat := 100000000000

def runF (D : List Int) (h : H10) (t : Int) : Nat → Wd → Wd
  | 0, w => w
  | n + 1, w => match one D h t w with
    | some w' => runF D h t n w'
    | none => w

def mu (t : Int) (w : Wd) : Nat := wt w + (t + 1 - w.next).toNat

theorem one_less {D : List Int} {h : H10} {t : Int} {n : Nat} {w w' : Wd} (hn : n ≤ 100) (I : PI n h w) (ht : t ≤ 268435456) (e : one D h t w = some w') : PI n h w' ∧ mu t w' < mu t w := by
  unfold one at e
  split at e
  · rename_i hc
    obtain rfl := Option.some.inj e
    obtain ⟨q1, q2, q3, _⟩ := PI_tk (D := D) I hn hc.1
    exact ⟨q1, by simp only [mu, q3]; omega⟩
  · split at e <;> first | cases e; done | skip
    rename_i hx
    obtain rfl := Option.some.inj e
    have he := I.hh.e
    refine ⟨PI_stp I (by omega), ?_⟩
    simp only [mu, stp, wt, upd]
    omega

theorem runF_stable {D : List Int} {h : H10} {t : Int} {n : Nat} (hn : n ≤ 100) (ht : t ≤ 268435456) : ∀ (M M' : Nat) (w : Wd), PI n h w → mu t w < M → M ≤ M' → runF D h t M' w = runF D h t M w
  | 0, _, _, _, hm, _ => absurd hm (Nat.not_lt_zero _)
  | M + 1, 0, _, _, _, h2 => by omega
  | M + 1, M' + 1, w, I, hm, h2 => by
    simp only [runF]
    cases e : one D h t w with
    | none => rfl
    | some w' =>
      obtain ⟨q1, q2⟩ := one_less hn I ht e
      exact runF_stable hn ht M M' w' q1 (by omega) (by omega)

theorem runF_PI {D : List Int} {h : H10} {t : Int} {n : Nat} (hn : n ≤ 100) (ht : t ≤ 268435456) : ∀ (M : Nat) (w : Wd), PI n h w → PI n h (runF D h t M w)
  | 0, _, I => I
  | M + 1, w, I => by
    simp only [runF]
    cases e : one D h t w with
    | none => exact I
    | some w' => exact runF_PI hn ht M w' (one_less hn I ht e).1

/-- All that happens up to a time. -/
def upto (D : List Int) (h : H10) (t : Int) (w : Wd) : Wd := runF D h t (mu t w + 1) w

theorem mu_bd {t : Int} {n : Nat} {h : H10} {w : Wd} (I : PI n h w) (hn : n ≤ 100) (ht : t ≤ 268435456) : mu t w < 300000000 := by
  have := I.cnt; have := I.x0
  simp only [mu]; omega

abbrev uS (h : H10) (b : Int) (w : Wd) (v : Hid) (D : List Int) (t : Int) : (H10 × (Int × Int × Int) × Int × Unit) × (L8 × T9 × T9 × T9 × (Int × Int) × Int × Unit) × (Int × Int × Int × Unit) × (Int × Int × Int × Unit) × (Int × Unit) × Unit × (Int × Unit) × Unit × (Int × Unit) × List Pk × List Pk × List Pk × List Pk × List Int × Unit :=
  ((h, ((h.1, (w.free, b)), (w.next, ()))), (cA w.s, ((v.f1, (v.m1, (65536, ()))), ((v.f2, (v.m2, (65536, ()))), ((w.s.used, ()), ((), ((v.dat, ()), ((), ((t, ()), (w.out, (w.lost, (v.r1, (v.r2, (D, ()))))))))))))))

abbrev uE (h : H10) (b : Int) (w : Wd) (v : Hid) (D : List Int) : (H10 × (Int × Int × Int) × Int × Unit) × (L8 × T9 × T9 × T9 × (Int × Int) × Int × Unit) × (Int × Int × Int × Unit) × (Int × Int × Int × Unit) × (Int × Unit) × Unit × (Int × Unit) × List Pk × List Pk × List Pk × List Pk × List Int × Unit :=
  ((h, ((h.1, (w.free, b)), (w.next, ()))), (cA w.s, ((v.f1, (v.m1, (65536, ()))), ((v.f2, (v.m2, (65536, ()))), ((w.s.used, ()), ((), ((v.dat, ()), (w.out, (w.lost, (v.r1, (v.r2, (D, ()))))))))))))

theorem upto_round (N : Nat) (hN : vast < N) {D : List Int} (hD : DOK D) {n : Nat} (hn : n ≤ 100) {h : H10} {w : Wd} {v : Hid} (b t : Int) (ht : t ≤ 268435456) (I : PI n h w) (R : Rep D w.s v) :
    (∃ w' b' v', one D h t w = some w' ∧ Rep D w'.s v' ∧ ∀ F, W.chain_place_upto_L2 N F ((), uS h b w v D t) = F ((), uS h b' w' v' D t)) ∨ (one D h t w = none ∧ ∀ F, W.chain_place_upto_L2 N F ((), uS h b w v D t) = some ((), uE h b w v D)) := by
  have hw := waits_eq N I.g hn
  by_cases hc : 0 < wt w ∧ w.free ≤ t ∧ w.free ≤ w.next
  · left
    obtain ⟨b', v', e, R'⟩ := place_take N (by simp only [vast, big] at *; omega) hD hn b I R
    refine ⟨tk D h w, b', v', by simp only [one, hc, and_self, if_true], R', fun F => ?_⟩
    have c0 : 0 < w.s.q1.length + w.s.q2.length := hc.1
    simp only [W.chain_place_upto_L2, hw, Option.bind_some, c0, hc.2.1, hc.2.2, decide_true, beq_self_eq_true, cond_true, e]
  · have hj : ∀ F, W.chain_place_upto_L2 N F ((), uS h b w v D t) = W.chain_place_upto_L2_j1 N F ((), uS h b w v D t) := by
      intro F
      by_cases c0 : 0 < w.s.q1.length + w.s.q2.length
      · by_cases c1 : w.free ≤ t
        · have c2 : ¬ w.free ≤ w.next := fun c2 => hc ⟨c0, c1, c2⟩
          simp only [W.chain_place_upto_L2, hw, Option.bind_some, c0, c1, c2, decide_true, decide_false, beq_self_eq_true, cond_true, cond_false]
        · simp only [W.chain_place_upto_L2, hw, Option.bind_some, c0, c1, decide_true, decide_false, beq_self_eq_true, cond_true, bft, cond_false]
      · simp only [W.chain_place_upto_L2, hw, Option.bind_some, c0, decide_false, bft, cond_false]
    by_cases hx : w.next ≤ t
    · left
      obtain ⟨e, R'⟩ := place_step N b I R (by omega)
      refine ⟨stp h w, b, v, by simp only [one, hc, hx, if_true, if_false], R', fun F => ?_⟩
      rw [hj]
      simp only [W.chain_place_upto_L2_j1, hx, decide_true, cond_true, e, Option.bind_some]
    · right
      refine ⟨by simp only [one, hc, hx, if_false], fun F => ?_⟩
      rw [hj]
      simp only [W.chain_place_upto_L2_j1, hx, decide_false, cond_false]

theorem upto_loop (N : Nat) (hN : vast < N) {D : List Int} (hD : DOK D) {n : Nat} (hn : n ≤ 100) {h : H10} (t : Int) (ht : t ≤ 268435456) : ∀ (M : Nat) (w : Wd) (v : Hid) (b : Int), PI n h w → Rep D w.s v → mu t w < M →
    ∃ b' v', iter (W.chain_place_upto_L2 N) M ((), uS h b w v D t) = some ((), uE h b' (runF D h t M w) v' D) ∧ Rep D (runF D h t M w).s v'
  | 0, _, _, _, _, _, hm => absurd hm (Nat.not_lt_zero _)
  | M + 1, w, v, b, I, R, hm => by
    rcases upto_round N hN hD hn b t ht I R with ⟨w', b', v', e, R', er⟩ | ⟨e, er⟩
    · obtain ⟨q1, q2⟩ := one_less hn I ht e
      obtain ⟨b2, v2, e2, R2⟩ := upto_loop N hN hD hn t ht M w' v' b' q1 R' (by omega)
      refine ⟨b2, v2, ?_, by simpa only [runF, e] using R2⟩
      simp only [iter, er, runF, e]
      exact e2
    · exact ⟨b, v, by simp only [iter, er, runF, e], by simpa only [runF, e] using R⟩

theorem place_upto (N : Nat) (hN : vast < N) {D : List Int} (hD : DOK D) {n : Nat} (hn : n ≤ 100) {h : H10} (t : Int) (ht : t ≤ 268435456) {w : Wd} {v : Hid} (b : Int) (I : PI n h w) (R : Rep D w.s v) :
    ∃ b' v', W.chain_place_upto N ((t, ()), pS h b w v D) = some ((), pS h b' (upto D h t w) v' D) ∧ Rep D (upto D h t w).s v' ∧ PI n h (upto D h t w) := by
  have hb := mu_bd I hn ht
  have hN' := hN
  simp only [vast] at hN'
  obtain ⟨b', v', e, R'⟩ := upto_loop N hN hD hn t ht N w v b I R (by omega)
  have es : runF D h t N w = upto D h t w := runF_stable hn ht _ _ w I (Nat.lt_succ_self _) (by omega)
  rw [es] at e R'
  refine ⟨b', v', ?_, R', runF_PI hn ht _ w I⟩
  simp only [W.chain_place_upto, e, Option.bind_some]

/- The document's world. -/
abbrev rWa (h : H10) (w : Wd) : H10 × L8 × T9 × T9 × T9 × (Int × Int) × Int × Int × Int × Int × Unit :=
  (h, (w.s.l, (w.s.z, (w.s.t1, (w.s.t2, (w.s.pi, (w.s.owed, (w.s.used, (w.free, (w.next, ()))))))))))

abbrev rWb (E : List Int) (w : Wd) (D : List Int) : List Int × List Pk × List Pk × List Int × List Pk × List Pk × Unit := (E, (w.s.q1, (w.s.q2, (D, (w.out, (w.lost, ()))))))

abbrev r8 (i : Int) (s : Bool) (h : H10) (w : Wd) (l : List Pk) (E D : List Int) : (Int × Bool × Unit) × (H10 × L8 × T9 × T9 × T9 × (Int × Int) × Int × Int × Int × Int × Unit) × List Pk × List Int × List Pk × List Pk × List Int × List Pk × List Pk × Unit :=
  ((i, (s, ())), (rWa h w, (l, rWb E w D)))

abbrev r8e (i : Int) (h : H10) (w : Wd) (l : List Pk) (E D : List Int) : (Int × Unit) × (H10 × L8 × T9 × T9 × T9 × (Int × Int) × Int × Int × Int × Int × Unit) × List Pk × List Int × List Pk × List Pk × List Int × List Pk × List Pk × Unit :=
  ((i, ()), (rWa h w, (l, rWb E w D)))

/- Until nothing waits. -/
def rst (D : List Int) (h : H10) (w : Wd) : Wd := if w.free ≤ w.next then tk D h w else stp h w

def restF (D : List Int) (h : H10) : Nat → Wd → Wd
  | 0, w => w
  | n + 1, w => if 0 < wt w then restF D h n (rst D h w) else w

def nu (w : Wd) : Nat := (w.free - w.next).toNat + 200000000 * wt w

theorem rst_less {D : List Int} {h : H10} {n : Nat} {w : Wd} (hn : n ≤ 100) (I : PI n h w) (h0 : 0 < wt w) : PI n h (rst D h w) ∧ nu (rst D h w) < nu w := by
  unfold rst
  split
  · obtain ⟨q1, q2, q3, _⟩ := PI_tk (D := D) I hn h0
    have fb := free_bd q1 hn; have x0 := q1.x0
    refine ⟨q1, ?_⟩
    simp only [nu]
    omega
  · rename_i hc
    have fb := free_bd I hn; have he := I.hh.e
    refine ⟨PI_stp I (by omega), ?_⟩
    simp only [nu, stp, wt, upd]
    omega

theorem restF_stable {D : List Int} {h : H10} {n : Nat} (hn : n ≤ 100) : ∀ (M M' : Nat) (w : Wd), PI n h w → nu w < M → M ≤ M' → restF D h M' w = restF D h M w
  | 0, _, _, _, hm, _ => absurd hm (Nat.not_lt_zero _)
  | M + 1, 0, _, _, _, h2 => by omega
  | M + 1, M' + 1, w, I, hm, h2 => by
    simp only [restF]
    split
    · rename_i h0
      obtain ⟨q1, q2⟩ := rst_less (D := D) hn I h0
      exact restF_stable hn M M' _ q1 (by omega) (by omega)
    · rfl

theorem restF_PI {D : List Int} {h : H10} {n : Nat} (hn : n ≤ 100) : ∀ (M : Nat) (w : Wd), PI n h w → PI n h (restF D h M w)
  | 0, _, I => I
  | M + 1, w, I => by
    simp only [restF]
    split
    · rename_i h0
      exact restF_PI hn M _ (rst_less (D := D) hn I h0).1
    · exact I

theorem restF_wt {D : List Int} {h : H10} {n : Nat} (hn : n ≤ 100) : ∀ (M : Nat) (w : Wd), PI n h w → nu w < M → wt (restF D h M w) = 0
  | 0, _, _, hm => absurd hm (Nat.not_lt_zero _)
  | M + 1, w, I, hm => by
    simp only [restF]
    split
    · rename_i h0
      obtain ⟨q1, q2⟩ := rst_less (D := D) hn I h0
      exact restF_wt hn M _ q1 (by omega)
    · omega

def rest (D : List Int) (h : H10) (w : Wd) : Wd := restF D h (nu w + 1) w

theorem nu_bd {n : Nat} {h : H10} {w : Wd} (I : PI n h w) (hn : n ≤ 100) : nu w < 21000000000 := by
  have := I.cnt; have := I.x0; have := free_bd I hn
  simp only [nu]
  omega

theorem rest_loop (N : Nat) (hN : vast < N) {D : List Int} (hD : DOK D) {n : Nat} (hn : n ≤ 100) {h : H10} : ∀ (M : Nat) (w : Wd) (v : Hid) (b : Int), PI n h w → Rep D w.s v → nu w < M →
    ∃ b' v', iter (W.chain_place_rest_L0 N) M ((), uE h b w v D) = some ((), uE h b' (restF D h M w) v' D)
  | 0, _, _, _, _, _, hm => absurd hm (Nat.not_lt_zero _)
  | M + 1, w, v, b, I, R, hm => by
    have hw := waits_eq N I.g hn
    have fb := free_bd I hn
    by_cases h0 : 0 < wt w
    · have c0 : 0 < w.s.q1.length + w.s.q2.length := h0
      obtain ⟨q1, q2⟩ := rst_less (D := D) hn I h0
      by_cases hc : w.free ≤ w.next
      · obtain ⟨b', v', e, R'⟩ := place_take N (by simp only [vast, big] at *; omega) hD hn b I R
        have er : ∀ F, W.chain_place_rest_L0 N F ((), uE h b w v D) = F ((), uE h b' (rst D h w) v' D) := fun F => by
          simp only [W.chain_place_rest_L0, hw, Option.bind_some, c0, hc, decide_true, cond_true, e, rst, if_true]
        obtain ⟨b2, v2, e2⟩ := rest_loop N hN hD hn M (rst D h w) v' b' q1 (by simpa only [rst, hc, if_true] using R') (by omega)
        refine ⟨b2, v2, ?_⟩
        rw [iter, er, e2]
        simp only [restF, h0, if_true]
      · obtain ⟨e, R'⟩ := place_step N b I R (by omega)
        have er : ∀ F, W.chain_place_rest_L0 N F ((), uE h b w v D) = F ((), uE h b (rst D h w) v D) := fun F => by
          simp only [W.chain_place_rest_L0, hw, Option.bind_some, c0, hc, decide_true, decide_false, cond_true, cond_false, e, rst, if_false]
        obtain ⟨b2, v2, e2⟩ := rest_loop N hN hD hn M (rst D h w) v b q1 (by simpa only [rst, hc, if_false] using R') (by omega)
        refine ⟨b2, v2, ?_⟩
        rw [iter, er, e2]
        simp only [restF, h0, if_true]
    · have c0 : ¬ 0 < w.s.q1.length + w.s.q2.length := h0
      refine ⟨b, v, ?_⟩
      simp only [iter, W.chain_place_rest_L0, hw, Option.bind_some, c0, decide_false, cond_false, restF, h0, if_false]

theorem place_rest (N : Nat) (hN : vast < N) {D : List Int} (hD : DOK D) {n : Nat} (hn : n ≤ 100) {h : H10} {w : Wd} {v : Hid} (b : Int) (I : PI n h w) (R : Rep D w.s v) :
    ∃ b' v', W.chain_place_rest N ((), pS h b w v D) = some ((), pS h b' (rest D h w) v' D) := by
  have hb := nu_bd I hn
  have hN' := hN
  simp only [vast] at hN'
  obtain ⟨b', v', e⟩ := rest_loop N hN hD hn N w v b I R (by omega)
  have es : restF D h N w = rest D h w := restF_stable hn _ _ w I (Nat.lt_succ_self _) (by omega)
  rw [es] at e
  refine ⟨b', v', ?_⟩
  simp only [W.chain_place_rest, e, Option.bind_some]

abbrev r15 (h : H10) (w : Wd) (E D : List Int) : Unit × (H10 × L8 × T9 × T9 × T9 × (Int × Int) × Int × Int × Int × Int × Unit) × List Int × List Pk × List Pk × List Int × List Pk × List Pk × Unit :=
  ((), (rWa h w, rWb E w D))

end Go.Proofs.YtgjmfljogaanfaaGreat.Pure
