/- A hop: nothing goes astray, nothing comes twice, and what came in order by one code goes in order. -/
import Derived.Test.YtgjmfljogaanfaaGreatPPas
namespace Go.Proofs.YtgjmfljogaanfaaGreat.Pure
open Go.Ev Go.RowKit

abbrev sq (p : Pk) : Int := p.2.1

abbrev cd (p : Pk) : Int := p.2.2.2.1

def at1 (i : Int) (p : Pk) : Nat := if sq p = i then 1 else 0

def cnt (i : Int) : List Pk → Nat
  | [] => 0
  | p :: l => at1 i p + cnt i l

theorem cnt_app (i : Int) (l m : List Pk) : cnt i (l ++ m) = cnt i l + cnt i m := by
  induction l with
  | nil => simp [cnt]
  | cons p l ih => simp only [List.cons_append, cnt, ih]; omega

theorem cnt_tail (i : Int) {q : List Pk} (h : q ≠ []) : cnt i q = at1 i (hd q) + cnt i q.tail := by
  cases q with
  | nil => exact absurd rfl h
  | cons p l => rfl

/-- The numbers of those that are looked at, in order. -/
def es (E : Int → Bool) (l : List Pk) : List Int := (l.map sq).filter E

theorem es_app (E : Int → Bool) (l m : List Pk) : es E (l ++ m) = es E l ++ es E m := by simp [es]

theorem es_one {E : Int → Bool} {p : Pk} : es E [p] = if E (sq p) = true then [sq p] else [] := by
  simp only [es, List.map_cons, List.map_nil, List.filter_cons, List.filter_nil]

theorem es_tail {E : Int → Bool} {q : List Pk} (h : q ≠ []) : es E q = es E [hd q] ++ es E q.tail := by
  cases q with
  | nil => exact absurd rfl h
  | cons p l => rw [← es_app]; rfl

theorem es_none {E : Int → Bool} {l : List Pk} (h : ∀ p ∈ l, E (sq p) = false) : es E l = [] := by
  simp only [es, List.filter_eq_nil_iff, List.mem_map]
  rintro _ ⟨p, hp, rfl⟩
  rw [h p hp]; simp

/-- Another code. -/
def recode (c : Int) (p : Pk) : Pk := (p.1, (p.2.1, (p.2.2.1, (c, p.2.2.2.2))))

/-- What may be said of packets, whatever becomes of them in a queue. -/
structure Stays (P : Pk → Prop) (E : Int → Bool) : Prop where
  code : ∀ p c, P p → (c = cd p ∨ (c = 3 ∧ cd p ≠ 0)) → P (recode c p)
  low : ∀ p, P p → E (sq p) = true → isLow (cd p)
  clean : ∀ p, P p → (1 ≤ p.2.2.1 ∧ p.2.2.1 ≤ 65536) ∧ (0 ≤ key p ∧ key p ≤ 67108864)

structure TI (P : Pk → Prop) (E : Int → Bool) (fr : Int) (s : St) (lost : List Pk) : Prop where
  q1 : ∀ p ∈ s.q1, P p ∧ key p ≤ fr
  q2 : ∀ p ∈ s.q2, P p ∧ key p ≤ fr ∧ E (sq p) = false
  lo : ∀ p ∈ lost, P p

theorem j1_cd (D : List Int) (now : Int) (s : St) : (j1 D now s).2.1 = (hd s.q1).2.2.2.1 ∨ (j1 D now s).2.1 = 3 := by
  unfold j1 judge
  rw [if_neg (by omega)]
  split
  · split
    · exact .inl rfl
    · split
      · exact .inr rfl
      · exact .inl rfl
  · split
    · exact .inr rfl
    · exact .inl rfl

theorem j2_cd (D : List Int) (now : Int) (s : St) (h : (j2 D now s).2.2 = false) : (j2 D now s).2.1 = (hd s.q2).2.2.2.1 ∨ ((j2 D now s).2.1 = 3 ∧ ((hd s.q2).2.2.2.1 = 1 ∨ (hd s.q2).2.2.2.1 = 2 ∨ (hd s.q2).2.2.2.1 = 3)) := by
  unfold j2 judge at h ⊢
  rw [if_pos rfl] at h ⊢
  split
  · rename_i hd'
    rw [if_pos hd'] at h
    unfold mk3 at h ⊢
    split
    · rename_i hc; exact .inr ⟨rfl, hc⟩
    · rename_i hc; rw [if_neg hc] at h; simp at h
  · exact .inl rfl

theorem tail_mem {q : List Pk} {p : Pk} (h : p ∈ q.tail) : p ∈ q := List.mem_of_mem_tail h

theorem lost_snoc {P : Pk → Prop} {l : List Pk} {p : Pk} (h : ∀ x ∈ l, P x) (hp : P p) : ∀ x ∈ l ++ [p], P x := by
  intro x hx
  rcases List.mem_append.1 hx with hx | hx
  · exact h x hx
  · obtain rfl := List.mem_singleton.1 hx; exact hp

/-- What comes out of the queues, and what is left. -/
structure TO (P : Pk → Prop) (E : Int → Bool) (fr : Int) (s : St) (lost : List Pk) (r : St × Pk × List Pk × Bool) : Prop where
  ti : TI P E fr r.1 r.2.2.1
  pk : r.2.2.2 = true → P r.2.1 ∧ key r.2.1 ≤ fr
  cn : ∀ i, cnt i r.1.q1 + cnt i r.1.q2 + cnt i r.2.2.1 + (bif r.2.2.2 then at1 i r.2.1 else 0) = cnt i s.q1 + cnt i s.q2 + cnt i lost
  od : ((bif r.2.2.2 then es E [r.2.1] else []) ++ es E r.1.q1).Sublist (es E s.q1)

theorem take_TO {P : Pk → Prop} {E : Int → Bool} (S : Stays P E) (D : List Int) (now fr : Int) {n : Nat} (hn : n ≤ 100) : ∀ (f : Nat) (s : St) (lost : List Pk), Good n s → TI P E fr s lost → TO P E fr s lost (take D now f s lost) := by
  intro f
  induction f with
  | zero => intro s lost G T; exact ⟨T, fun h => by simp [take] at h, fun i => by simp [take], by simp [take]⟩
  | succ f ih =>
    intro s lost G T
    by_cases he : s.q1 = [] ∧ s.q2 = []
    · rw [take_empty D now _ s lost he]; exact ⟨T, fun h => by simp at h, fun i => by simp, by simp⟩
    · rcases pick_cases G he with ⟨hp, hq⟩ | ⟨hp, hq⟩
      · have hm := T.q1 _ (hd_mem hq)
        cases hj : (j1 D now s).2.2 with
        | true =>
          have et : take D now (f + 1) s lost = take D now f (gone1 D now s) (lost ++ [hd s.q1]) := by simp only [take, he, hp, hj, if_true, if_false, cond_true]
          have := ih (gone1 D now s) (lost ++ [hd s.q1]) (Good_gone1 G hn hq) ⟨fun p h => T.q1 p (tail_mem h), T.q2, lost_snoc T.lo hm.1⟩
          rw [et]
          refine ⟨this.ti, this.pk, fun i => ?_, this.od.trans ?_⟩
          · rw [this.cn i, cnt_app, cnt_tail i hq]; simp only [gone1, out1, cnt]; omega
          · rw [es_tail hq]; exact List.sublist_append_right _ _
        | false =>
          have et : take D now (f + 1) s lost = (went1 D now s, pk1 D now s, lost, true) := by simp only [take, he, hp, hj, if_true, if_false, cond_false]
          rw [et]
          refine ⟨⟨fun p h => T.q1 p (tail_mem h), T.q2, T.lo⟩, fun _ => ⟨?_, hm.2⟩, fun i => ?_, ?_⟩
          · refine S.code (hd s.q1) _ hm.1 ?_
            have hc := G.c1 _ (hd_mem hq)
            rcases j1_cd D now s with h | h
            · exact .inl h
            · exact .inr ⟨h, by simp only [cd]; omega⟩
          · simp only [cond_true, went1, out1]; rw [cnt_tail i hq]
            have : at1 i (pk1 D now s) = at1 i (hd s.q1) := rfl
            omega
          · simp only [cond_true, went1, out1]
            have : es E [pk1 D now s] = es E [hd s.q1] := rfl
            rw [this, ← es_tail hq]
            exact List.Sublist.refl _
      · have hm := T.q2 _ (hd_mem hq)
        have hp1 : ¬ ((2 : Int) = 1) := by omega
        cases hj : (j2 D now s).2.2 with
        | true =>
          have et : take D now (f + 1) s lost = take D now f (gone2 D now s) (lost ++ [hd s.q2]) := by simp only [take, he, hp, hp1, hj, if_false, cond_true]
          have := ih (gone2 D now s) (lost ++ [hd s.q2]) (Good_gone2 G hn hq) ⟨T.q1, fun p h => T.q2 p (tail_mem h), lost_snoc T.lo hm.1⟩
          rw [et]
          refine ⟨this.ti, this.pk, fun i => ?_, this.od⟩
          rw [this.cn i, cnt_app, cnt_tail i hq]; simp only [gone2, out2, cnt]; omega
        | false =>
          have et : take D now (f + 1) s lost = (went2 D now s, pk2 D now s, lost, true) := by simp only [take, he, hp, hp1, hj, if_false, cond_false]
          rw [et]
          refine ⟨⟨T.q1, fun p h => T.q2 p (tail_mem h), T.lo⟩, fun _ => ⟨?_, hm.2.1⟩, fun i => ?_, ?_⟩
          · refine S.code (hd s.q2) _ hm.1 ?_
            rcases j2_cd D now s hj with h | ⟨h, h'⟩
            · exact .inl h
            · exact .inr ⟨h, by simp only [cd]; omega⟩
          · simp only [cond_true, went2, out2]; rw [cnt_tail i hq]
            have : at1 i (pk2 D now s) = at1 i (hd s.q2) := rfl
            omega
          · simp only [cond_true, went2, out2]
            have : es E [pk2 D now s] = es E [hd s.q2] := rfl
            rw [this, es_one, hm.2.2]
            exact List.Sublist.refl _

/-- A hop, in between: cs are those that have come. -/
structure KI (P Q : Pk → Prop) (E : Int → Bool) (h : H10) (cs : List Pk) (w : Wd) : Prop where
  t : TI P E w.free w.s w.lost
  out : ∀ p ∈ w.out, Q p ∧ key p ≤ w.free + h.2.1 ∧ key p ≤ 67108864
  inc : Srt w.out
  cn : ∀ i, cnt i w.out + cnt i w.lost + cnt i w.s.q1 + cnt i w.s.q2 = cnt i cs
  od : (es E w.out ++ es E w.s.q1).Sublist (es E cs)

structure Goes (P Q : Pk → Prop) (h : H10) : Prop where
  go : ∀ p t, P p → key p + span p.2.2.1 h.1 + h.2.1 ≤ t → Q (arr t p)

theorem srt_snoc {l : List Pk} {p : Pk} (h : Srt l) (hp : ∀ q ∈ l, key q ≤ key p) : Srt (l ++ [p]) := by
  refine List.pairwise_append.2 ⟨h, by simp, ?_⟩
  intro a ha b hb
  obtain rfl := List.mem_singleton.1 hb
  exact hp a ha

theorem KI_tk {P Q : Pk → Prop} {E : Int → Bool} {h : H10} {cs : List Pk} {w : Wd} (S : Stays P E) (A : Goes P Q h) (D : List Int) {n : Nat} (hn : n ≤ 100) (I : PI n h w) (K : KI P Q E h cs w) : KI P Q E h cs (tk D h w) := by
  have T := take_TO S D w.free w.free hn (w.s.q1.length + w.s.q2.length) w.s [] I.g ⟨K.t.q1, K.t.q2, fun p h => by simp at h⟩
  have hs := span_bd (n := (takeA D w.free w.s).2.1.2.2.1) I.hh.r
  have hd0 := I.hh.d
  have tcn := T.cn; have tod := T.od; have tpk := T.pk
  have hlo : ∀ p ∈ w.lost ++ (takeA D w.free w.s).2.2.1, P p := fun p hp => by
    rcases List.mem_append.1 hp with hp | hp
    · exact K.t.lo p hp
    · exact T.ti.lo p hp
  unfold tk
  simp only [takeA] at hs hlo ⊢
  cases hb : (take D w.free (w.s.q1.length + w.s.q2.length) w.s []).2.2.2 with
  | true =>
    simp only [hb, cond_true, cnt] at tcn tod tpk ⊢
    obtain ⟨p1, p2⟩ := tpk trivial
    refine ⟨⟨fun p hp => ⟨(T.ti.q1 p hp).1, by have := (T.ti.q1 p hp).2; simp only; omega⟩, fun p hp => ⟨(T.ti.q2 p hp).1, by have := (T.ti.q2 p hp).2.1; simp only; omega, (T.ti.q2 p hp).2.2⟩, hlo⟩, ?_, ?_, ?_, ?_⟩
    · intro p hp
      rcases List.mem_append.1 hp with hp | hp
      · obtain ⟨a, b, c⟩ := K.out p hp
        exact ⟨a, by simp only; omega, c⟩
      · obtain rfl := List.mem_singleton.1 hp
        refine ⟨A.go _ _ p1 (by omega), ?_, ?_⟩
        · simp only [arr, key]; omega
        · simp only [arr, key]; omega
    · refine srt_snoc K.inc fun p hp => ?_
      obtain ⟨a, b, c⟩ := K.out p hp
      simp only [arr, key] at b c ⊢; omega
    · intro i
      have k1 := K.cn i; have k2 := tcn i
      have : at1 i (arr (w.free + span (take D w.free (w.s.q1.length + w.s.q2.length) w.s []).2.1.2.2.1 h.1 + h.2.1) (take D w.free (w.s.q1.length + w.s.q2.length) w.s []).2.1) = at1 i (take D w.free (w.s.q1.length + w.s.q2.length) w.s []).2.1 := rfl
      simp only [cnt_app, cnt, this]; omega
    · have : es E [arr (w.free + span (take D w.free (w.s.q1.length + w.s.q2.length) w.s []).2.1.2.2.1 h.1 + h.2.1) (take D w.free (w.s.q1.length + w.s.q2.length) w.s []).2.1] = es E [(take D w.free (w.s.q1.length + w.s.q2.length) w.s []).2.1] := rfl
      rw [es_app, this, List.append_assoc]
      exact (List.Sublist.append (List.Sublist.refl _) tod).trans K.od
  | false =>
    simp only [hb, cond_false, List.nil_append, cnt] at tcn tod ⊢
    refine ⟨⟨T.ti.q1, T.ti.q2, hlo⟩, K.out, K.inc, ?_, ?_⟩
    · intro i
      have k1 := K.cn i; have k2 := tcn i
      simp only [cnt_app]; omega
    · exact (List.Sublist.append (List.Sublist.refl _) tod).trans K.od

theorem KI_stp {P Q : Pk → Prop} {E : Int → Bool} {h : H10} {cs : List Pk} {w : Wd} (K : KI P Q E h cs w) : KI P Q E h cs (stp h w) := ⟨⟨K.t.q1, K.t.q2, K.t.lo⟩, K.out, K.inc, K.cn, K.od⟩

theorem KI_runF {P Q : Pk → Prop} {E : Int → Bool} {h : H10} {cs : List Pk} (S : Stays P E) (A : Goes P Q h) (D : List Int) {n : Nat} (hn : n ≤ 100) {t : Int} (ht : t ≤ 268435456) : ∀ (M : Nat) (w : Wd), PI n h w → KI P Q E h cs w → KI P Q E h cs (runF D h t M w)
  | 0, _, _, K => K
  | M + 1, w, I, K => by
    simp only [runF]
    cases e : one D h t w with
    | none => exact K
    | some w' =>
      have I' := (one_less hn I ht e).1
      refine KI_runF S A D hn ht M w' I' ?_
      unfold one at e
      split at e
      · obtain rfl := Option.some.inj e; exact KI_tk S A D hn I K
      · split at e <;> first | cases e; done | skip
        obtain rfl := Option.some.inj e; exact KI_stp K

theorem KI_restF {P Q : Pk → Prop} {E : Int → Bool} {h : H10} {cs : List Pk} (S : Stays P E) (A : Goes P Q h) (D : List Int) {n : Nat} (hn : n ≤ 100) : ∀ (M : Nat) (w : Wd), PI n h w → KI P Q E h cs w → KI P Q E h cs (restF D h M w)
  | 0, _, _, K => K
  | M + 1, w, I, K => by
    simp only [restF]
    split
    · rename_i h0
      have I' := (rst_less (D := D) hn I h0).1
      refine KI_restF S A D hn M _ I' ?_
      unfold rst
      split
      · exact KI_tk S A D hn I K
      · exact KI_stp K
    · exact K

theorem KI_put {P Q : Pk → Prop} {E : Int → Bool} {h : H10} {cs : List Pk} {w : Wd} {p : Pk} (S : Stays P E) (A : Goes P Q h) (D : List Int) {n : Nat} (hn : n ≤ 99) (I : PI n h w) (K : KI P Q E h cs w) (hp : P p) : KI P Q E h (cs ++ [p]) (putW D h w p) := by
  obtain ⟨c1, c2⟩ := S.clean p hp
  have U : KI P Q E h cs (upto D h (key p) w) := KI_runF S A D (by omega) (by omega) _ w I K
  have ep : putP (key p) p = p := by
    have e1 : cl p.2.2.1 1 65536 = p.2.2.1 := by simp only [cl]; omega
    have e2 : cl (key p) 0 1125899906842624 = p.2.2.2.2 := by simp only [cl, key] at c2 ⊢; omega
    simp only [putP, e1, e2]
  unfold putW
  generalize upto D h (key p) w = u at U
  have hout : ∀ x ∈ u.out, Q x ∧ key x ≤ max u.free (key p) + h.2.1 ∧ key x ≤ 67108864 := fun x hx => by
    obtain ⟨a, b, c⟩ := U.out x hx
    exact ⟨a, by omega, c⟩
  have f1 : ∀ x ∈ u.s.q1, P x ∧ key x ≤ max u.free (key p) := fun x hx => ⟨(U.t.q1 x hx).1, by have := (U.t.q1 x hx).2; omega⟩
  have f2 : ∀ x ∈ u.s.q2, P x ∧ key x ≤ max u.free (key p) ∧ E (sq x) = false := fun x hx => ⟨(U.t.q2 x hx).1, by have := (U.t.q2 x hx).2.1; omega, (U.t.q2 x hx).2.2⟩
  have ec : ∀ i, cnt i (cs ++ [p]) = cnt i cs + at1 i p := fun i => by simp [cnt_app, cnt]
  have od0 : (es E u.out ++ es E u.s.q1).Sublist (es E (cs ++ [p])) := by
    rw [es_app]; exact U.od.trans (List.sublist_append_left _ _)
  have hlost : ∀ x ∈ u.lost ++ [p], P x := lost_snoc U.t.lo hp
  unfold put
  by_cases hl : isLow p.2.2.2.1
  · by_cases hb : u.s.l.1 < sumS u.s.q1 + sumS u.s.q2 + cl p.2.2.1 1 65536
    · simp only [hl, hb, if_true, cond_false]
      exact ⟨⟨f1, f2, hlost⟩, hout, U.inc, fun i => by have := U.cn i; rw [ec]; simp only [cnt_app, cnt]; omega, od0⟩
    · simp only [hl, hb, if_true, if_false, cond_true, ep]
      refine ⟨⟨fun x hx => ?_, f2, U.t.lo⟩, hout, U.inc, fun i => by have := U.cn i; rw [ec]; simp only [cnt_app, cnt]; omega, ?_⟩
      · rcases List.mem_append.1 hx with hx | hx
        · exact f1 x hx
        · obtain rfl := List.mem_singleton.1 hx
          exact ⟨hp, by simp only; omega⟩
      · simp only [es_app, ← List.append_assoc]
        exact List.Sublist.append U.od (List.Sublist.refl _)
  · have hE : E (sq p) = false := by
      cases he : E (sq p) with
      | false => rfl
      | true => exact absurd (S.low p hp he) hl
    by_cases hb : u.s.l.1 < sumS u.s.q1 + sumS u.s.q2 + cl p.2.2.1 1 65536
    · simp only [hl, hb, if_true, if_false, cond_false]
      exact ⟨⟨f1, f2, hlost⟩, hout, U.inc, fun i => by have := U.cn i; rw [ec]; simp only [cnt_app, cnt]; omega, od0⟩
    · simp only [hl, hb, if_false, cond_true, ep]
      refine ⟨⟨f1, fun x hx => ?_, U.t.lo⟩, hout, U.inc, fun i => by have := U.cn i; rw [ec]; simp only [cnt_app, cnt]; omega, od0⟩
      rcases List.mem_append.1 hx with hx | hx
      · exact f2 x hx
      · obtain rfl := List.mem_singleton.1 hx
        exact ⟨hp, by simp only; omega, hE⟩

theorem KI0 (P Q : Pk → Prop) (E : Int → Bool) (h : H10) : KI P Q E h [] (w0 h) :=
  ⟨⟨fun p h => by simp [w0, st0] at h, fun p h => by simp [w0, st0] at h, fun p h => by simp [w0] at h⟩, fun p h => by simp [w0] at h, by simp [Srt, w0], fun i => by simp [w0, st0, cnt], by simp [w0, st0, es]⟩

theorem KI_pass {P Q : Pk → Prop} {E : Int → Bool} {h : H10} (hh : HOK h) (S : Stays P E) (A : Goes P Q h) (D : List Int) (l : List Pk) (hl : l.length ≤ 99) (hi : ∀ p ∈ l, P p) : ∀ i, i ≤ l.length → PI i h (passW D h (l.take i) (w0 h)) ∧ KI P Q E h (l.take i) (passW D h (l.take i) (w0 h)) := by
  intro i
  induction i with
  | zero => intro _; exact ⟨PI0 hh, KI0 P Q E h⟩
  | succ i ih =>
    intro hil
    obtain ⟨I, K⟩ := ih (by omega)
    have hp := hi _ (getD_mem (show i < l.length by omega))
    rw [take_next (show i < l.length by omega), passW_snoc]
    exact ⟨putW_PI (by omega) (S.clean _ hp).2 I, KI_put S A D (by omega) I K hp⟩

/- Sorting. -/
theorem cnt_ins (i : Int) (p : Pk) : ∀ l, cnt i (ins p l) = at1 i p + cnt i l
  | [] => rfl
  | q :: l => by
    unfold ins
    split
    · simp only [cnt, cnt_ins i p l]; omega
    · rfl

theorem cnt_isort (i : Int) (l : List Pk) : cnt i (isort l) = cnt i l := by
  have : ∀ (l s : List Pk), cnt i (l.foldl (fun s p => ins p s) s) = cnt i s + cnt i l := by
    intro l
    induction l with
    | nil => intro s; simp [cnt]
    | cons p l ih => intro s; simp only [List.foldl_cons, ih, cnt_ins, cnt]; omega
  simpa [isort, cnt] using this l []

theorem es_cons (E : Int → Bool) (p : Pk) (l : List Pk) : es E (p :: l) = es E [p] ++ es E l := by rw [← es_app]; rfl

theorem es_ins {E : Int → Bool} {p : Pk} : ∀ {l : List Pk}, Srt l → (∀ q ∈ l, E (sq q) = true → E (sq p) = true → key q ≤ key p) → es E (ins p l) = es E l ++ es E [p]
  | [], _, _ => rfl
  | q :: l, hs, hk => by
    have hs' := List.pairwise_cons.1 hs
    unfold ins
    split
    · rw [es_cons, es_ins hs'.2 (fun r hr => hk r (List.mem_cons_of_mem _ hr)), es_cons E q l, List.append_assoc]
    · rename_i hc
      rw [es_cons E p]
      cases he : E (sq p) with
      | false => rw [es_one, he]; simp
      | true =>
        have : es E (q :: l) = [] := es_none fun r hr => by
          cases hr' : E (sq r) with
          | false => rfl
          | true =>
            have h1 := hk r hr hr' he
            have h2 : key q ≤ key r := by
              rcases List.mem_cons.1 hr with rfl | hr
              · exact Int.le_refl _
              · exact hs'.1 r hr
            omega
        rw [this]; simp

/-- Those that are looked at come in order. -/
def EO (E : Int → Bool) (l : List Pk) : Prop := l.Pairwise fun a b => E (sq a) = true → E (sq b) = true → key a ≤ key b

theorem es_isort {E : Int → Bool} {l : List Pk} (h : EO E l) : es E (isort l) = es E l := by
  have : ∀ (l s : List Pk), EO E l → Srt s → (∀ a ∈ s, ∀ b ∈ l, E (sq a) = true → E (sq b) = true → key a ≤ key b) → es E (l.foldl (fun s p => ins p s) s) = es E s ++ es E l := by
    intro l
    induction l with
    | nil => intro s _ _ _; simp [es]
    | cons p l ih =>
      intro s h1 h2 h3
      have h1' := List.pairwise_cons.1 h1
      rw [List.foldl_cons, ih (ins p s) h1'.2 (srt_ins p h2), es_ins h2 (fun q hq => h3 q hq p List.mem_cons_self), es_cons E p l, List.append_assoc]
      intro a ha b hb
      rcases mem_ins ha with rfl | ha
      · exact h1'.1 b hb
      · exact h3 a ha b (List.mem_cons_of_mem _ hb)
  have := this l [] h (by simp [Srt]) (fun a ha => by simp at ha)
  simpa [isort, es] using this

/-- What a hop gives. -/
structure HK (P Q : Pk → Prop) (E : Int → Bool) (xs : List Pk) (w : Wd) : Prop where
  out : ∀ p ∈ w.out, Q p
  lost : ∀ p ∈ w.lost, P p
  inc : Srt w.out
  cn : ∀ i, cnt i w.out + cnt i w.lost = cnt i xs
  od : (es E w.out).Sublist (es E xs)
  len : w.out.length + w.lost.length = xs.length

theorem hop_keeps {P Q : Pk → Prop} {E : Int → Bool} {h : H10} (S : Stays P E) (A : Goes P Q (limH h)) (D : List Int) {xs : List Pk} (hl : xs.length ≤ 99) (hx : ∀ p ∈ xs, P p) (ho : EO E xs) : HK P Q E xs (passH D h xs) := by
  have hc : xs.map cleanP = xs := by
    have : ∀ p ∈ xs, cleanP p = p := fun p hp => by
      obtain ⟨c1, c2⟩ := S.clean p (hx p hp)
      have e1 : cl p.2.2.1 1 65536 = p.2.2.1 := by simp only [cl]; omega
      have e2 : cl p.2.2.2.2 0 67108864 = p.2.2.2.2 := by simp only [cl, key] at c2 ⊢; omega
      simp only [cleanP, e1, e2]
    rw [List.map_congr_left this]; simp
  unfold passH
  rw [hc]
  have hlen := isort_length xs
  obtain ⟨I, K⟩ := KI_pass (limH_ok h) S A D (isort xs) (by omega) (fun p hp => hx p (mem_isort hp)) (isort xs).length (Nat.le_refl _)
  rw [List.take_length] at I K
  have hb := nu_bd I (by omega)
  have R := KI_restF S A D (by omega) (nu (passW D (limH h) (isort xs) (w0 (limH h))) + 1) _ I K
  have J := restF_PI (D := D) (by omega) (nu (passW D (limH h) (isort xs) (w0 (limH h))) + 1) _ I
  have Z := restF_wt (D := D) (by omega) (nu (passW D (limH h) (isort xs) (w0 (limH h))) + 1) _ I (Nat.lt_succ_self _)
  unfold rest
  generalize restF D (limH h) (nu (passW D (limH h) (isort xs) (w0 (limH h))) + 1) (passW D (limH h) (isort xs) (w0 (limH h))) = w at R J Z
  have hcnt := J.cnt
  simp only [wt] at Z
  have q1 : w.s.q1 = [] := List.length_eq_zero_iff.1 (by omega)
  have q2 : w.s.q2 = [] := List.length_eq_zero_iff.1 (by omega)
  refine ⟨fun p hp => (R.out p hp).1, R.t.lo, R.inc, fun i => ?_, ?_, ?_⟩
  · have := R.cn i
    rw [q1, q2, cnt_isort] at this
    simpa [cnt] using this
  · have := R.od
    rw [q1, es_isort ho] at this
    simpa [es] using this
  · simp only [wt] at hcnt; omega

end Go.Proofs.YtgjmfljogaanfaaGreat.Pure
