/- Packets pass hops, one behind the other: both texts. -/
import Derived.Test.YtgjmfljogaanfaaGreatPKeep
namespace Go.Proofs.YtgjmfljogaanfaaGreat.Pure
open Go.Ev Go.RowKit

abbrev PD := Int × Int × Int × Int × Int × Int × Int

abbrev HOP := H10 × List Int

abbrev pd0 : PD := (0, (0, (0, (0, (0, (0, 0))))))

abbrev hop0 : HOP := ((0, (0, (0, (0, (0, (0, (0, (0, (0, 0))))))))), [])

abbrev lo (r : PD) : Int := r.2.2.2.2.2.2

/-- A row, after a packet has been noted. -/
def rw1 (k : Int) (r : PD) (p : Pk) : PD := (r.1, (r.2.1, (r.2.2.1, (p.2.2.2.1, (r.2.2.2.2.1, (p.2.2.2.2, k))))))

def note1 (k : Int) (rows : List PD) (p : Pk) : List PD := rows.set (p.2.1).toNat (rw1 k (rows.getD (p.2.1).toNat pd0) p)

def note (k : Int) (rows : List PD) (l : List Pk) : List PD := l.foldl (note1 k) rows

theorem note1_length (k : Int) (rows : List PD) (p : Pk) : (note1 k rows p).length = rows.length := by simp [note1]

theorem note_length (k : Int) (l : List Pk) : ∀ rows : List PD, (note k rows l).length = rows.length := by
  induction l with
  | nil => intro rows; rfl
  | cons p l ih => intro rows; simp only [note, List.foldl_cons] at ih ⊢; rw [ih, note1_length]

theorem note_snoc (k : Int) (rows : List PD) (l : List Pk) (p : Pk) : note k rows (l ++ [p]) = note1 k (note k rows l) p := by simp [note]

theorem getD_set_eq {α : Type} {l : List α} {j : Nat} (h : j < l.length) (a d : α) : (l.set j a).getD j d = a := by
  simp [List.getD_eq_getElem?_getD, h]

theorem getD_set_ne {α : Type} {l : List α} {i j : Nat} (h : i ≠ j) (a d : α) : (l.set i a).getD j d = l.getD j d := by
  simp [List.getD_eq_getElem?_getD, List.getElem?_set_ne h]

abbrev SeqIn (n : Nat) (l : List Pk) : Prop := ∀ p ∈ l, 0 ≤ sq p ∧ sq p < (n : Int)

theorem run1_round (N : Nat) (F) (k : Int) (rows : List PD) (l : List Pk) {i : Nat} (hi : i < l.length) (hl : l.length ≤ 1000) (h : SeqIn rows.length l) :
    W.chain_Run_1_L1 N F ((k, ((l.length : Int), ((i : Int), ()))), ((), (rows, (l, ())))) = F ((k, ((l.length : Int), (((i + 1 : Nat) : Int), ()))), ((), (note1 k rows (l.getD i pk0), (l, ())))) := by
  have hp := h _ (getD_mem hi)
  have c0 : (i : Int) < (l.length : Int) := by omega
  have e1 : IntKind.wrap .i64 ((i : Int) + 1) = ((i + 1 : Nat) : Int) := wN (by omega) (by omega)
  simp only [W.chain_Run_1_L1, c0, Int.natCast_nonneg, decide_true, Bool.and_true, cond_true, Int.toNat_natCast, e1]
  have hj : ((l.getD i pk0).2.1).toNat < rows.length := by simp only [sq] at hp; omega
  simp only [sq] at hp
  simp only [hp.1, hp.2, decide_true, Bool.and_true, cond_true, List.set_set, getD_set_eq hj, note1, rw1]

theorem run1_eq (N : Nat) (hN : 2000 < N) (k : Int) (rows : List PD) (l : List Pk) (hl : l.length ≤ 1000) (h : SeqIn rows.length l) :
    W.chain_Run_1 N ((k, ()), ((), (rows, (l, ())))) = some ((), ((), (note k rows l, ()))) := by
  have e : iter (W.chain_Run_1_L1 N) N ((k, ((l.length : Int), ((0 : Int), ()))), ((), (rows, (l, ())))) = some ((), ((), (note k rows l, ()))) := by
    refine iter_some (fun x => ∃ i : Nat, i ≤ l.length ∧ x = ((k, ((l.length : Int), ((i : Int), ()))), ((), (note k rows (l.take i), (l, ()))))) (fun x => l.length - x.1.2.2.1.toNat) _ ?_ N _ ⟨0, by omega, rfl⟩ (by simp only [Int.toNat_zero]; omega)
    rintro F _ ⟨i, hil, rfl⟩
    by_cases hc : i < l.length
    · left
      refine ⟨_, ⟨i + 1, by omega, rfl⟩, by simp only [Int.toNat_natCast]; omega, ?_⟩
      rw [run1_round N F k _ l hc hl (by rw [note_length]; exact h), take_next hc, note_snoc]
    · right
      have c0 : ¬ (i : Int) < (l.length : Int) := by omega
      rw [List.take_of_length_le (by omega)]
      simp only [W.chain_Run_1_L1, c0, decide_false, cond_false]
  simp only [W.chain_Run_1, e, Option.bind_some]

theorem note1_lo {k : Int} {rows : List PD} {p : Pk} {j : Nat} (hk : k = 0) (h : lo (rows.getD j pd0) = 0) : lo ((note1 k rows p).getD j pd0) = 0 := by
  by_cases e : (p.2.1).toNat = j
  · by_cases hj : j < rows.length
    · simp only [note1, e, getD_set_eq hj, rw1, lo]; exact hk
    · rw [List.getD_eq_getElem?_getD, List.getElem?_eq_none (by rw [note1_length]; omega)]; rfl
  · simp only [note1, getD_set_ne e]; exact h

theorem note_lo {rows : List PD} {j : Nat} (l : List Pk) (h : lo (rows.getD j pd0) = 0) : lo ((note 0 rows l).getD j pd0) = 0 := by
  induction l generalizing rows with
  | nil => exact h
  | cons p l ih => exact ih (note1_lo rfl h)

theorem note_other {k : Int} {rows : List PD} {j : Nat} (l : List Pk) (h : ∀ q ∈ l, (sq q).toNat ≠ j) : (note k rows l).getD j pd0 = rows.getD j pd0 := by
  induction l generalizing rows with
  | nil => rfl
  | cons p l ih =>
    have := ih (rows := note1 k rows p) fun q hq => h q (List.mem_cons_of_mem _ hq)
    simp only [note, List.foldl_cons] at this ⊢
    rw [this]
    exact getD_set_ne (h p List.mem_cons_self) _ _

/- What is so between hops. -/
structure RI (n : Nat) (rows : List PD) (now : List Pk) : Prop where
  len : rows.length = n
  n60 : n ≤ 60
  now60 : now.length ≤ 60
  ok : ∀ p ∈ now, (0 ≤ sq p ∧ sq p < (n : Int)) ∧ (1 ≤ p.2.2.1 ∧ p.2.2.1 ≤ 65536) ∧ (0 ≤ key p ∧ key p ≤ 67108864)
  one : ∀ i, cnt i now ≤ 1
  lost0 : ∀ i : Int, 1 ≤ cnt i now → lo (rows.getD i.toNat pd0) = 0

theorem cnt_mem {l : List Pk} {p : Pk} (h : p ∈ l) : 1 ≤ cnt (sq p) l := by
  induction l with
  | nil => simp at h
  | cons q l ih =>
    simp only [cnt]
    rcases List.mem_cons.1 h with rfl | h
    · have : at1 (sq p) p = 1 := if_pos rfl
      omega
    · have := ih h
      omega

theorem mem_cnt {l : List Pk} {i : Int} (h : 1 ≤ cnt i l) : ∃ p ∈ l, sq p = i := by
  induction l with
  | nil => simp [cnt] at h
  | cons q l ih =>
    by_cases e : sq q = i
    · exact ⟨q, List.mem_cons_self, e⟩
    · have : at1 i q = 0 := if_neg e
      simp only [cnt, this] at h
      obtain ⟨p, hp, hs⟩ := ih (by omega)
      exact ⟨p, List.mem_cons_of_mem _ hp, hs⟩

abbrev okP (n : Nat) (p : Pk) : Prop := (0 ≤ sq p ∧ sq p < (n : Int)) ∧ (1 ≤ p.2.2.1 ∧ p.2.2.1 ≤ 65536) ∧ (0 ≤ key p ∧ key p ≤ 67108864)

theorem ok_stays (n : Nat) : Stays (okP n) (fun _ => false) := ⟨fun _ _ h _ => h, fun _ _ h => (by cases h), fun _ h => h.2⟩

theorem ok_goes (n : Nat) (h : H10) : Goes (okP n) (okP n) (limH h) := ⟨fun p t hp ht => by
  have hs := span_bd (n := p.2.2.1) (limH_ok h).r
  have hd := (limH_ok h).d
  obtain ⟨a, b, c, d⟩ := hp
  refine ⟨a, b, ?_⟩
  simp only [arr, key] at c d ht ⊢
  omega⟩

theorem eo_false (l : List Pk) : EO (fun _ => false) l := List.pairwise_of_forall (fun _ _ h => by cases h)

theorem ok_keeps {n : Nat} {rows : List PD} {now : List Pk} (I : RI n rows now) (h : H10) (D : List Int) : HK (okP n) (okP n) (fun _ => false) now (passH D h now) :=
  hop_keeps (ok_stays n) (ok_goes n h) D (by have := I.now60; omega) I.ok (eo_false now)

/-- The rows behind a hop. -/
def rowsH (k : Int) (rows : List PD) (w : Wd) : List PD := note (k + 1) (note 0 rows w.out) w.lost

theorem RI_step {n : Nat} {rows : List PD} {now : List Pk} (I : RI n rows now) (h : H10) (D : List Int) (k : Int) : RI n (rowsH k rows (passH D h now)) (passH D h now).out := by
  have H := ok_keeps I h D
  have hlen := H.len
  refine ⟨by rw [rowsH, note_length, note_length]; exact I.len, I.n60, by have := I.now60; omega, H.out, fun i => by have := H.cn i; have := I.one i; omega, ?_⟩
  intro i hi
  have hc := H.cn i
  have h1 := I.one i
  obtain ⟨p, hp, rfl⟩ := mem_cnt hi
  have hi0 := (H.out p hp).1
  rw [rowsH, note_other]
  · exact note_lo _ (I.lost0 _ (by omega))
  · intro q hq e
    have hq0 := (H.lost q hq).1
    have : sq q = sq p := by omega
    have := cnt_mem hq
    rw [‹sq q = sq p›] at this
    omega

theorem RI_seq {n : Nat} {rows : List PD} {now : List Pk} (I : RI n rows now) (h : H10) (D : List Int) : SeqIn rows.length (passH D h now).out ∧ SeqIn rows.length (passH D h now).lost ∧ (∀ p ∈ (passH D h now).out, lo (rows.getD (sq p).toNat pd0) = 0) ∧ (passH D h now).out.length ≤ 60 ∧ (passH D h now).lost.length ≤ 60 := by
  have H := ok_keeps I h D
  have hlen := H.len
  have h60 := I.now60
  rw [I.len]
  refine ⟨fun p hp => (H.out p hp).1, fun p hp => (H.lost p hp).1, fun p hp => I.lost0 _ ?_, by omega, by omega⟩
  have := H.cn (sq p)
  have := cnt_mem hp
  omega

/-- Hops, one behind the other. -/
def runR : List HOP → Int → List PD → List Pk → List PD
  | [], _, rows, _ => rows
  | h :: hs, k, rows, now => runR hs (k + 1) (rowsH k rows (passH h.2 h.1 now)) (passH h.2 h.1 now).out

theorem drop_get {hs : List HOP} {k : Nat} (h : k < hs.length) : hs.drop k = hs.getD k hop0 :: hs.drop (k + 1) := by
  rw [List.drop_eq_getElem_cons h]
  simp [List.getD_eq_getElem?_getD, h]

theorem hop_mem {hs : List HOP} {k : Nat} (h : k < hs.length) : hs.getD k hop0 ∈ hs := by
  simp [List.getD_eq_getElem?_getD, h]

theorem run_loop (N : Nat) (hN : vast < N) (hs : List HOP) (hD : ∀ h ∈ hs, DOK h.2) (hl : hs.length ≤ 100) {n : Nat} : ∀ (m M k : Nat) (rows : List PD) (now : List Pk), k + m = hs.length → m < M → RI n rows now →
    iter (W.chain_Run_L13 N) M (((hs.length : Int), ((k : Int), ())), ((), (now, (hs, (rows, ()))))) = some ((), ((), (runR (hs.drop k) (k : Int) rows now, ())))
  | _, 0, _, _, _, _, hm, _ => absurd hm (Nat.not_lt_zero _)
  | 0, M + 1, k, rows, now, hk, _, I => by
    have c0 : ¬ (k : Int) < (hs.length : Int) := by omega
    rw [List.drop_of_length_le (by omega)]
    simp only [iter, W.chain_Run_L13, c0, decide_false, cond_false, runR]
  | m + 1, M + 1, k, rows, now, hk, hm, I => by
    have hN' := hN
    simp only [vast] at hN'
    have c0 : (k : Int) < (hs.length : Int) := by omega
    have hh := hD _ (hop_mem (show k < hs.length by omega))
    obtain ⟨s1, s2, s3, l1, l2⟩ := RI_seq I (hs.getD k hop0).1 (hs.getD k hop0).2
    have e := Pass_eq N hN hh (hs.getD k hop0).1 now (by have := I.now60; omega)
    have e1 : IntKind.wrap .i64 ((k : Int) + 1) = ((k + 1 : Nat) : Int) := wN (by omega) (by omega)
    have n1 := run1_eq N (by omega) 0 rows _ (by omega) s1
    have n2 := run1_eq N (by omega) ((k + 1 : Nat) : Int) (note 0 rows (passH (hs.getD k hop0).2 (hs.getD k hop0).1 now).out) (passH (hs.getD k hop0).2 (hs.getD k hop0).1 now).lost (by omega) (by rw [note_length]; exact s2)
    have ih := run_loop N hN hs hD hl m M (k + 1) _ _ (by omega) (by omega) (RI_step I (hs.getD k hop0).1 (hs.getD k hop0).2 (k : Int))
    have er : ∀ F, W.chain_Run_L13 N F (((hs.length : Int), ((k : Int), ())), ((), (now, (hs, (rows, ()))))) = F (((hs.length : Int), (((k + 1 : Nat) : Int), ())), ((), ((passH (hs.getD k hop0).2 (hs.getD k hop0).1 now).out, (hs, (rowsH (k : Int) rows (passH (hs.getD k hop0).2 (hs.getD k hop0).1 now), ()))))) := fun F => by
      simp only [W.chain_Run_L13, c0, Int.natCast_nonneg, decide_true, Bool.and_true, cond_true, Int.toNat_natCast, e, Option.bind_some, n1, e1, n2, rowsH]
      rfl
    rw [iter, er, ih, drop_get (show k < hs.length by omega), runR]
    rfl

end Go.Proofs.YtgjmfljogaanfaaGreat.Pure
