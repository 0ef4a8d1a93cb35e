/- Stable sorting of packets by their times, as lists: insertion, merging, blocks. -/
import Derived.Test.YtgjmfljogaanfaaGreatPRing
namespace Go.Proofs.YtgjmfljogaanfaaGreat.Pure
open Go.Ev Go.RowKit

abbrev key (p : Pk) : Int := p.2.2.2.2

abbrev pk0 : Pk := z5

def ins (p : Pk) : List Pk → List Pk
  | [] => [p]
  | q :: l => if key q ≤ key p then q :: ins p l else p :: q :: l

def isort (l : List Pk) : List Pk := l.foldl (fun s p => ins p s) []

def Srt (l : List Pk) : Prop := l.Pairwise fun a b => key a ≤ key b

def mrg : List Pk → List Pk → List Pk
  | [], B => B
  | a :: A, [] => a :: A
  | a :: A, b :: B => if key b < key a then b :: mrg (a :: A) B else a :: mrg A (b :: B)
  termination_by A B => A.length + B.length

theorem mrg_nil (A : List Pk) : mrg A [] = A := by cases A <;> simp [mrg]

theorem ins_length (p : Pk) : ∀ l : List Pk, (ins p l).length = l.length + 1
  | [] => rfl
  | q :: l => by unfold ins; split <;> simp [ins_length p l]

theorem isort_snoc (l : List Pk) (p : Pk) : isort (l ++ [p]) = ins p (isort l) := by simp [isort]

theorem isort_length (l : List Pk) : (isort l).length = l.length := by
  have : ∀ (l s : List Pk), (l.foldl (fun s p => ins p s) s).length = s.length + l.length := by
    intro l
    induction l with
    | nil => intro s; simp
    | cons p l ih => intro s; simp only [List.foldl_cons, ih, ins_length, List.length_cons]; omega
  simpa [isort] using this l []

theorem mem_ins {p q : Pk} : ∀ {l : List Pk}, q ∈ ins p l → q = p ∨ q ∈ l
  | [], h => by simp [ins] at h; exact .inl h
  | r :: l, h => by
    unfold ins at h
    split at h
    · simp only [List.mem_cons] at h ⊢
      rcases h with h | h
      · exact .inr (.inl h)
      · exact (mem_ins h).imp id .inr
    · simp only [List.mem_cons] at h ⊢
      exact h

theorem srt_ins (p : Pk) : ∀ {l : List Pk}, Srt l → Srt (ins p l)
  | [], _ => by simp [ins, Srt]
  | q :: l, h => by
    have h' := List.pairwise_cons.1 h
    unfold ins
    split
    · rename_i hq
      refine List.pairwise_cons.2 ⟨fun r hr => ?_, srt_ins p h'.2⟩
      rcases mem_ins hr with rfl | hr
      · exact hq
      · exact h'.1 r hr
    · rename_i hq
      refine List.pairwise_cons.2 ⟨fun r hr => ?_, h⟩
      simp only [List.mem_cons] at hr
      rcases hr with rfl | hr
      · omega
      · have := h'.1 r hr; omega

theorem srt_isort (l : List Pk) : Srt (isort l) := by
  have : ∀ (l s : List Pk), Srt s → Srt (l.foldl (fun s p => ins p s) s) := by
    intro l
    induction l with
    | nil => intro s h; exact h
    | cons p l ih => intro s h; exact ih _ (srt_ins p h)
  exact this l [] List.Pairwise.nil

/-- What is greater stays behind. -/
theorem ins_gt {p q : Pk} (h : key p < key q) : ∀ l : List Pk, ins p (l ++ [q]) = ins p l ++ [q]
  | [] => by simp only [List.nil_append, ins]; rw [if_neg (by omega)]; rfl
  | r :: l => by
    simp only [List.cons_append, ins]
    split
    · rw [ins_gt h l]; rfl
    · rfl

theorem ins_le {p : Pk} : ∀ {l : List Pk}, (∀ q, q ∈ l → key q ≤ key p) → ins p l = l ++ [p]
  | [], _ => rfl
  | r :: l, h => by
    unfold ins
    rw [if_pos (h r (by simp)), ins_le fun q hq => h q (by simp [hq])]
    rfl

theorem ins_split (p : Pk) : ∀ (A B : List Pk), (∀ q, q ∈ A → key q ≤ key p) → (∀ q, B.head? = some q → key p < key q) → ins p (A ++ B) = A ++ p :: B
  | [], [], _, _ => rfl
  | [], b :: B, _, h => by
    simp only [List.nil_append, ins]
    rw [if_neg (by have := h b rfl; omega)]
  | a :: A, B, h, h' => by
    simp only [List.cons_append, ins]
    rw [if_pos (h a (by simp)), ins_split p A B (fun q hq => h q (by simp [hq])) h']

theorem mrg_one (p : Pk) : ∀ A : List Pk, mrg A [p] = ins p A
  | [] => by simp [mrg, ins]
  | a :: A => by
    unfold mrg ins
    by_cases h : key p < key a
    · rw [if_pos h, if_neg (by omega), mrg_nil]
    · rw [if_neg h, if_pos (by omega), mrg_one p A]

theorem mrg_ins (p : Pk) (A B : List Pk) : mrg A (ins p B) = ins p (mrg A B) := by
  fun_induction mrg A B with
  | case1 B => simp [mrg]
  | case2 a A =>
    simp only [ins]
    exact mrg_one p (a :: A)
  | case3 a A b B h ih =>
    simp only [ins]
    by_cases hb : key b ≤ key p
    · rw [if_pos hb, if_pos hb, mrg, if_pos h, ih]
    · rw [if_neg hb, if_neg hb, mrg, if_pos (by omega), mrg, if_pos h]
  | case4 a A b B h ih =>
    by_cases ha : key a ≤ key p
    · rw [show ins p (a :: mrg A (b :: B)) = a :: ins p (mrg A (b :: B)) by rw [ins, if_pos ha]]
      rw [← ih]
      simp only [ins]
      by_cases hb : key b ≤ key p
      · rw [if_pos hb, mrg, if_neg h]
      · rw [if_neg hb, mrg, if_neg (by omega)]
    · rw [show ins p (a :: mrg A (b :: B)) = p :: a :: mrg A (b :: B) by rw [ins, if_neg ha]]
      simp only [ins]
      rw [if_neg (by omega), mrg, if_pos (by omega), mrg, if_neg h]

theorem mrg_isort (X : List Pk) : ∀ n (Y : List Pk), Y.length = n → mrg (isort X) (isort Y) = isort (X ++ Y)
  | 0, Y, h => by
    obtain rfl := List.eq_nil_of_length_eq_zero h
    simp [isort, mrg_nil]
  | n + 1, Y, h => by
    have hne : Y ≠ [] := by rintro rfl; simp at h
    obtain ⟨Z, z, rfl⟩ : ∃ Z z, Y = Z ++ [z] := ⟨_, _, (List.dropLast_concat_getLast hne).symm⟩
    rw [isort_snoc, mrg_ins, mrg_isort X n Z (by simpa using h), ← List.append_assoc, isort_snoc]

theorem mrg_isort' (X Y : List Pk) : mrg (isort X) (isort Y) = isort (X ++ Y) := mrg_isort X _ Y rfl

theorem mrg_length (A B : List Pk) : (mrg A B).length = A.length + B.length := by
  fun_induction mrg A B with
  | case1 B => simp
  | case2 a A => simp
  | case3 a A b B h ih => simp only [List.length_cons, ih]; omega
  | case4 a A b B h ih => simp only [List.length_cons, ih]; omega

/-- Merged in two parts, if what stands in front is not greater than what stands behind. -/
theorem mrg_split (A1 A2 B1 B2 : List Pk) (h1 : ∀ a, a ∈ A2 → ∀ b, b ∈ B1 → key b < key a) (h2 : ∀ a, a ∈ A1 → ∀ b, b ∈ B2 → key a ≤ key b) : mrg (A1 ++ A2) (B1 ++ B2) = mrg A1 B1 ++ mrg A2 B2 := by
  fun_induction mrg A1 B1 with
  | case1 B =>
    simp only [List.nil_append]
    induction B with
    | nil => rfl
    | cons b B ih =>
      cases A2 with
      | nil => simp [mrg]
      | cons a A =>
        rw [List.cons_append, mrg, if_pos (h1 a (by simp) b (by simp)), ih fun x hx y hy => h1 x hx y (by simp [hy])]
        rfl
  | case2 a A =>
    simp only [List.nil_append]
    have : ∀ A : List Pk, (∀ a, a ∈ A → ∀ b, b ∈ B2 → key a ≤ key b) → mrg (A ++ A2) B2 = A ++ mrg A2 B2 := by
      intro A
      induction A with
      | nil => intro _; rfl
      | cons x A ih =>
        intro h
        cases B2 with
        | nil => simp [mrg_nil]
        | cons b B =>
          rw [List.cons_append, mrg, if_neg (by have := h x (by simp) b (by simp); omega), ih fun y hy z hz => h y (by simp [hy]) z hz]
          rfl
    exact this (a :: A) h2
  | case3 a A b B h ih =>
    rw [List.cons_append, List.cons_append, mrg, if_pos h]
    have := ih (fun x hx y hy => h1 x hx y (by simp [hy])) h2
    rw [List.cons_append] at this
    rw [this]; rfl
  | case4 a A b B h ih =>
    rw [List.cons_append, List.cons_append, mrg, if_neg h]
    have := ih h1 (fun x hx y hy => h2 x (by simp [hx]) y hy)
    rw [List.cons_append] at this
    rw [this]; rfl

/-- Sorted block by block. -/
def csort (s : Nat) (l : List Pk) : List Pk := if h : 0 < s ∧ s ≤ l.length then isort (l.take s) ++ csort s (l.drop s) else isort l
  termination_by l.length
  decreasing_by simp; omega

theorem csort_lt {s : Nat} {l : List Pk} (h : l.length < s) : csort s l = isort l := by unfold csort; rw [dif_neg (by omega)]

theorem csort_le {s : Nat} {l : List Pk} (h : l.length ≤ s) : csort s l = isort l := by
  unfold csort
  split
  · rename_i hh
    have : l.length = s := by omega
    rw [List.drop_eq_nil_of_le (by omega), List.take_of_length_le (by omega), csort_lt (by simp; omega)]
    simp [isort]
  · rfl

theorem csort_block {s : Nat} (hs : 0 < s) {C R : List Pk} (h : C.length = s) : csort s (C ++ R) = isort C ++ csort s R := by
  rw [csort, dif_pos ⟨hs, by simp; omega⟩, ← h, List.take_left, List.drop_left]

theorem csort_length (s : Nat) (l : List Pk) : (csort s l).length = l.length := by
  fun_induction csort s l with
  | case1 l h ih => rw [List.length_append, ih, isort_length, List.length_take, List.length_drop]; omega
  | case2 l _ => exact isort_length l

/-- Two elements change places. -/
theorem swap2 {U V W : List Pk} {x y : Pk} {i j : Nat} (hi : i = U.length) (hj : j = U.length + 1 + V.length) : ((U ++ x :: V ++ y :: W).set i y).set j x = U ++ y :: V ++ x :: W := by
  subst hi
  have h1 : (U ++ x :: V ++ y :: W).set U.length y = U ++ y :: V ++ y :: W := by
    rw [List.append_assoc, List.set_append_right _ _ (Nat.le_refl _), Nat.sub_self]
    simp
  rw [h1]
  rw [List.set_append_right _ _ (by simp; omega)]
  have : j - (U ++ y :: V).length = 0 := by simp; omega
  rw [this]
  rfl

theorem getA {U W : List Pk} {x : Pk} {i : Nat} (hi : i = U.length) : (U ++ x :: W).getD i pk0 = x := by
  subst hi
  simp

theorem getB {U V W : List Pk} {x y : Pk} {j : Nat} (hj : j = U.length + 1 + V.length) : (U ++ x :: V ++ y :: W).getD j pk0 = y := by
  refine getA (U := U ++ x :: V) ?_
  simp; omega

theorem getA2 {U V W : List Pk} {x y : Pk} {i : Nat} (hi : i = U.length) : (U ++ x :: V ++ y :: W).getD i pk0 = x := by
  rw [List.append_assoc, List.cons_append]
  exact getA hi

theorem swapG {U V W : List Pk} {x y : Pk} {i j : Nat} (hi : i = U.length) (hj : j = U.length + 1 + V.length) :
    ((U ++ x :: V ++ y :: W).set i ((U ++ x :: V ++ y :: W).getD j pk0)).set j ((U ++ x :: V ++ y :: W).getD i pk0) = U ++ y :: V ++ x :: W := by
  rw [getA2 hi, getB hj, swap2 hi hj]

theorem swapG' {U V W : List Pk} {x y : Pk} {i j : Nat} (hi : i = U.length) (hj : j = U.length + 1 + V.length) :
    ((U ++ x :: V ++ y :: W).set j ((U ++ x :: V ++ y :: W).getD i pk0)).set i ((U ++ x :: V ++ y :: W).getD j pk0) = U ++ y :: V ++ x :: W := by
  rw [getA2 hi, getB hj, List.set_comm _ _ (by omega), swap2 hi hj]

end Go.Proofs.YtgjmfljogaanfaaGreat.Pure
