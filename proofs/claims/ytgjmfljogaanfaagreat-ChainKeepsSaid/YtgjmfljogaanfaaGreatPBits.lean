/- Numbers by their bits, the lowest first: what the document's long arithmetic comes to. -/
import Derived.Test.YtgjmfljogaanfaaGreatPSat
namespace Go.Proofs.YtgjmfljogaanfaaGreat.Pure
open Go.Ev Go.RowKit

def nv : List Int → Int
  | [] => 0
  | b :: t => b + 2 * nv t

def Bt (l : List Int) : Prop := ∀ x ∈ l, x = 0 ∨ x = 1

theorem Bt.nil : Bt [] := List.forall_mem_nil _

theorem Bt.app {a b : List Int} (ha : Bt a) (hb : Bt b) : Bt (a ++ b) := fun x h => (List.mem_append.1 h).elim (ha x) (hb x)

theorem Bt.one {x : Int} (h : x = 0 ∨ x = 1) : Bt [x] := fun y hy => by simp at hy; subst hy; exact h

theorem Bt.zeros (n : Nat) : Bt (List.replicate n 0) := fun _ h => .inl (List.mem_replicate.1 h).2

theorem Bt.get {l : List Int} (h : Bt l) (i : Nat) : l.getD i 0 = 0 ∨ l.getD i 0 = 1 := by
  by_cases hi : i < l.length
  · have : l.getD i 0 = l[i] := by simp [List.getD, hi]
    rw [this]; exact h _ (List.getElem_mem hi)
  · left; simp [List.getD, Nat.le_of_not_lt hi]

theorem Bt.set {l : List Int} (h : Bt l) (i : Nat) {x : Int} (hx : x = 0 ∨ x = 1) : Bt (l.set i x) := fun y hy => by
  rcases List.mem_or_eq_of_mem_set hy with h1 | h1
  · exact h y h1
  · subst h1; exact hx

theorem nv_app (a b : List Int) : nv (a ++ b) = nv a + 2 ^ a.length * nv b := by
  induction a with
  | nil => simp [nv]
  | cons x t ih => simp only [List.cons_append, nv, ih, List.length_cons, Int.pow_succ]; grind

theorem nv_bd {l : List Int} (h : Bt l) : 0 ≤ nv l ∧ nv l < 2 ^ l.length := by
  induction l with
  | nil => simp [nv]
  | cons x t ih =>
    have h1 := ih fun y hy => h y (List.mem_cons_of_mem _ hy)
    have h2 := h x (List.mem_cons_self)
    simp only [nv, List.length_cons, Int.pow_succ]
    omega

theorem nv_zeros (n : Nat) : nv (List.replicate n 0) = 0 := by
  induction n with
  | zero => rfl
  | succ n ih => simp [List.replicate_succ, nv, ih]

theorem nv_take (l : List Int) (i : Nat) : nv (l.take (i + 1)) = nv (l.take i) + 2 ^ i * l.getD i 0 := by
  by_cases hi : i < l.length
  · rw [List.take_add_one, List.getElem?_eq_getElem hi]
    simp only [Option.toList]
    rw [nv_app]
    simp [nv, List.getD, hi, Nat.min_eq_left (Nat.le_of_lt hi)]
  · have hi' : l.length ≤ i := by omega
    rw [List.take_of_length_le hi', List.take_of_length_le (by omega)]
    simp [List.getD, hi']

theorem nv_drop (l : List Int) (i : Nat) : nv (l.drop i) = l.getD i 0 + 2 * nv (l.drop (i + 1)) := by
  by_cases hi : i < l.length
  · rw [List.drop_eq_getElem_cons hi]
    simp [nv, List.getD, hi]
  · rw [List.drop_eq_nil_of_le (by omega), List.drop_eq_nil_of_le (by omega)]
    simp [nv, List.getD, Nat.le_of_not_lt hi]

theorem nv_split (l : List Int) (i : Nat) (hi : i ≤ l.length) : nv l = nv (l.take i) + 2 ^ i * nv (l.drop i) := by
  conv => lhs; rw [← List.take_append_drop i l]
  rw [nv_app, List.length_take, Nat.min_eq_left hi]

theorem getD_len {l : List Int} {i : Nat} (h : l.length ≤ i) : l.getD i 0 = 0 := by simp [List.getD, h]

theorem nv_dt (l : List Int) (k j : Nat) : nv ((l.drop k).take (j + 1)) = l.getD k 0 + 2 * nv ((l.drop (k + 1)).take j) := by
  by_cases hi : k < l.length
  · have : l.getD k 0 = l[k] := by simp [List.getD, hi]
    rw [List.drop_eq_getElem_cons hi, List.take_succ_cons, this]
    rfl
  · rw [List.drop_eq_nil_of_le (by omega), List.drop_eq_nil_of_le (by omega)]
    simp [nv, List.getD, Nat.le_of_not_lt hi]

theorem nv_low {l : List Int} (h : Bt l) {k : Nat} (hv : nv l < 2 ^ k) : nv (l.take k) = nv l := by
  by_cases hk : k ≤ l.length
  · have j := nv_split l k hk
    have x1 := nv_bd (l := l.take k) (fun y hy => h y (List.mem_of_mem_take hy))
    have x2 := nv_bd (l := l.drop k) (fun y hy => h y (List.mem_of_mem_drop hy))
    have hp := pow_pos' k
    by_cases hz : nv (l.drop k) = 0
    · rw [hz] at j; omega
    · have := Int.mul_le_mul_of_nonneg_left (show 1 ≤ nv (l.drop k) by omega) (show 0 ≤ (2 : Int) ^ k by omega)
      omega
  · rw [List.take_of_length_le (by omega)]

/-- A PRODUCT BY A NUMBER, of the document's answer. -/
def mdv (a b c : Int) (up : Bool) : Int × Int :=
  if a < 0 ∨ b < 0 ∨ c ≤ 0 then (0, 1)
  else
    let q := if up ∧ a * b % c ≠ 0 then a * b / c + 1 else a * b / c
    if 9223372036854775807 < q then (0, 8) else (q, 0)

end Go.Proofs.YtgjmfljogaanfaaGreat.Pure
