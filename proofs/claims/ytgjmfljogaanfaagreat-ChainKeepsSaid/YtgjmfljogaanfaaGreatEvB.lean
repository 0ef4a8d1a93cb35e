/- The relation between abstract states and the machine's: values, heap; what keeps it. -/
import Derived.Test.YtgjmfljogaanfaaGreatEvA
import Derived.Below
namespace Go.Ev
open Go.RowKit

inductive RV where
  | blk (b : Nat)
  | sv (v : Value)

abbrev Ren := Nat → Option RV
def Ren.set (ρ : Ren) (key : Nat) (r : RV) : Ren := fun k => if k = key then some r else ρ k
def Ren.le (ρ ρ' : Ren) : Prop := ∀ k r, ρ k = some r → ρ' k = some r
theorem Ren.le_refl (ρ : Ren) : ρ.le ρ := fun _ _ h => h
theorem Ren.le_trans {a b c : Ren} (h : a.le b) (h' : b.le c) : a.le c := fun k r e => h' k r (h k r e)
theorem Ren.le_set (ρ : Ren) (key : Nat) (r : RV) (h : ρ key = none) : ρ.le (ρ.set key r) := by
  intro k r' hk
  unfold Ren.set
  split
  · rename_i e; rw [e, h] at hk; cases hk
  · exact hk
theorem Ren.set_same (ρ : Ren) (key : Nat) (r : RV) : ρ.set key r key = some r := by simp [Ren.set]
theorem Ren.set_other (ρ : Ren) (key k : Nat) (r : RV) (h : k ≠ key) : ρ.set key r k = ρ k := by simp [Ren.set, h]

def SK.val : (s : SK) → s.T → Value
  | .int k, n => .int k n
  | .bool, b => .bool b
  | .str, s => .string s
def Row.vals : (sh : List SK) → Row sh → List Value
  | [], _ => []
  | [s], x => [s.val x]
  | s :: a :: t, x => s.val x.1 :: Row.vals (a :: t) x.2
def flat (sh : List SK) (xs : List (Row sh)) : List Value := xs.flatMap (Row.vals sh)

def PtrR (ρ : Ren) (k o : Nat) (v : Value) : Prop := ∃ b, ρ k = some (.blk b) ∧ v = .pointer (some ⟨b, o, none⟩)
inductive All2 {α β : Type} (R : α → β → Prop) : List α → List β → Prop
  | nil : All2 R [] []
  | cons {a b as bs} : R a b → All2 R as bs → All2 R (a :: as) (b :: bs)

/-- A function's value. -/
def fnV (g : Nat) (cv : Array Value) : Value := if g < 1000000 then .func (.func g) #[] cv else .func (.func (g - 1000000)) cv #[]
theorem fnV_lt {g : Nat} (h : g < 1000000) (cv : Array Value) : fnV g cv = .func (.func g) #[] cv := by rw [fnV, if_pos h]
theorem fnV_is (g : Nat) (cv : Array Value) : ∃ b c, fnV g cv = .func (.func (fnG g)) b c := by
  unfold fnV fnG
  split
  · exact ⟨_, _, rfl⟩
  · exact ⟨_, _, rfl⟩
/-- One cell's value. -/
def LR (ρ : Ren) : AV → Value → Prop
  | .junk, v => v.oneCell' = true
  | .int k n, v => v = .int k n
  | .bool b, v => v = .bool b
  | .str s, v => v = .string s
  | .nilptr, v => v = .pointer none
  | .nilsl, v => v = .slice none 0 0
  | .nilfn, v => v = .nilFunc
  | .ptr k o, v => PtrR ρ k o v
  | .elt k i sz c, v => ∃ ad n cp, ρ k = some (.sv (.slice (some ad) n cp)) ∧ i < n ∧ v = .pointer (some (ad.add (i * sz + c)))
  | .sl k, v => ρ k = some (.sv v) ∧ ∃ a n c, v = .slice a n c
  | .fn f caps, v => ∃ cv, v = fnV f cv ∧ All2 (fun x u => PtrR ρ x.1 x.2 u) caps cv.toList
  | .agg _, _ => False
  | .tup _, _ => False
/-- A value, but for tuples. -/
def VR1 (ρ : Ren) : AV → Value → Prop
  | .junk, _ => True
  | .agg cs, v => ∃ c, v = .agg c ∧ All2 (LR ρ) cs c.toList
  | x, v => LR ρ x v
def VR (ρ : Ren) : AV → Value → Prop
  | .tup vs, v => ∃ c, v = .tuple c ∧ All2 (VR1 ρ) vs c.toList
  | x, v => VR1 ρ x v

namespace All2
variable {α β : Type} {R R' : α → β → Prop}
theorem mono (h : ∀ a b, R a b → R' a b) {l m} (a : All2 R l m) : All2 R' l m := by
  induction a with
  | nil => exact .nil
  | cons x _ ih => exact .cons (h _ _ x) ih
theorem length {l m} (a : All2 R l m) : l.length = m.length := by
  induction a with
  | nil => rfl
  | cons _ _ ih => simp [ih]
theorem append {l m l' m'} (a : All2 R l m) (b : All2 R l' m') : All2 R (l ++ l') (m ++ m') := by
  induction a with
  | nil => exact b
  | cons x _ ih => exact .cons x ih
theorem drop {l m} (a : All2 R l m) (n : Nat) : All2 R (l.drop n) (m.drop n) := by
  induction a generalizing n with
  | nil => simp; exact .nil
  | cons x a ih => cases n with
    | zero => exact .cons x a
    | succ n => simpa using ih n
theorem take {l m} (a : All2 R l m) (n : Nat) : All2 R (l.take n) (m.take n) := by
  induction a generalizing n with
  | nil => simp; exact .nil
  | cons x a ih => cases n with
    | zero => exact .nil
    | succ n => simpa using .cons x (ih n)
theorem get {l m} (a : All2 R l m) {i : Nat} {x : α} (h : l[i]? = some x) : ∃ y, m[i]? = some y ∧ R x y := by
  induction a generalizing i with
  | nil => simp at h
  | cons r a ih => cases i with
    | zero => simp at h; subst h; exact ⟨_, by simp, r⟩
    | succ i => simp at h; obtain ⟨y, hy, hr⟩ := ih h; exact ⟨y, by simpa using hy, hr⟩
theorem get' {l m} (a : All2 R l m) {i : Nat} {y : β} (h : m[i]? = some y) : ∃ x, l[i]? = some x ∧ R x y := by
  induction a generalizing i with
  | nil => simp at h
  | cons r a ih => cases i with
    | zero => simp at h; subst h; exact ⟨_, by simp, r⟩
    | succ i => simp at h; obtain ⟨y, hy, hr⟩ := ih h; exact ⟨y, by simpa using hy, hr⟩
theorem set {l m} (a : All2 R l m) (i : Nat) {x : α} {y : β} (h : R x y) : All2 R (l.set i x) (m.set i y) := by
  induction a generalizing i with
  | nil => exact .nil
  | cons r a ih => cases i with
    | zero => exact .cons h a
    | succ i => exact .cons r (ih i)
theorem replicate {x : α} {y : β} (h : R x y) (n : Nat) : All2 R (List.replicate n x) (List.replicate n y) := by
  induction n with
  | zero => exact .nil
  | succ n ih => exact .cons h ih
theorem of_map {γ : Type _} {l : List γ} {f : γ → α} {g : γ → β} (h : ∀ x, x ∈ l → R (f x) (g x)) : All2 R (l.map f) (l.map g) := by
  induction l with
  | nil => exact .nil
  | cons x l ih => exact .cons (h x (by simp)) (ih fun y hy => h y (by simp [hy]))
theorem splice {l m : List α} {l' m' : List β} (a : All2 R l l') (b : All2 R m m') (off : Nat) :
    All2 R (l.take off ++ m ++ l.drop (off + m.length)) (l'.take off ++ m' ++ l'.drop (off + m'.length)) := by
  rw [b.length]; exact ((a.take off).append b).append (a.drop _)
end All2

theorem PtrR.mono {ρ ρ' : Ren} (h : ρ.le ρ') {k o v} (r : PtrR ρ k o v) : PtrR ρ' k o v := by
  obtain ⟨b, hb, hv⟩ := r; exact ⟨b, h _ _ hb, hv⟩
theorem LR.mono {ρ ρ' : Ren} (h : ρ.le ρ') {x v} (r : LR ρ x v) : LR ρ' x v := by
  cases x <;> first | exact r | skip
  case ptr k o => exact PtrR.mono h r
  case elt k i sz c => obtain ⟨ad, n, cp, h1, h2⟩ := r; exact ⟨ad, n, cp, h _ _ h1, h2⟩
  case sl k => exact ⟨h _ _ r.1, r.2⟩
  case fn f caps => obtain ⟨cv, h1, h2⟩ := r; exact ⟨cv, h1, h2.mono fun _ _ => PtrR.mono h⟩
theorem VR1_leaf {ρ : Ren} {x v} (hl : x.leaf = true) : VR1 ρ x v = LR ρ x v := by
  cases x <;> first | rfl | exact absurd hl (by simp [AV.leaf])
theorem VR_leaf {ρ : Ren} {x v} (hl : x.leaf = true) : VR ρ x v = LR ρ x v := by
  cases x <;> first | rfl | exact absurd hl (by simp [AV.leaf])
theorem VR_VR1 {ρ : Ren} {x v} (hx : ∀ l, x ≠ .tup l) : VR ρ x v = VR1 ρ x v := by
  cases x <;> first | rfl | exact absurd rfl (hx _)
theorem VR1.mono {ρ ρ' : Ren} (h : ρ.le ρ') {x v} (r : VR1 ρ x v) : VR1 ρ' x v := by
  by_cases hl : x.leaf = true
  · rw [VR1_leaf hl] at r ⊢; exact LR.mono h r
  cases x <;> first | trivial | exact absurd rfl hl | skip
  obtain ⟨c, h1, h2⟩ := r; exact ⟨c, h1, h2.mono fun _ _ => LR.mono h⟩
theorem VR.mono {ρ ρ' : Ren} (h : ρ.le ρ') {x v} (r : VR ρ x v) : VR ρ' x v := by
  cases x
  case tup vs => obtain ⟨c, h1, h2⟩ := r; exact ⟨c, h1, h2.mono fun _ _ => VR1.mono h⟩
  all_goals
    rw [VR_VR1 (fun _ e => by cases e)] at r ⊢
    exact VR1.mono h r
theorem LR.one {ρ : Ren} {x v} (r : LR ρ x v) : v.oneCell' = true := by
  cases x <;> simp only [LR] at r <;> first | exact r | (subst r; rfl) | skip
  case ptr => obtain ⟨b, _, rfl⟩ := r; rfl
  case elt => obtain ⟨_, _, _, _, _, rfl⟩ := r; rfl
  case sl => obtain ⟨_, _, _, _, rfl⟩ := r; rfl
  case fn => obtain ⟨_, rfl, _⟩ := r; obtain ⟨_, _, e⟩ := fnV_is _ _; rw [e]; rfl
theorem VR1.of_LR {ρ : Ren} {x v} (r : LR ρ x v) : VR1 ρ x v := by
  cases x <;> first | exact r | trivial | exact r.elim
theorem VR.of_LR {ρ : Ren} {x v} (r : LR ρ x v) : VR ρ x v := by
  cases x <;> first | exact r | trivial | exact r.elim
theorem VR.of_VR1 {ρ : Ren} {x v} (hx : ∀ l, x ≠ .tup l) (r : VR1 ρ x v) : VR ρ x v := by
  cases x <;> first | exact r | exact absurd rfl (hx _)
/-- The cells of a value that is no tuple, and no junk. -/
theorem VR.cells {ρ : Ren} {x : AV} {v : Value} (r : VR ρ x v) (hl : x.cells.all AV.leaf = true) : All2 (LR ρ) x.cells v.cells.toList := by
  cases x <;> simp only [AV.cells, List.all_cons, List.all_nil, AV.leaf, Bool.and_true, Bool.false_eq_true] at hl ⊢ <;> simp only [VR, VR1, LR] at r
  case agg cs => obtain ⟨c, rfl, h2⟩ := r; exact h2
  case ptr => obtain ⟨b, hb, rfl⟩ := r; exact .cons ⟨b, hb, rfl⟩ .nil
  case elt => obtain ⟨a, n, c, h1, h2, rfl⟩ := r; exact .cons ⟨a, n, c, h1, h2, rfl⟩ .nil
  case sl => obtain ⟨h, a, n, c, rfl⟩ := r; exact .cons ⟨h, a, n, c, rfl⟩ .nil
  case fn =>
    obtain ⟨h, rfl, h2⟩ := r
    obtain ⟨b1, c1, e⟩ := fnV_is _ h
    rw [e]
    exact .cons ⟨h, e.symm, h2⟩ .nil
  all_goals (subst r; exact .cons rfl .nil)
theorem VR.cells' {ρ : Ren} {x : AV} {v : Value} (r : VR ρ x v) (hj : x ≠ .junk) (ht : ∀ l, x ≠ .tup l) : All2 (LR ρ) x.cells v.cells.toList := by
  cases x
  case junk => exact absurd rfl hj
  case tup l => exact absurd rfl (ht l)
  case agg cs => obtain ⟨c, rfl, h2⟩ := r; exact h2
  all_goals exact VR.cells r (by simp [AV.cells, AV.leaf])

/-- Rows as abstract cells and as values. -/
theorem Row.rel (ρ : Ren) : ∀ (sh : List SK) (x : Row sh), All2 (LR ρ) (Row.toAVs sh x) (Row.vals sh x)
  | [], _ => .nil
  | [s], x => by cases s <;> exact .cons rfl .nil
  | s :: a :: t, x => by
    have ih := Row.rel ρ (a :: t) x.2
    cases s <;> exact .cons rfl ih
theorem Row.length_toAVs : ∀ (sh : List SK) (x : Row sh), (Row.toAVs sh x).length = sh.length
  | [], _ => rfl
  | [s], x => rfl
  | s :: a :: t, x => by have := Row.length_toAVs (a :: t) x.2; simpa [Row.toAVs] using this
theorem Row.length_vals : ∀ (sh : List SK) (x : Row sh), (Row.vals sh x).length = sh.length
  | [], _ => rfl
  | [s], x => rfl
  | s :: a :: t, x => by have := Row.length_vals (a :: t) x.2; simpa [Row.vals] using this
theorem SK.ofAV_some {s : SK} {v : AV} {x : s.T} (h : s.ofAV v = some x) : v = s.toAV x := by
  cases s <;> cases v <;> simp [SK.ofAV] at h
  · obtain ⟨rfl, rfl⟩ := h; rfl
  · subst h; rfl
  · subst h; rfl
theorem Row.ofAVs_some : ∀ {sh : List SK} {l : List AV} {x : Row sh}, Row.ofAVs sh l = some x → l = Row.toAVs sh x
  | [], [], _, _ => rfl
  | [], _ :: _, _, h => by simp [Row.ofAVs] at h
  | [s], [v], x, h => by simp [Row.ofAVs] at h; simp [Row.toAVs, SK.ofAV_some h]
  | [s], [], _, h => by simp [Row.ofAVs] at h
  | [s], _ :: _ :: _, _, h => by simp [Row.ofAVs] at h
  | s :: a :: t, [], _, h => by simp [Row.ofAVs] at h
  | s :: a :: t, v :: vs, x, h => by
    simp only [Row.ofAVs, Option.bind_eq_some_iff, Option.some.injEq] at h
    obtain ⟨y, hy, z, hz, rfl⟩ := h
    simp only [Row.toAVs]
    rw [SK.ofAV_some hy, Row.ofAVs_some hz]
/-- Cells that read as a row's are the row's values. -/
theorem LR_toAV_eq {ρ : Ren} {s : SK} {x : s.T} {v : Value} (h : LR ρ (s.toAV x) v) : v = s.val x := by
  cases s <;> exact h
theorem Row.vals_of_rel {ρ : Ren} : ∀ {sh : List SK} {x : Row sh} {l : List Value}, All2 (LR ρ) (Row.toAVs sh x) l → l = Row.vals sh x
  | [], _, _, h => by cases h; rfl
  | [s], x, _, h => by cases h with | cons r a => cases a; simp [Row.vals, LR_toAV_eq r]
  | s :: a :: t, x, _, h => by cases h with | cons r q => simp only [Row.vals]; rw [LR_toAV_eq r, Row.vals_of_rel q]
theorem Row.one : ∀ {sh : List SK} {x : Row sh} {v : Value}, v ∈ Row.vals sh x → v.oneCell' = true
  | [], _, _, h => by simp [Row.vals] at h
  | [s], x, v, h => by simp [Row.vals] at h; subst h; cases s <;> rfl
  | s :: a :: t, x, v, h => by
    simp only [Row.vals, List.mem_cons] at h
    rcases h with rfl | h
    · cases s <;> rfl
    · exact Row.one h
theorem flat_length (sh : List SK) (xs : List (Row sh)) : (flat sh xs).length = xs.length * sh.length := by
  induction xs with
  | nil => simp [flat]
  | cons x xs ih =>
    have : flat sh (x :: xs) = Row.vals sh x ++ flat sh xs := by simp [flat]
    rw [this, List.length_append, Row.length_vals, ih, List.length_cons, Nat.add_mul]; omega
theorem flat_append (sh : List SK) (xs ys : List (Row sh)) : flat sh (xs ++ ys) = flat sh xs ++ flat sh ys := by simp [flat]
theorem flat_cons (sh : List SK) (x : Row sh) (xs : List (Row sh)) : flat sh (x :: xs) = Row.vals sh x ++ flat sh xs := by simp [flat]
theorem flat_one {sh : List SK} {xs : List (Row sh)} {v : Value} (h : v ∈ flat sh xs) : v.oneCell' = true := by
  simp only [flat, List.mem_flatMap] at h
  obtain ⟨x, _, hv⟩ := h
  exact Row.one hv
theorem flat_get (sh : List SK) : ∀ (xs : List (Row sh)) (i j : Nat), i < xs.length → j < sh.length → (flat sh xs)[i * sh.length + j]? = (Row.vals sh (xs.getD i (Row.dflt sh)))[j]?
  | [], i, j, h, _ => by simp at h
  | x :: xs, 0, j, _, hj => by
    rw [flat_cons, List.getElem?_append_left (by rw [Row.length_vals]; omega)]
    simp
  | x :: xs, i + 1, j, h, hj => by
    rw [flat_cons, List.getElem?_append_right (by rw [Row.length_vals, Nat.add_mul]; omega), Row.length_vals]
    have := flat_get sh xs i j (by simpa using h) hj
    have e : (i + 1) * sh.length + j - sh.length = i * sh.length + j := by rw [Nat.add_mul]; omega
    rw [e, this]; simp
theorem flat_set (sh : List SK) : ∀ (xs : List (Row sh)) (i : Nat) (r : Row sh), i < xs.length →
    flat sh (xs.set i r) = (flat sh xs).take (i * sh.length) ++ Row.vals sh r ++ (flat sh xs).drop (i * sh.length + sh.length)
  | [], i, _, h => by simp at h
  | x :: xs, 0, r, _ => by
    simp only [List.set_cons_zero, flat_cons, Nat.zero_mul, List.take_zero, List.nil_append, Nat.zero_add]
    rw [List.drop_left' (Row.length_vals sh x)]
  | x :: xs, i + 1, r, h => by
    have ih := flat_set sh xs i r (by simpa using h)
    simp only [List.set_cons_succ, flat_cons]
    rw [ih]
    have e1 : (i + 1) * sh.length = (Row.vals sh x).length + i * sh.length := by rw [Row.length_vals, Nat.add_mul]; omega
    rw [e1, List.take_length_add_append, Nat.add_assoc, List.drop_length_add_append]
    simp

/-- Blocks that are kept: 'k': what may be read; 'f': the frame, which is not looked at. -/
structure KS where
  k : Nat → Prop
  f : Nat → Prop
  ds : List Deferred
def KS.all (K : KS) (b : Nat) : Prop := K.k b ∨ K.f b
/-- In the blocks of K the world w' is as w was; the streams are as they were; no block has gone. -/
structure Kp (K : KS) (w w' : World) : Prop where
  os : w'.os = w.os
  tape : w'.tape = w.tape
  output : w'.output = w.output
  size : w.heap.size ≤ w'.heap.size
  block : ∀ k, K.all k → w'.heap[k]? = w.heap[k]?
theorem Kp.refl (K : KS) (w : World) : Kp K w w := ⟨rfl, rfl, rfl, Nat.le_refl _, fun _ _ => rfl⟩
theorem Kp.trans {K : KS} {a b c : World} (h : Kp K a b) (k : Kp K b c) : Kp K a c :=
  ⟨k.os.trans h.os, k.tape.trans h.tape, k.output.trans h.output, Nat.le_trans h.size k.size, fun i hi => (k.block i hi).trans (h.block i hi)⟩
/-- Blocks that are kept, among others that are. -/
structure Sub (K K' : KS) : Prop where
  k : ∀ b, K.k b → K'.k b
  f : K'.f = K.f
  new : ∀ b, K'.k b → K.k b ∨ ¬ K.f b
def Le (K K' : KS) : Prop := ∀ b, K.all b → K'.all b
theorem Le.refl (K : KS) : Le K K := fun _ h => h
theorem Le.trans {A B C : KS} (h : Le A B) (k : Le B C) : Le A C := fun b hb => k b (h b hb)
theorem Sub.le {K K' : KS} (h : Sub K K') : Le K K' := fun b hb => hb.imp (h.k b) (fun hf => by rw [h.f]; exact hf)
theorem Sub.refl (K : KS) : Sub K K := ⟨fun _ h => h, rfl, fun _ h => .inl h⟩
theorem Sub.trans {A B C : KS} (h : Sub A B) (k : Sub B C) : Sub A C :=
  ⟨fun b hb => k.k b (h.k b hb), k.f.trans h.f, fun b hb => (k.new b hb).elim (h.new b) fun hf => .inr fun hf' => hf (by rw [h.f]; exact hf')⟩
theorem Kp.mono {K K' : KS} {w w' : World} (h : Kp K w w') (hs : Le K' K) : Kp K' w w' := ⟨h.os, h.tape, h.output, h.size, fun k hk => h.block k (hs k hk)⟩
/-- All blocks of a world. -/
def Old (w : World) : KS := ⟨fun k => k < w.heap.size, fun _ => False, []⟩
theorem Old.all_iff {w : World} {b : Nat} : (Old w).all b ↔ b < w.heap.size := ⟨fun h => h.elim id False.elim, fun h => .inl h⟩
theorem Kp.of_below {w w' : World} (h : Below w.heap.size w w') : Kp (Old w) w w' := ⟨h.os, h.tape, h.output, h.size, fun k hk => h.block k (Old.all_iff.1 hk)⟩
theorem Kp.below {w w' : World} (h : Kp (Old w) w w') : Below w.heap.size w w' := ⟨h.os, h.tape, h.output, h.size, fun k hk => h.block k (Old.all_iff.2 hk)⟩

/-- The block that a row may write: none, where it has no room at all. -/
def rowBlk : Value → Option Nat
  | .slice (some a) _ c => if c = 0 then none else some a.block
  | _ => none
theorem rowBlk_own {v : Value} {g : Nat} (h : rowBlk v = some g) : v.ownBlock = some g := by
  unfold rowBlk at h
  split at h
  · split at h
    · cases h
    · exact h
  · cases h
/-- A row that lies in a block from the cell o on, to the block's end. -/
def ownsRowO (w : World) (e : TypeId) (size : Nat) (v : Value) (n : Nat) (xs : List Value) : Prop :=
  xs.length = n * size ∧
  ((v = .slice none 0 0 ∧ n = 0) ∨
   ∃ g o cap cur, v = .slice (some ⟨g, o, none⟩) n cap ∧ w.heap[g]? = some (.cells cur e (0, 0)) ∧ n ≤ cap ∧ cap ≤ maxLen ∧ cur.size = o + cap * size ∧ (cur.toList.drop o).take (n * size) = xs)
theorem ownsRowO_of {w : World} {b : Nat} {e : TypeId} {size : Nat} {v : Value} {n : Nat} {xs : List Value} (h : w.ownsRow b e size v n xs) : ownsRowO w e size v n xs := by
  refine ⟨h.1, h.2.imp id ?_⟩
  rintro ⟨g, cap, cur, h1, _, h3, h4, h5, h6, h7⟩
  exact ⟨g, 0, cap, cur, h1, h3, h4, h5, by omega, by rw [List.drop_zero]; exact h7⟩
theorem ownsRowO.lt {w : World} {e : TypeId} {size : Nat} {v : Value} {n : Nat} {xs : List Value} (h : ownsRowO w e size v n xs) {g : Nat} (hg : v.ownBlock = some g) : g < w.heap.size := by
  rcases h.2 with ⟨rfl, _⟩ | ⟨g', o, cap, cur, rfl, h3, _⟩
  · cases hg
  · obtain rfl := Option.some.inj hg
    exact (Array.getElem?_eq_some_iff.1 h3).1
/-- A row of the call's own: none of the blocks that are kept. -/
structure Owns (w : World) (K : KS) (e : TypeId) (size : Nat) (v : Value) (n : Nat) (xs : List Value) : Prop where
  row : ownsRowO w e size v n xs ∨ (n = 0 ∧ xs = [] ∧ ∃ a, v = .slice (some a) 0 0)
  own : ∀ g, rowBlk v = some g → ¬ K.all g
theorem Owns.nil (w : World) (K : KS) (e : TypeId) (size : Nat) : Owns w K e size (.slice none 0 0) 0 [] := ⟨.inl (ownsRowO_of (World.ownsRow_nil w 0 e size)), fun g h => by cases h⟩
theorem Owns.none (w : World) (K : KS) (e : TypeId) (size : Nat) (a : Option Addr) : Owns w K e size (.slice a 0 0) 0 [] := by
  cases a with
  | none => exact Owns.nil w K e size
  | some a => exact ⟨.inr ⟨rfl, rfl, a, rfl⟩, fun g h => by simp [rowBlk] at h⟩
theorem Owns.lt {w : World} {K : KS} {e : TypeId} {size : Nat} {v : Value} {n : Nat} {xs : List Value} (h : Owns w K e size v n xs) : ∀ g, rowBlk v = some g → ¬ K.all g ∧ g < w.heap.size := by
  intro g hg
  refine ⟨h.own g hg, ?_⟩
  rcases h.row with h1 | ⟨_, _, a, rfl⟩
  · exact h1.lt (rowBlk_own hg)
  · simp [rowBlk] at hg

/-- A row that lies in blocks that are kept. -/
def ExtR (w : World) (B : KS) (sh : List SK) (xs : List (Row sh)) (v : Value) : Prop := ∃ a c, v = .slice a xs.length c ∧ xs.length ≤ c ∧ (∀ j u, (flat sh xs)[j]? = some u → ∃ ad, a = some ad ∧ w.cell? (ad.add j) = some u ∧ B.k ad.block)
/-- A row that ends with a slice, by its cells. -/
def MixR (w : World) (B : KS) (sh sh2 : List SK) (x : Row sh × List (Row sh2)) (cs : List Value) : Prop := ∃ u, cs = Row.vals sh x.1 ++ [u] ∧ ExtR w B sh2 x.2 u
/-- Cells that lie in blocks that are kept, behind a slice value. -/
def KeptR (w : World) (B : KS) (v : Value) (n : Nat) (cells : List Value) : Prop := ∃ a c, v = .slice a n c ∧ n ≤ c ∧ (∀ j u, cells[j]? = some u → ∃ ad, a = some ad ∧ w.cell? (ad.add j) = some u ∧ B.k ad.block)
/-- A block of the abstract heap, as it lies in the world; own blocks are none of those that are kept, what is only read lies in those. -/
def HB (w : World) (B : KS) (ρ : Ren) : AB → RV → Prop
  | .gone, _ => True
  | .cells cs, .blk b => ¬ B.all b ∧ ∃ c T, w.heap[b]? = some (.cells c T (0, 0)) ∧ All2 (LR ρ) cs c.toList
  | .rcells cs, .blk b => B.k b ∧ ∃ c T, w.heap[b]? = some (.cells c T (0, 0)) ∧ All2 (LR ρ) cs c.toList
  | .rows e sh xs, .sv v => 0 < sh.length ∧ Owns w B e sh.length v xs.length (flat sh xs)
  | .ext _ sh xs, .sv v => 0 < sh.length ∧ ∃ a c, v = .slice a xs.length c ∧ xs.length ≤ c ∧ (∀ j u, (flat sh xs)[j]? = some u → ∃ ad, a = some ad ∧ w.cell? (ad.add j) = some u ∧ B.k ad.block)
  | .nest e _ sh xss, .sv v => 0 < sh.length ∧ ∃ us, All2 (ExtR w B sh) xss us ∧ Owns w B e 1 v us.length us
  | .mix e _ sh sh2 xs, .sv v => 0 < sh2.length ∧ ∃ us, All2 (MixR w B sh sh2) xs us ∧ Owns w B e (sh.length + 1) v us.length us.flatten
  | .mixe _ _ sh sh2 xs, .sv v => 0 < sh2.length ∧ ∃ us, All2 (MixR w B sh sh2) xs us ∧ KeptR w B v us.length us.flatten
  | _, _ => False
/-- The block that is the call's own. -/
def ownB : AB → RV → Option Nat
  | .cells _, .blk b => some b
  | .rows .., .sv v => rowBlk v
  | .nest .., .sv v => rowBlk v
  | .mix .., .sv v => rowBlk v
  | _, _ => none
structure HR (w : World) (B : KS) (ρ : Ren) (h : List AB) : Prop where
  blk : ∀ k b, h[k]? = some b → b = .gone ∨ ∃ r, ρ k = some r ∧ HB w B ρ b r
  sep : ∀ k b k' b' r r' g, k ≠ k' → h[k]? = some b → h[k']? = some b' → ρ k = some r → ρ k' = some r' → ownB b r = some g → ownB b' r' ≠ some g
  fresh : ∀ k, h.length ≤ k → ρ k = none
  base : Le B (Old w)
/-- The same, where more may be kept than was at first. -/
def HX (w : World) (B : KS) (ρ : Ren) (h : List AB) : Prop := ∃ K, Sub B K ∧ HR w K ρ h
theorem HR.x {w : World} {B : KS} {ρ : Ren} {h : List AB} (q : HR w B ρ h) : HX w B ρ h := ⟨B, Sub.refl B, q⟩

structure Rel (B : KS) (W : World) (ρ : Ren) (s : St) (a : Act) (w : World) : Prop where
  len : a.tmps.size = s.tmps.length
  tmps : ∀ i x, s.tmps[i]? = some x → VR ρ x (a.tmps.getD i undef)
  heap : HX w B ρ s.h
  below : Kp B W w
  defers : a.defers = B.ds
end Go.Ev
