/- The arguments of a law, opened: what they are as data; and that they read behind the call as before. -/
import Derived.Test.YtgjmfljogaanfaaGreatEvM
import Derived.WalkKit
import Derived.ProofKit
import Derived.OpenShut
import Derived.ShutString
import Derived.ChangeOld
import Derived.SizedLaws
import Derived.Carry
import Derived.Deep.Slices
namespace Go.Ev
open Go.ChangeShapes Go.WideShapes Go.ChangeAt Go.RowKit
open Go.ChangeMaps (open_string shut_string)

/-- The range of a scalar. -/
def SK.wf : (s : SK) → s.T → Prop
  | .int k, n => k.min ≤ n ∧ n ≤ k.max
  | .bool, _ => True
  | .str, s => s.size ≤ maxLen
def Row.wf : (sh : List SK) → Row sh → Prop
  | [], _ => True
  | [s], x => s.wf x
  | s :: a :: t, x => s.wf x.1 ∧ Row.wf (a :: t) x.2

/-- The scalars that a type's cells are. -/
def flatFs (P : Program) (flat : TypeId → Option (List SK)) : List Field → Nat → Option (List SK)
  | [], _ => some []
  | f :: fs, off =>
    (flat f.type).bind fun s1 => if f.offset = off ∧ s1.length = P.cellsOf f.type then (flatFs P flat fs (off + s1.length)).map fun s2 => s1 ++ s2 else none
def flatSh (P : Program) : Nat → TypeId → Option (List SK)
  | 0, _ => none
  | d + 1, t =>
    match P.underlying t with
    | some (.int k) => some [.int k]
    | some .bool => some [.bool]
    | some .string => some [.str]
    | some (.struct fs) => (flatFs P (flatSh P d) fs.toList 0).bind fun sh => if sh.length = P.cellsOf t then some sh else none
    | some (.array n e) => (flatSh P d e).bind fun s1 => if s1.length = P.cellsOf e ∧ n * s1.length = P.cellsOf t then some ((List.replicate n s1).flatten) else none
    | _ => none

def Fits (s : SK) (v : Value) : Prop := ∃ x : s.T, v = s.val x ∧ s.wf x
theorem row_of_fits : ∀ {sh : List SK} {cs : List Value}, All2 Fits sh cs → ∃ r : Row sh, cs = Row.vals sh r ∧ Row.wf sh r
  | [], _, h => by cases h; exact ⟨(), rfl, trivial⟩
  | [s], _, h => by
    cases h with | cons r a => cases a; obtain ⟨x, rfl, hx⟩ := r; exact ⟨x, rfl, hx⟩
  | s :: a :: t, _, h => by
    cases h with | cons r q =>
      obtain ⟨x, rfl, hx⟩ := r
      obtain ⟨y, rfl, hy⟩ := row_of_fits q
      exact ⟨(x, y), rfl, hx, hy⟩

section
variable {H : Type} {enc : TypeId × Value → H} {P : Program} {w : World} {base : Nat} {spare : Nat → Bool} {held : Bool}
theorem mapM_each {α β : Type} {f : α → Option β} : ∀ {l : List α} {r : List β}, l.mapM f = some r → ∀ a, a ∈ l → ∃ b, f a = some b
  | [], _, _, a, h => by cases h
  | x :: l, r, h, a, ha => by
    simp only [List.mapM_cons, Option.bind_eq_bind, Option.bind_eq_some_iff] at h
    obtain ⟨b, hb, _, hbs, _⟩ := h
    simp only [List.mem_cons] at ha
    rcases ha with rfl | ha
    · exact ⟨b, hb⟩
    · exact mapM_each hbs a ha
theorem take_add' {α : Type} (l : List α) (a b : Nat) : l.take (a + b) = l.take a ++ (l.drop a).take b := by
  rw [List.take_add]
theorem flatFs_fits {flat : TypeId → Option (List SK)} {cs : List Value} {tr : TypeId → List Value → Option (DataW H × List MemPlace)}
    (ih : ∀ t sh cs x, flat t = some sh → tr t cs = some x → All2 Fits sh cs) : ∀ (fs : List Field) (off : Nat) (sh : List SK), flatFs P flat fs off = some sh →
    (∀ f, f ∈ fs → ∃ x, tr f.type ((cs.drop f.offset).take (P.cellsOf f.type)) = some x) → All2 Fits sh ((cs.drop off).take sh.length)
  | [], off, sh, h, _ => by simp [flatFs] at h; subst h; exact .nil
  | f :: fs, off, sh, h, hx => by
    simp only [flatFs, Option.bind_eq_some_iff] at h
    obtain ⟨s1, h1, h⟩ := h
    split at h <;> first | cases h; done | skip
    rename_i he
    rw [Option.map_eq_some_iff] at h
    obtain ⟨s2, h2, rfl⟩ := h
    obtain ⟨rfl, hl⟩ := he
    obtain ⟨x, hxx⟩ := hx f (by simp)
    rw [List.length_append, take_add', List.drop_drop]
    have a1 := ih _ _ _ _ h1 hxx
    rw [← hl] at a1
    exact a1.append (flatFs_fits ih fs _ s2 h2 fun g hg => hx g (by simp [hg]))
theorem flatArr_fits {s1 : List SK} : ∀ (n : Nat) (cs : List Value), (∀ i, i < n → All2 Fits s1 ((cs.drop (i * s1.length)).take s1.length)) → All2 Fits ((List.replicate n s1).flatten) (cs.take (n * s1.length))
  | 0, cs, _ => by simp; exact .nil
  | n + 1, cs, h => by
    rw [List.replicate_succ, List.flatten_cons, Nat.add_mul, Nat.one_mul, Nat.add_comm, take_add']
    refine (by simpa using h 0 (by omega)) |> fun a => All2.append a (flatArr_fits n (cs.drop s1.length) fun i hi => ?_)
    have := h (i + 1) (by omega)
    rw [List.drop_drop]
    rwa [Nat.add_mul, Nat.one_mul, Nat.add_comm] at this
theorem flatSh_fits : ∀ (d : Nat) (fuel : Nat) (t : TypeId) (sh : List SK) (cs : List Value) (x : DataW H × List MemPlace), flatSh P d t = some sh → DataW.trod enc P w base spare held fuel t cs = some x → All2 Fits sh cs
  | 0, _, _, _, _, _, h, _ => by simp [flatSh] at h
  | d + 1, 0, _, _, _, _, _, h => by simp [DataW.trod] at h
  | d + 1, fuel + 1, t, sh, cs, x, h, hx => by
    simp only [flatSh] at h
    split at h
    · rename_i k hu
      obtain rfl := Option.some.inj h
      obtain ⟨n, rfl, _, hw⟩ := DataW.trod_int hu hx
      simp only [Lit.wf, Bool.and_eq_true, decide_eq_true_eq] at hw
      exact .cons ⟨n, rfl, hw⟩ .nil
    · rename_i hu
      obtain rfl := Option.some.inj h
      obtain ⟨b, rfl, _⟩ := DataW.trod_bool hu hx
      exact .cons ⟨b, rfl, trivial⟩ .nil
    · rename_i hu
      obtain rfl := Option.some.inj h
      obtain ⟨s, rfl, _, hs⟩ := DataW.trod_string hu hx
      exact .cons ⟨s, rfl, hs⟩ .nil
    · rename_i fs hu
      rw [Option.bind_eq_some_iff] at h
      obtain ⟨sh', h1, h2⟩ := h
      split at h2 <;> first | cases h2; done | skip
      rename_i hl
      obtain rfl := Option.some.inj h2
      simp only [DataW.trod, hu] at hx
      split at hx <;> first | cases hx; done | skip
      rename_i hlen
      rw [Option.map_eq_some_iff] at hx
      obtain ⟨xs, hxs, _⟩ := hx
      have := flatFs_fits (P := P) (cs := cs) (fun t sh cs x h1 h2 => flatSh_fits d fuel t sh cs x h1 h2) fs.toList 0 sh' h1 (mapM_each hxs)
      rw [List.drop_zero, hl, ← hlen, List.take_length] at this
      exact this
    · rename_i n e hu
      rw [Option.bind_eq_some_iff] at h
      obtain ⟨s1, h1, h2⟩ := h
      split at h2 <;> first | cases h2; done | skip
      rename_i hl
      obtain rfl := Option.some.inj h2
      simp only [DataW.trod, hu] at hx
      split at hx <;> first | cases hx; done | skip
      rename_i hlen
      rw [Option.map_eq_some_iff] at hx
      obtain ⟨xs, hxs, _⟩ := hx
      have := flatArr_fits (s1 := s1) n cs fun i hi => by
        obtain ⟨y, hy⟩ := mapM_each hxs i (List.mem_range.2 hi)
        rw [← hl.1] at hy
        exact flatSh_fits d fuel e s1 _ _ h1 hy
      rw [hl.2, ← hlen, List.take_length] at this
      exact this
    · cases h

/-- What a law's arguments are. -/
def argOK (P : Program) (t : TypeId) : RPat → Bool
  | .sc (.int k) => (match P.underlying t with | some (.int k') => decide (k = k') | _ => false)
  | .sc .bool => (match P.underlying t with | some .bool => true | _ => false)
  | .sc .str => (match P.underlying t with | some .string => true | _ => false)
  | .agg sh => (match P.underlying t with | some (.struct _) | some (.array _ _) => flatSh P 5 t == some sh | _ => false)
  | .aggs sh e2 sh2 => (match P.underlying t with
    | some (.struct fs) => (match fs.toList.getLast? with
      | some f => (match P.underlying f.type with
        | some (.slice e2') => decide (e2' = e2) && flatFs P (flatSh P 5) fs.toList.dropLast 0 == some sh && decide (f.offset = sh.length) && decide (P.cellsOf f.type = 1) && decide (P.cellsOf t = sh.length + 1) && flatSh P 5 e2 == some sh2 && decide (0 < sh2.length) && decide (sh2.length = P.cellsOf e2)
        | _ => false)
      | none => false)
    | _ => false)
  | .mix e e2 sh sh2 => (match P.underlying t, P.underlying e with
    | some (.slice e'), some (.struct fs) => (match fs.toList.getLast? with
      | some f => (match P.underlying f.type with
        | some (.slice e2') => decide (e' = e) && decide (e2' = e2) && flatFs P (flatSh P 5) fs.toList.dropLast 0 == some sh && decide (f.offset = sh.length) && decide (P.cellsOf f.type = 1) && decide (P.cellsOf e = sh.length + 1) && flatSh P 5 e2 == some sh2 && decide (0 < sh2.length) && decide (sh2.length = P.cellsOf e2)
        | _ => false)
      | none => false)
    | _, _ => false)
  | .row e sh => (match P.underlying t with | some (.slice e') => decide (e' = e) && flatSh P 5 e == some sh && decide (0 < sh.length) && decide (sh.length = P.cellsOf e) | _ => false)
def RPat.wf : (r : RPat) → r.T → Prop
  | .sc s, x => s.wf x
  | .agg sh, x => Row.wf sh x
  | .row _ sh, xs => xs.length ≤ maxLen ∧ ∀ x, x ∈ xs → Row.wf sh x
  | .aggs sh _ sh2, x => Row.wf sh x.1 ∧ x.2.length ≤ maxLen ∧ ∀ y, y ∈ x.2 → Row.wf sh2 y
  | .mix _ _ sh sh2, xs => xs.length ≤ maxLen ∧ ∀ x, x ∈ xs → Row.wf sh x.1 ∧ x.2.length ≤ maxLen ∧ ∀ y, y ∈ x.2 → Row.wf sh2 y
def RT.wf : (rs : List RPat) → RT rs → Prop
  | [], _ => True
  | [r], x => r.wf x
  | r :: a :: t, x => r.wf x.1 ∧ RT.wf (a :: t) x.2
def encA1 (key : Nat) : (r : RPat) → r.T → AV × Option AB
  | .sc s, x => (s.toAV x, none)
  | .agg sh, x => (.agg (Row.toAVs sh x), none)
  | .row e sh, xs => (.sl key, some (.ext e sh xs))
  | .mix e e2 sh sh2, xs => (.sl key, some (.mixe e e2 sh sh2 xs))
  | .aggs sh e2 sh2, x => (.agg (Row.toAVs sh x.1 ++ [.sl key]), some (.ext e2 sh2 x.2))
def encA : Nat → (rs : List RPat) → RT rs → List AV × List AB
  | _, [], _ => ([], [])
  | key, [r], x => ([(encA1 key r x).1], (encA1 key r x).2.toList)
  | key, r :: a :: t, x =>
    ((encA1 key r x.1).1 :: (encA (key + (encA1 key r x.1).2.toList.length) (a :: t) x.2).1,
     (encA1 key r x.1).2.toList ++ (encA (key + (encA1 key r x.1).2.toList.length) (a :: t) x.2).2)

theorem cells_of_cells? {w : World} {base : Nat} {a : Addr} {n : Nat} {cs : List Value} (h : w.cells? base a n = some cs) : cs.length = n ∧ ∀ i, i < n → w.cell? (a.add i) = cs[i]? := (World.cells?_some h).2

theorem flat_rows {sh : List SK} {w : World} {a : Addr} {R : Nat → Row sh} : ∀ (n : Nat), (∀ i, i < n → ∀ j u, (Row.vals sh (R i))[j]? = some u → w.cell? ((a.add (i * sh.length)).add j) = some u) →
    ∀ j u, (flat sh ((List.range n).map R))[j]? = some u → w.cell? (a.add j) = some u
  | 0, _, j, u, h => by simp [flat] at h
  | n + 1, hh, j, u, h => by
    rw [List.range_succ, List.map_append, flat_append] at h
    rw [List.getElem?_append] at h
    split at h
    · exact flat_rows n (fun i hi => hh i (by omega)) j u h
    · rename_i hlt
      rw [flat_length, List.length_map, List.length_range] at hlt h
      have e : flat sh (List.map R [n]) = Row.vals sh (R n) := by simp [flat]
      rw [e] at h
      have := hh n (by omega) _ u h
      rw [Go.Ev.add_add] at this
      rwa [show n * sh.length + (j - n * sh.length) = j by omega] at this

/-- A slice of scalars' rows, read. -/
theorem open_rows {t e : TypeId} {sh : List SK} {fuel : Nat} {cs : List Value} {x : DataW H × List MemPlace} (hu : P.underlying t = some (.slice e)) (hsh : flatSh P 5 e = some sh) (hl : 0 < sh.length) (hc : sh.length = P.cellsOf e)
    (hf : DataW.trod enc P w 0 (fun _ => true) held fuel t cs = some x) : ∃ v, ∃ xs : List (Row sh), cs = [v] ∧ xs.length ≤ maxLen ∧ (∀ y, y ∈ xs → Row.wf sh y) ∧ ExtR w (Old w) sh xs v := by
  rcases Go.Deep.open_slice hu hf with ⟨hcs, _⟩ | ⟨a', len, cap, m, n, D, Pl, hcs, _, hlc, hm, hmm, _, hx⟩
  · exact ⟨_, [], hcs, Nat.zero_le _, fun x hx => by (cases hx), none, 0, rfl, Nat.le_refl _, fun j u hu => by simp [flat] at hu⟩
  · simp only [if_true] at hmm
    subst hmm
    have each : ∀ i, i < len → ∃ x : Row sh, Row.wf sh x ∧ a'.block < w.heap.size ∧ ∀ j u, (Row.vals sh x)[j]? = some u → w.cell? ((a'.add (i * sh.length)).add j) = some u := by
      intro i hi
      obtain ⟨cs', h1, h2⟩ := hx i (by omega)
      obtain ⟨x, hxx, hw⟩ := row_of_fits (flatSh_fits 5 n _ sh _ _ hsh h2)
      have hb := World.cells?_block h1 (by omega)
      rw [add_block] at hb
      obtain ⟨h3, h4⟩ := cells_of_cells? h1
      refine ⟨x, hw, hb, fun j u hj => ?_⟩
      subst hxx
      have hjl : j < sh.length := by have := (List.getElem?_eq_some_iff.1 hj).1; rwa [Row.length_vals] at this
      rw [← hj, ← h4 j (by omega), hc]
    have hch : ∃ R : Nat → Row sh, ∀ i, i < len → Row.wf sh (R i) ∧ a'.block < w.heap.size ∧ ∀ j u, (Row.vals sh (R i))[j]? = some u → w.cell? ((a'.add (i * sh.length)).add j) = some u := by
      classical
      exact ⟨fun i => if hi : i < len then Classical.choose (each i hi) else Row.dflt sh, fun i hi => by
        simp only [dif_pos hi]; exact Classical.choose_spec (each i hi)⟩
    obtain ⟨R, hR⟩ := hch
    refine ⟨_, (List.range len).map R, hcs, by simp; omega, fun x hx => ?_, some a', m, by simp, by simpa using hlc, fun j u hu => ?_⟩
    · simp only [List.mem_map, List.mem_range] at hx
      obtain ⟨i, hi, rfl⟩ := hx
      exact (hR i hi).1
    · refine ⟨a', rfl, flat_rows len (fun i hi => (hR i hi).2.2) j u hu, ?_⟩
      have : 0 < len := by
        rcases Nat.eq_zero_or_pos len with rfl | h
        · simp [flat] at hu
        · exact h
      exact (add_block a' j).symm ▸ (hR 0 this).2.1
/-- Rows that end with slices, read. -/
theorem flatten_cells {w : World} {a : Addr} {s : Nat} {U : Nat → List Value} (hs : ∀ i, (U i).length = s) : ∀ (n : Nat), (∀ i, i < n → ∀ j u, (U i)[j]? = some u → w.cell? ((a.add (i * s)).add j) = some u) →
    ∀ j u, (((List.range n).map U).flatten)[j]? = some u → w.cell? (a.add j) = some u
  | 0, _, j, u, h => by simp at h
  | n + 1, hh, j, u, h => by
    rw [List.range_succ, List.map_append, List.flatten_append, List.getElem?_append] at h
    have hl : (((List.range n).map U).flatten).length = n * s := by
      rw [flatten_len (s := s) _ (fun r hr => by simp only [List.mem_map, List.mem_range] at hr; obtain ⟨i, _, rfl⟩ := hr; exact hs i)]
      simp
    split at h
    · exact flatten_cells hs n (fun i hi => hh i (by omega)) j u h
    · rename_i hlt
      rw [hl] at hlt h
      have e : (([n] : List Nat).map U).flatten = U n := by simp
      rw [e] at h
      have := hh n (by omega) _ u h
      rw [Go.Ev.add_add] at this
      rwa [show n * s + (j - n * s) = j by omega] at this
theorem open_one {e e2 : TypeId} {sh sh2 : List SK} {fs : Array Field} {f : Field} {n : Nat} {cs' : List Value} {z : DataW H × List MemPlace} (he : P.underlying e = some (.struct fs)) (hlast : fs.toList.getLast? = some f)
    (hfs : flatFs P (flatSh P 5) fs.toList.dropLast 0 = some sh) (hoff : f.offset = sh.length) (hf1 : P.cellsOf f.type = 1) (hce : P.cellsOf e = sh.length + 1) (hu2 : P.underlying f.type = some (.slice e2))
    (hsh2 : flatSh P 5 e2 = some sh2) (hl2 : 0 < sh2.length) (hc2 : sh2.length = P.cellsOf e2) (h3 : cs'.length = P.cellsOf e)
    (h2 : DataW.trod enc P w 0 (fun _ => true) held n e cs' = some z) : ∃ r : Row sh, ∃ xs : List (Row sh2), ∃ v, Row.wf sh r ∧ xs.length ≤ maxLen ∧ (∀ z, z ∈ xs → Row.wf sh2 z) ∧ cs' = Row.vals sh r ++ [v] ∧ ExtR w (Old w) sh2 xs v := by
  have hdl : fs.toList = fs.toList.dropLast ++ [f] := by
    cases hd : fs.toList with
    | nil => rw [hd] at hlast; cases hlast
    | cons a l =>
      rw [hd] at hlast
      have h1 := List.getLast?_eq_some_getLast (l := a :: l) (by simp)
      rw [hlast] at h1
      have h2 := Option.some.inj h1
      rw [h2]
      exact (List.dropLast_concat_getLast (by simp)).symm
  cases n with
  | zero => simp [DataW.trod] at h2
  | succ n =>
  simp only [DataW.trod, he] at h2
  rw [if_pos h3, Option.map_eq_some_iff] at h2
  obtain ⟨ys, hys, _⟩ := h2
  have hall := mapM_each hys
  have h5 := flatFs_fits (P := P) (cs := cs') (fun t sh cs x h1 h2 => flatSh_fits 5 n t sh cs x h1 h2) fs.toList.dropLast 0 sh hfs (fun g hg => hall g (by rw [hdl]; exact List.mem_append_left _ hg))
  rw [List.drop_zero] at h5
  obtain ⟨r, hr1, hr2⟩ := row_of_fits h5
  obtain ⟨z, hz⟩ := hall f (by rw [hdl]; simp)
  obtain ⟨v, xs, hv1, hv2, hv3, hv4⟩ := open_rows hu2 hsh2 hl2 hc2 hz
  rw [hoff, hf1] at hv1
  have hcs' : cs' = Row.vals sh r ++ [v] := by
    rw [← hr1, ← hv1]
    rw [List.take_of_length_le (l := cs'.drop sh.length) (by rw [List.length_drop]; omega)]
    exact (List.take_append_drop _ _).symm
  exact ⟨r, xs, v, hr2, hv2, hv3, hcs', hv4⟩
theorem open_mix {t e e2 : TypeId} {sh sh2 : List SK} {fs : Array Field} {f : Field} {fuel : Nat} {cs : List Value} {x : DataW H × List MemPlace} (hu : P.underlying t = some (.slice e)) (he : P.underlying e = some (.struct fs)) (hlast : fs.toList.getLast? = some f)
    (hfs : flatFs P (flatSh P 5) fs.toList.dropLast 0 = some sh) (hoff : f.offset = sh.length) (hf1 : P.cellsOf f.type = 1) (hce : P.cellsOf e = sh.length + 1) (hu2 : P.underlying f.type = some (.slice e2))
    (hsh2 : flatSh P 5 e2 = some sh2) (hl2 : 0 < sh2.length) (hc2 : sh2.length = P.cellsOf e2)
    (hf : DataW.trod enc P w 0 (fun _ => true) held fuel t cs = some x) : ∃ v, ∃ xs : List (Row sh × List (Row sh2)), cs = [v] ∧ xs.length ≤ maxLen ∧ (∀ y, y ∈ xs → Row.wf sh y.1 ∧ y.2.length ≤ maxLen ∧ ∀ z, z ∈ y.2 → Row.wf sh2 z) ∧
      ∃ us, All2 (MixR w (Old w) sh sh2) xs us ∧ KeptR w (Old w) v us.length us.flatten := by
  rcases Go.Deep.open_slice hu hf with ⟨hcs, _⟩ | ⟨a', len, cap, m, n, D, Pl, hcs, _, hlc, hm, hmm, _, hx⟩
  · exact ⟨_, [], hcs, Nat.zero_le _, fun x hx => by (cases hx), [], .nil, none, 0, rfl, Nat.le_refl _, fun j u hu => by simp at hu⟩
  · simp only [if_true] at hmm
    subst hmm
    have each : ∀ i, i < len → ∃ y : (Row sh × List (Row sh2)) × List Value, (Row.wf sh y.1.1 ∧ y.1.2.length ≤ maxLen ∧ ∀ z, z ∈ y.1.2 → Row.wf sh2 z) ∧ y.2.length = sh.length + 1 ∧ MixR w (Old w) sh sh2 y.1 y.2 ∧ a'.block < w.heap.size ∧ ∀ j u, (y.2)[j]? = some u → w.cell? ((a'.add (i * (sh.length + 1))).add j) = some u := by
      intro i hi
      obtain ⟨cs', h1, h2⟩ := hx i (by omega)
      have hb := World.cells?_block h1 (by omega)
      rw [add_block] at hb
      obtain ⟨h3, h4⟩ := cells_of_cells? h1
      obtain ⟨r, xs, v, hr2, hv2, hv3, hcs', hv4⟩ := open_one he hlast hfs hoff hf1 hce hu2 hsh2 hl2 hc2 h3 h2
      refine ⟨((r, xs), cs'), ⟨hr2, hv2, hv3⟩, by rw [h3, hce], ⟨v, hcs', hv4⟩, hb, fun j u hj => ?_⟩
      have hjl := (List.getElem?_eq_some_iff.1 hj).1
      rw [← hce, h4 j (by rw [← h3]; exact hjl)]; exact hj
    have hch : ∃ R : Nat → (Row sh × List (Row sh2)) × List Value, (∀ i, ((R i).2).length = sh.length + 1) ∧ ∀ i, i < len → (Row.wf sh (R i).1.1 ∧ (R i).1.2.length ≤ maxLen ∧ ∀ z, z ∈ (R i).1.2 → Row.wf sh2 z) ∧ MixR w (Old w) sh sh2 (R i).1 (R i).2 ∧ a'.block < w.heap.size ∧ ∀ j u, ((R i).2)[j]? = some u → w.cell? ((a'.add (i * (sh.length + 1))).add j) = some u := by
      classical
      refine ⟨fun i => if hi : i < len then Classical.choose (each i hi) else ((Row.dflt sh, []), List.replicate (sh.length + 1) undef), fun i => ?_, fun i hi => ?_⟩
      · by_cases hi : i < len
        · simp only [dif_pos hi]; exact (Classical.choose_spec (each i hi)).2.1
        · simp only [dif_neg hi]; simp
      · simp only [dif_pos hi]
        have := Classical.choose_spec (each i hi)
        exact ⟨this.1, this.2.2⟩
    obtain ⟨R, hR0, hR⟩ := hch
    refine ⟨_, (List.range len).map fun i => (R i).1, hcs, by simp; omega, fun x hx => ?_, (List.range len).map fun i => (R i).2, All2.of_map fun i hi => (hR i (List.mem_range.1 hi)).2.1, some a', m, by simp, by simpa using hlc, fun j u hu => ?_⟩
    · simp only [List.mem_map, List.mem_range] at hx
      obtain ⟨i, hi, rfl⟩ := hx
      exact (hR i hi).1
    · refine ⟨a', rfl, flatten_cells hR0 len (fun i hi => (hR i hi).2.2.2) j u hu, ?_⟩
      have : 0 < len := by
        rcases Nat.eq_zero_or_pos len with rfl | h
        · simp at hu
        · exact h
      exact (add_block a' j).symm ▸ (hR 0 this).2.2.1

/-- An argument as data. -/
theorem open_arg {t : TypeId} {r : RPat} {v : Value} {dd : DataW H} {ps : List MemPlace} {b0 : Nat} (hk : argOK P t r = true) (hval : Value.okWide P w .any b0 t v) (h : DataW.Trod enc P w 0 (fun _ => true) held t v dd ps) :
    ∃ x : r.T, r.wf x ∧ ((∀ key, (encA1 key r x).2 = none ∧ ∀ ρ, VR ρ (encA1 key r x).1 v) ∨
      ∃ u, ∀ key, ∃ b, (encA1 key r x).2 = some b ∧ (∀ rv, ownB b rv = none) ∧ ∀ ρ : Ren, ρ key = some (.sv u) → VR ρ (encA1 key r x).1 v ∧ HB w (Old w) ρ b (.sv u)) := by
  cases r with
  | sc s =>
    cases s with
    | int k =>
      simp only [argOK] at hk
      split at hk <;> first | cases hk; done | skip
      rename_i hu
      obtain rfl := of_decide_eq_true hk
      obtain ⟨n, rfl, _, _, hw⟩ := open_int hu hval h
      simp only [Lit.wf, Bool.and_eq_true, decide_eq_true_eq] at hw
      exact ⟨n, hw, .inl fun key => ⟨rfl, fun ρ => rfl⟩⟩
    | bool =>
      simp only [argOK] at hk
      split at hk <;> first | cases hk; done | skip
      rename_i hu
      obtain ⟨b, rfl, _⟩ := open_bool hu hval h
      exact ⟨b, trivial, .inl fun key => ⟨rfl, fun ρ => rfl⟩⟩
    | str =>
      simp only [argOK] at hk
      split at hk <;> first | cases hk; done | skip
      rename_i hu
      obtain ⟨b, rfl, _, _, hs⟩ := open_string hu hval h
      exact ⟨b, hs, .inl fun key => ⟨rfl, fun ρ => rfl⟩⟩
  | agg sh =>
    simp only [argOK] at hk
    have hagg : ∃ cs, v = .agg cs ∧ flatSh P 5 t = some sh := by
      split at hk <;> first | cases hk; done | skip
      · rename_i fs hu
        simp only [Value.okWide, hu] at hval
        obtain ⟨cs, h1, _⟩ := hval
        exact ⟨cs, h1, by simpa using hk⟩
      · rename_i n e hu
        simp only [Value.okWide, hu] at hval
        obtain ⟨cs, h1, _⟩ := hval
        exact ⟨cs, h1, by simpa using hk⟩
    obtain ⟨cs, rfl, hsh⟩ := hagg
    obtain ⟨fuel, hf⟩ := h
    obtain ⟨x, hx, hw⟩ := row_of_fits (flatSh_fits 5 fuel t sh _ _ hsh hf)
    refine ⟨x, hw, .inl fun key => ⟨rfl, fun ρ => ⟨cs, rfl, ?_⟩⟩⟩
    have : cs.toList = Row.vals sh x := hx
    rw [this]; exact Row.rel ρ sh x
  | row e sh =>
    simp only [argOK] at hk
    split at hk <;> first | cases hk; done | skip
    rename_i e' hu
    simp only [Bool.and_eq_true, decide_eq_true_eq, beq_iff_eq] at hk
    obtain ⟨⟨⟨rfl, hsh⟩, hl⟩, hc⟩ := hk
    obtain ⟨a, len, cap, rfl⟩ := okWide_slice hu hval
    obtain ⟨fuel, hf⟩ := h
    rcases Go.Deep.open_slice hu hf with ⟨hcs, _⟩ | ⟨a', len', cap', m, n, D, Pl, hcs, _, hlc, hm, hmm, _, hx⟩
    · simp [Value.cells] at hcs
      obtain ⟨rfl, rfl, rfl⟩ := hcs
      exact ⟨[], ⟨Nat.zero_le _, fun x hx => by cases hx⟩, .inr ⟨_, fun key => ⟨_, rfl, (fun rv => by cases rv <;> rfl), fun ρ hρ => ⟨⟨hρ, _, _, _, rfl⟩, hl, none, 0, rfl, Nat.le_refl _, fun j u hu => by simp [flat] at hu⟩⟩⟩⟩
    · simp [Value.cells] at hcs
      obtain ⟨rfl, rfl, rfl⟩ := hcs
      simp only [if_true] at hmm
      subst hmm
      have each : ∀ i, i < len → ∃ x : Row sh, Row.wf sh x ∧ a'.block < w.heap.size ∧ ∀ j u, (Row.vals sh x)[j]? = some u → w.cell? ((a'.add (i * sh.length)).add j) = some u := by
        intro i hi
        obtain ⟨cs', h1, h2⟩ := hx i (by omega)
        obtain ⟨x, hxx, hw⟩ := row_of_fits (flatSh_fits 5 n _ sh _ _ hsh h2)
        have hb := World.cells?_block h1 (by omega)
        rw [add_block] at hb
        obtain ⟨h3, h4⟩ := cells_of_cells? h1
        refine ⟨x, hw, hb, fun j u hj => ?_⟩
        subst hxx
        have hjl : j < sh.length := by have := (List.getElem?_eq_some_iff.1 hj).1; rwa [Row.length_vals] at this
        rw [← hj, ← h4 j (by omega), hc]
      have hch : ∃ R : Nat → Row sh, ∀ i, i < len → Row.wf sh (R i) ∧ a'.block < w.heap.size ∧ ∀ j u, (Row.vals sh (R i))[j]? = some u → w.cell? ((a'.add (i * sh.length)).add j) = some u := by
        classical
        exact ⟨fun i => if hi : i < len then Classical.choose (each i hi) else Row.dflt sh, fun i hi => by
          simp only [dif_pos hi]; exact Classical.choose_spec (each i hi)⟩
      obtain ⟨R, hR⟩ := hch
      refine ⟨(List.range len).map R, ⟨by simp; omega, fun x hx => ?_⟩, .inr ⟨_, fun key => ⟨_, rfl, (fun rv => by cases rv <;> rfl), fun ρ hρ => ⟨⟨hρ, _, _, _, rfl⟩, hl, some a', m, by simp, by simpa using hlc, fun j u hu => ?_⟩⟩⟩⟩
      · simp only [List.mem_map, List.mem_range] at hx
        obtain ⟨i, hi, rfl⟩ := hx
        exact (hR i hi).1
      · refine ⟨a', rfl, flat_rows len (fun i hi => (hR i hi).2.2) j u hu, ?_⟩
        have : 0 < len := by
          rcases Nat.eq_zero_or_pos len with rfl | h
          · simp [flat] at hu
          · exact h
        exact (add_block a' j).symm ▸ (hR 0 this).2.1
  | mix e e2 sh sh2 =>
    simp only [argOK] at hk
    split at hk <;> first | cases hk; done | skip
    rename_i e' fs hu he
    split at hk <;> first | cases hk; done | skip
    rename_i f hlast
    split at hk <;> first | cases hk; done | skip
    rename_i e2' hu2
    simp only [Bool.and_eq_true, decide_eq_true_eq, beq_iff_eq] at hk
    obtain ⟨⟨⟨⟨⟨⟨⟨⟨rfl, rfl⟩, hfs⟩, hoff⟩, hf1⟩, hce⟩, hsh2⟩, hl2⟩, hc2⟩ := hk
    obtain ⟨a, len, cap, rfl⟩ := okWide_slice hu hval
    obtain ⟨fuel, hf⟩ := h
    obtain ⟨v, xs, hcs, h1, h2, us, h3, h4⟩ := open_mix hu he hlast hfs hoff hf1 hce hu2 hsh2 hl2 hc2 hf
    simp [Value.cells] at hcs
    subst hcs
    exact ⟨xs, ⟨h1, h2⟩, .inr ⟨_, fun key => ⟨_, rfl, (fun rv => by cases rv <;> rfl), fun ρ hρ => ⟨⟨hρ, _, _, _, rfl⟩, hl2, us, h3, h4⟩⟩⟩⟩
  | aggs sh e2 sh2 =>
    simp only [argOK] at hk
    split at hk <;> first | cases hk; done | skip
    rename_i fs he
    split at hk <;> first | cases hk; done | skip
    rename_i f hlast
    split at hk <;> first | cases hk; done | skip
    rename_i e2' hu2
    simp only [Bool.and_eq_true, decide_eq_true_eq, beq_iff_eq] at hk
    obtain ⟨⟨⟨⟨⟨⟨⟨rfl, hfs⟩, hoff⟩, hf1⟩, hce⟩, hsh2⟩, hl2⟩, hc2⟩ := hk
    have hval2 := hval
    simp only [Value.okWide, he] at hval2
    obtain ⟨cs, rfl, _⟩ := hval2
    obtain ⟨fuel, hf⟩ := h
    have hlen : (Value.agg cs).cells.toList.length = P.cellsOf t := by
      cases fuel with
      | zero => simp [DataW.trod] at hf
      | succ fuel =>
        simp only [DataW.trod, he] at hf
        split at hf
        · rename_i hl; exact hl
        · cases hf
    obtain ⟨r, xs, v, h1, h2, h3, h4, h5⟩ := open_one he hlast hfs hoff hf1 hce hu2 hsh2 hl2 hc2 hlen hf
    have h4' : cs.toList = Row.vals sh r ++ [v] := h4
    refine ⟨(r, xs), ⟨h1, h2, h3⟩, .inr ⟨v, fun key => ⟨_, rfl, (fun rv => by cases rv <;> rfl), fun ρ hρ => ⟨⟨cs, rfl, ?_⟩, hl2, h5⟩⟩⟩⟩
    rw [h4']
    refine (Row.rel ρ sh r).append (.cons ⟨hρ, ?_⟩ .nil)
    obtain ⟨a, c, e, _⟩ := h5
    exact ⟨_, _, _, e⟩
end
end Go.Ev
