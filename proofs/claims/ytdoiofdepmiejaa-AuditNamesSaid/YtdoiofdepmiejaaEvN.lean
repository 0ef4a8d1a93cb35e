/- The arguments of a law, opened: what they are as data; and that they read behind the call as before. -/
import Derived.Test.YtdoiofdepmiejaaEvM
import Derived.WalkKit
import Derived.ProofKit
import Derived.OpenShut
import Derived.ShutString
import Derived.ChangeOld
import Derived.SizedLaws
import Derived.Carry
import Derived.Deep.Slices
namespace Go.Ev
open Go.ChangeShapes Go.WideShapes Go.ChangeAt Go.RowKit
open Go.ChangeMaps (open_string shut_string)

/-- The range of a scalar. -/
def SK.wf : (s : SK) → s.T → Prop
  | .int k, n => k.min ≤ n ∧ n ≤ k.max
  | .bool, _ => True
  | .str, s => s.size ≤ maxLen
def Row.wf : (sh : List SK) → Row sh → Prop
  | [], _ => True
  | [s], x => s.wf x
  | s :: a :: t, x => s.wf x.1 ∧ Row.wf (a :: t) x.2

/-- The scalars that a type's cells are. -/
def flatFs (P : Program) (flat : TypeId → Option (List SK)) : List Field → Nat → Option (List SK)
  | [], _ => some []
  | f :: fs, off =>
    (flat f.type).bind fun s1 => if f.offset = off ∧ s1.length = P.cellsOf f.type then (flatFs P flat fs (off + s1.length)).map fun s2 => s1 ++ s2 else none
def flatSh (P : Program) : Nat → TypeId → Option (List SK)
  | 0, _ => none
  | d + 1, t =>
    match P.underlying t with
    | some (.int k) => some [.int k]
    | some .bool => some [.bool]
    | some .string => some [.str]
    | some (.struct fs) => (flatFs P (flatSh P d) fs.toList 0).bind fun sh => if sh.length = P.cellsOf t then some sh else none
    | some (.array n e) => (flatSh P d e).bind fun s1 => if s1.length = P.cellsOf e ∧ n * s1.length = P.cellsOf t then some ((List.replicate n s1).flatten) else none
    | _ => none

def Fits (s : SK) (v : Value) : Prop := ∃ x : s.T, v = s.val x ∧ s.wf x
theorem row_of_fits : ∀ {sh : List SK} {cs : List Value}, All2 Fits sh cs → ∃ r : Row sh, cs = Row.vals sh r ∧ Row.wf sh r
  | [], _, h => by cases h; exact ⟨(), rfl, trivial⟩
  | [s], _, h => by
    cases h with | cons r a => cases a; obtain ⟨x, rfl, hx⟩ := r; exact ⟨x, rfl, hx⟩
  | s :: a :: t, _, h => by
    cases h with | cons r q =>
      obtain ⟨x, rfl, hx⟩ := r
      obtain ⟨y, rfl, hy⟩ := row_of_fits q
      exact ⟨(x, y), rfl, hx, hy⟩

section
variable {H : Type} {enc : TypeId × Value → H} {P : Program} {w : World} {base : Nat} {spare : Nat → Bool} {held : Bool}
theorem mapM_each {α β : Type} {f : α → Option β} : ∀ {l : List α} {r : List β}, l.mapM f = some r → ∀ a, a ∈ l → ∃ b, f a = some b
  | [], _, _, a, h => by cases h
  | x :: l, r, h, a, ha => by
    simp only [List.mapM_cons, Option.bind_eq_bind, Option.bind_eq_some_iff] at h
    obtain ⟨b, hb, _, hbs, _⟩ := h
    simp only [List.mem_cons] at ha
    rcases ha with rfl | ha
    · exact ⟨b, hb⟩
    · exact mapM_each hbs a ha
theorem take_add' {α : Type} (l : List α) (a b : Nat) : l.take (a + b) = l.take a ++ (l.drop a).take b := by
  rw [List.take_add]
theorem flatFs_fits {flat : TypeId → Option (List SK)} {cs : List Value} {tr : TypeId → List Value → Option (DataW H × List MemPlace)}
    (ih : ∀ t sh cs x, flat t = some sh → tr t cs = some x → All2 Fits sh cs) : ∀ (fs : List Field) (off : Nat) (sh : List SK), flatFs P flat fs off = some sh →
    (∀ f, f ∈ fs → ∃ x, tr f.type ((cs.drop f.offset).take (P.cellsOf f.type)) = some x) → All2 Fits sh ((cs.drop off).take sh.length)
  | [], off, sh, h, _ => by simp [flatFs] at h; subst h; exact .nil
  | f :: fs, off, sh, h, hx => by
    simp only [flatFs, Option.bind_eq_some_iff] at h
    obtain ⟨s1, h1, h⟩ := h
    split at h <;> first | cases h; done | skip
    rename_i he
    rw [Option.map_eq_some_iff] at h
    obtain ⟨s2, h2, rfl⟩ := h
    obtain ⟨rfl, hl⟩ := he
    obtain ⟨x, hxx⟩ := hx f (by simp)
    rw [List.length_append, take_add', List.drop_drop]
    have a1 := ih _ _ _ _ h1 hxx
    rw [← hl] at a1
    exact a1.append (flatFs_fits ih fs _ s2 h2 fun g hg => hx g (by simp [hg]))
theorem flatArr_fits {s1 : List SK} : ∀ (n : Nat) (cs : List Value), (∀ i, i < n → All2 Fits s1 ((cs.drop (i * s1.length)).take s1.length)) → All2 Fits ((List.replicate n s1).flatten) (cs.take (n * s1.length))
  | 0, cs, _ => by simp; exact .nil
  | n + 1, cs, h => by
    rw [List.replicate_succ, List.flatten_cons, Nat.add_mul, Nat.one_mul, Nat.add_comm, take_add']
    refine (by simpa using h 0 (by omega)) |> fun a => All2.append a (flatArr_fits n (cs.drop s1.length) fun i hi => ?_)
    have := h (i + 1) (by omega)
    rw [List.drop_drop]
    rwa [Nat.add_mul, Nat.one_mul, Nat.add_comm] at this
theorem flatSh_fits : ∀ (d : Nat) (fuel : Nat) (t : TypeId) (sh : List SK) (cs : List Value) (x : DataW H × List MemPlace), flatSh P d t = some sh → DataW.trod enc P w base spare held fuel t cs = some x → All2 Fits sh cs
  | 0, _, _, _, _, _, h, _ => by simp [flatSh] at h
  | d + 1, 0, _, _, _, _, _, h => by simp [DataW.trod] at h
  | d + 1, fuel + 1, t, sh, cs, x, h, hx => by
    simp only [flatSh] at h
    split at h
    · rename_i k hu
      obtain rfl := Option.some.inj h
      obtain ⟨n, rfl, _, hw⟩ := DataW.trod_int hu hx
      simp only [Lit.wf, Bool.and_eq_true, decide_eq_true_eq] at hw
      exact .cons ⟨n, rfl, hw⟩ .nil
    · rename_i hu
      obtain rfl := Option.some.inj h
      obtain ⟨b, rfl, _⟩ := DataW.trod_bool hu hx
      exact .cons ⟨b, rfl, trivial⟩ .nil
    · rename_i hu
      obtain rfl := Option.some.inj h
      obtain ⟨s, rfl, _, hs⟩ := DataW.trod_string hu hx
      exact .cons ⟨s, rfl, hs⟩ .nil
    · rename_i fs hu
      rw [Option.bind_eq_some_iff] at h
      obtain ⟨sh', h1, h2⟩ := h
      split at h2 <;> first | cases h2; done | skip
      rename_i hl
      obtain rfl := Option.some.inj h2
      simp only [DataW.trod, hu] at hx
      split at hx <;> first | cases hx; done | skip
      rename_i hlen
      rw [Option.map_eq_some_iff] at hx
      obtain ⟨xs, hxs, _⟩ := hx
      have := flatFs_fits (P := P) (cs := cs) (fun t sh cs x h1 h2 => flatSh_fits d fuel t sh cs x h1 h2) fs.toList 0 sh' h1 (mapM_each hxs)
      rw [List.drop_zero, hl, ← hlen, List.take_length] at this
      exact this
    · rename_i n e hu
      rw [Option.bind_eq_some_iff] at h
      obtain ⟨s1, h1, h2⟩ := h
      split at h2 <;> first | cases h2; done | skip
      rename_i hl
      obtain rfl := Option.some.inj h2
      simp only [DataW.trod, hu] at hx
      split at hx <;> first | cases hx; done | skip
      rename_i hlen
      rw [Option.map_eq_some_iff] at hx
      obtain ⟨xs, hxs, _⟩ := hx
      have := flatArr_fits (s1 := s1) n cs fun i hi => by
        obtain ⟨y, hy⟩ := mapM_each hxs i (List.mem_range.2 hi)
        rw [← hl.1] at hy
        exact flatSh_fits d fuel e s1 _ _ h1 hy
      rw [hl.2, ← hlen, List.take_length] at this
      exact this
    · cases h

/-- What a law's arguments are. -/
def argOK (P : Program) (t : TypeId) : RPat → Bool
  | .sc (.int k) => (match P.underlying t with | some (.int k') => decide (k = k') | _ => false)
  | .sc .bool => (match P.underlying t with | some .bool => true | _ => false)
  | .sc .str => (match P.underlying t with | some .string => true | _ => false)
  | .agg sh => (match P.underlying t with | some (.struct _) | some (.array _ _) => flatSh P 5 t == some sh | _ => false)
  | .row e sh => (match P.underlying t with | some (.slice e') => decide (e' = e) && flatSh P 5 e == some sh && decide (0 < sh.length) && decide (sh.length = P.cellsOf e) | _ => false)
def RPat.wf : (r : RPat) → r.T → Prop
  | .sc s, x => s.wf x
  | .agg sh, x => Row.wf sh x
  | .row _ sh, xs => xs.length ≤ maxLen ∧ ∀ x, x ∈ xs → Row.wf sh x
def RT.wf : (rs : List RPat) → RT rs → Prop
  | [], _ => True
  | [r], x => r.wf x
  | r :: a :: t, x => r.wf x.1 ∧ RT.wf (a :: t) x.2
def encA1 (key : Nat) : (r : RPat) → r.T → AV × Option AB
  | .sc s, x => (s.toAV x, none)
  | .agg sh, x => (.agg (Row.toAVs sh x), none)
  | .row e sh, xs => (.sl key, some (.ext e sh xs))
def encA : Nat → (rs : List RPat) → RT rs → List AV × List AB
  | _, [], _ => ([], [])
  | key, [r], x => ([(encA1 key r x).1], (encA1 key r x).2.toList)
  | key, r :: a :: t, x =>
    ((encA1 key r x.1).1 :: (encA (key + (encA1 key r x.1).2.toList.length) (a :: t) x.2).1,
     (encA1 key r x.1).2.toList ++ (encA (key + (encA1 key r x.1).2.toList.length) (a :: t) x.2).2)

theorem cells_of_cells? {w : World} {base : Nat} {a : Addr} {n : Nat} {cs : List Value} (h : w.cells? base a n = some cs) : cs.length = n ∧ ∀ i, i < n → w.cell? (a.add i) = cs[i]? := (World.cells?_some h).2

theorem flat_rows {sh : List SK} {w : World} {a : Addr} {R : Nat → Row sh} : ∀ (n : Nat), (∀ i, i < n → ∀ j u, (Row.vals sh (R i))[j]? = some u → w.cell? ((a.add (i * sh.length)).add j) = some u) →
    ∀ j u, (flat sh ((List.range n).map R))[j]? = some u → w.cell? (a.add j) = some u
  | 0, _, j, u, h => by simp [flat] at h
  | n + 1, hh, j, u, h => by
    rw [List.range_succ, List.map_append, flat_append] at h
    rw [List.getElem?_append] at h
    split at h
    · exact flat_rows n (fun i hi => hh i (by omega)) j u h
    · rename_i hlt
      rw [flat_length, List.length_map, List.length_range] at hlt h
      have e : flat sh (List.map R [n]) = Row.vals sh (R n) := by simp [flat]
      rw [e] at h
      have := hh n (by omega) _ u h
      rw [Go.Ev.add_add] at this
      rwa [show n * sh.length + (j - n * sh.length) = j by omega] at this

/-- An argument as data. -/
theorem open_arg {t : TypeId} {r : RPat} {v : Value} {dd : DataW H} {ps : List MemPlace} {b0 : Nat} (hk : argOK P t r = true) (hval : Value.okWide P w .any b0 t v) (h : DataW.Trod enc P w 0 (fun _ => true) held t v dd ps) :
    ∃ x : r.T, r.wf x ∧ ((∀ key, (encA1 key r x).2 = none ∧ ∀ ρ, VR ρ (encA1 key r x).1 v) ∨
      ∀ key, ∃ b, (encA1 key r x) = (.sl key, some b) ∧ (∃ e sh xs, b = .ext e sh xs) ∧ ∀ ρ : Ren, ρ key = some (.sv v) → VR ρ (.sl key) v ∧ HB w (Old w) ρ b (.sv v)) := by
  cases r with
  | sc s =>
    cases s with
    | int k =>
      simp only [argOK] at hk
      split at hk <;> first | cases hk; done | skip
      rename_i hu
      obtain rfl := of_decide_eq_true hk
      obtain ⟨n, rfl, _, _, hw⟩ := open_int hu hval h
      simp only [Lit.wf, Bool.and_eq_true, decide_eq_true_eq] at hw
      exact ⟨n, hw, .inl fun key => ⟨rfl, fun ρ => rfl⟩⟩
    | bool =>
      simp only [argOK] at hk
      split at hk <;> first | cases hk; done | skip
      rename_i hu
      obtain ⟨b, rfl, _⟩ := open_bool hu hval h
      exact ⟨b, trivial, .inl fun key => ⟨rfl, fun ρ => rfl⟩⟩
    | str =>
      simp only [argOK] at hk
      split at hk <;> first | cases hk; done | skip
      rename_i hu
      obtain ⟨b, rfl, _, _, hs⟩ := open_string hu hval h
      exact ⟨b, hs, .inl fun key => ⟨rfl, fun ρ => rfl⟩⟩
  | agg sh =>
    simp only [argOK] at hk
    have hagg : ∃ cs, v = .agg cs ∧ flatSh P 5 t = some sh := by
      split at hk <;> first | cases hk; done | skip
      · rename_i fs hu
        simp only [Value.okWide, hu] at hval
        obtain ⟨cs, h1, _⟩ := hval
        exact ⟨cs, h1, by simpa using hk⟩
      · rename_i n e hu
        simp only [Value.okWide, hu] at hval
        obtain ⟨cs, h1, _⟩ := hval
        exact ⟨cs, h1, by simpa using hk⟩
    obtain ⟨cs, rfl, hsh⟩ := hagg
    obtain ⟨fuel, hf⟩ := h
    obtain ⟨x, hx, hw⟩ := row_of_fits (flatSh_fits 5 fuel t sh _ _ hsh hf)
    refine ⟨x, hw, .inl fun key => ⟨rfl, fun ρ => ⟨cs, rfl, ?_⟩⟩⟩
    have : cs.toList = Row.vals sh x := hx
    rw [this]; exact Row.rel ρ sh x
  | row e sh =>
    simp only [argOK] at hk
    split at hk <;> first | cases hk; done | skip
    rename_i e' hu
    simp only [Bool.and_eq_true, decide_eq_true_eq, beq_iff_eq] at hk
    obtain ⟨⟨⟨rfl, hsh⟩, hl⟩, hc⟩ := hk
    obtain ⟨a, len, cap, rfl⟩ := okWide_slice hu hval
    obtain ⟨fuel, hf⟩ := h
    rcases Go.Deep.open_slice hu hf with ⟨hcs, _⟩ | ⟨a', len', cap', m, n, D, Pl, hcs, _, hlc, hm, hmm, _, hx⟩
    · simp [Value.cells] at hcs
      obtain ⟨rfl, rfl, rfl⟩ := hcs
      exact ⟨[], ⟨Nat.zero_le _, fun x hx => by cases hx⟩, .inr fun key => ⟨_, rfl, ⟨_, _, _, rfl⟩, fun ρ hρ => ⟨⟨hρ, _, _, _, rfl⟩, hl, none, 0, rfl, Nat.le_refl _, fun j u hu => by simp [flat] at hu⟩⟩⟩
    · simp [Value.cells] at hcs
      obtain ⟨rfl, rfl, rfl⟩ := hcs
      simp only [if_true] at hmm
      subst hmm
      have each : ∀ i, i < len → ∃ x : Row sh, Row.wf sh x ∧ a'.block < w.heap.size ∧ ∀ j u, (Row.vals sh x)[j]? = some u → w.cell? ((a'.add (i * sh.length)).add j) = some u := by
        intro i hi
        obtain ⟨cs', h1, h2⟩ := hx i (by omega)
        obtain ⟨x, hxx, hw⟩ := row_of_fits (flatSh_fits 5 n _ sh _ _ hsh h2)
        have hb := World.cells?_block h1 (by omega)
        rw [add_block] at hb
        obtain ⟨h3, h4⟩ := cells_of_cells? h1
        refine ⟨x, hw, hb, fun j u hj => ?_⟩
        subst hxx
        have hjl : j < sh.length := by have := (List.getElem?_eq_some_iff.1 hj).1; rwa [Row.length_vals] at this
        rw [← hj, ← h4 j (by omega), hc]
      have hch : ∃ R : Nat → Row sh, ∀ i, i < len → Row.wf sh (R i) ∧ a'.block < w.heap.size ∧ ∀ j u, (Row.vals sh (R i))[j]? = some u → w.cell? ((a'.add (i * sh.length)).add j) = some u := by
        classical
        exact ⟨fun i => if hi : i < len then Classical.choose (each i hi) else Row.dflt sh, fun i hi => by
          simp only [dif_pos hi]; exact Classical.choose_spec (each i hi)⟩
      obtain ⟨R, hR⟩ := hch
      refine ⟨(List.range len).map R, ⟨by simp; omega, fun x hx => ?_⟩, .inr fun key => ⟨_, rfl, ⟨_, _, _, rfl⟩, fun ρ hρ => ⟨⟨hρ, _, _, _, rfl⟩, hl, some a', m, by simp, by simpa using hlc, fun j u hu => ?_⟩⟩⟩
      · simp only [List.mem_map, List.mem_range] at hx
        obtain ⟨i, hi, rfl⟩ := hx
        exact (hR i hi).1
      · refine ⟨a', rfl, flat_rows len (fun i hi => (hR i hi).2.2) j u hu, ?_⟩
        have : 0 < len := by
          rcases Nat.eq_zero_or_pos len with rfl | h
          · simp [flat] at hu
          · exact h
        exact (add_block a' j).symm ▸ (hR 0 this).2.1
end
end Go.Ev
