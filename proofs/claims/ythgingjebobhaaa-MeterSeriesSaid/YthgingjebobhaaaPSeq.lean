/- The iterator over the entries that are of flows hands them to a loop's body, one by one: what is owed of it. -/
import Derived.RangeFuncBox
import Derived.RangeFuncLeaves
import Derived.Shelf.Abstract
import Derived.WalkKit
import Derived.OwnWalkIn
import Derived.TacticsInMore
import Derived.LoopNIn
import Derived.LoopIn
import Derived.Test.YthgingjebobhaaaProg
import Derived.Test.YthgingjebobhaaaEvT
namespace Go.Proofs.Ythgingjebobhaaa.Pure
open Go.RowKit Go.Shelf Go.Ev

attribute [local go_sem] Oper.semAt_some

theorem cell_alloc_old {w : World} {o : Obj} {a : Addr} {v : Value} (h : w.cell? a = some v) : (w.alloc o).cell? a = some v := by
  obtain ⟨o', h1, _⟩ := cells_of_cell h
  exact (World.cell?_of_block (Below.heap_alloc w o _ (Array.getElem?_eq_some_iff.1 h1).1)).trans h

theorem filter_at {α : Type} {p : α → Bool} : ∀ {zs : List α} {k : Nat} {z : α}, zs[k]? = some z → p z = true → (zs.filter p)[((zs.take k).filter p).length]? = some z ∧ ((zs.take (k + 1)).filter p).length = ((zs.take k).filter p).length + 1
  | [], k, z, h, _ => by simp at h
  | a :: zs, 0, z, h, hp => by
    simp only [List.getElem?_cons_zero, Option.some.injEq] at h
    subst h
    simp [hp]
  | a :: zs, k + 1, z, h, hp => by
    obtain ⟨h1, h2⟩ := filter_at (zs := zs) (k := k) (by simpa using h) hp
    cases ha : p a with
    | true => simp [ha, h1, h2]
    | false => simp [ha, h1, h2]

theorem filter_no {α : Type} {p : α → Bool} : ∀ {zs : List α} {k : Nat} {z : α}, zs[k]? = some z → p z = false → ((zs.take (k + 1)).filter p).length = ((zs.take k).filter p).length
  | [], k, z, h, _ => by simp at h
  | a :: zs, 0, z, h, hp => by
    simp only [List.getElem?_cons_zero, Option.some.injEq] at h
    subst h
    simp [hp]
  | a :: zs, k + 1, z, h, hp => by
    have h2 := filter_no (zs := zs) (k := k) (by simpa using h) hp
    cases ha : p a with
    | true => simp [ha, h2]
    | false => simp [ha, h2]

theorem kp_alloc (w : World) (o : Obj) : Kp (Old w) w (w.alloc o) := below_alloc w o

set_option maxRecDepth 100000 in
set_option maxHeartbeats 4000000 in
theorem of1_in (l ba bb b off cap : Nat) (n : Int) (zs : List (Row sh6)) (hlen : zs.length ≤ 1000000000) (J : Nat → World → Prop) (K : KS) (V0 : World)
    (hz : ∀ k z, zs[k]? = some z → K.k b ∧ V0.cell? ⟨b, off + k * 6, none⟩ = some (.int .i64 z.1) ∧ V0.cell? ⟨b, off + k * 6 + 1, none⟩ = some (.int .i64 z.2.1) ∧ V0.cell? ⟨b, off + k * 6 + 2, none⟩ = some (.int .i64 z.2.2.1) ∧ V0.cell? ⟨b, off + k * 6 + 3, none⟩ = some (.int .i64 z.2.2.2.1) ∧ V0.cell? ⟨b, off + k * 6 + 4, none⟩ = some (.int .i64 z.2.2.2.2.1) ∧ V0.cell? ⟨b, off + k * 6 + 5, none⟩ = some (.int .i64 z.2.2.2.2.2))
    (hKb : K.k bb) (hcb : V0.cell? ⟨ba, 0, none⟩ = some (.slice (some ⟨b, off, none⟩) zs.length cap)) (hcn : V0.cell? ⟨bb, 0, none⟩ = some (.int .i64 n))
    (hlt0 : ∀ x, K.k x → x < V0.heap.size) (hab : ∀ k A B, J k A → Kp (Old A) A B → J k B)
    (hY : ∀ (k : Nat) (x : Row sh6) (A : World), (metOf zs n)[k]? = some x → J k A → YieldAt Fence.wide 3 Try.prog l #[.agg #[.int .i64 x.1, .int .i64 x.2.1, .int .i64 x.2.2.1, .int .i64 x.2.2.2.1, .int .i64 x.2.2.2.2.1, .int .i64 x.2.2.2.2.2]] A fun e A' => e = .returned (.bool true) ∧ J (k + 1) A' ∧ KeepK K A A') (h0 : J 0 V0) :
    CallsIn Fence.wide 4 Try.prog 14 #[.func (.yield l) #[] #[], .pointer (some ⟨ba, 0, none⟩), .pointer (some ⟨bb, 0, none⟩)] V0 fun e V0' => (∃ v, e = .returned v) ∧ J (metOf zs n).length V0' := by
  refine callsIn_of_wp Try.func14 rfl trivial ?_ rfl
  simp only [Try.ntmps14, List.size_toArray, List.length_cons, List.length_nil, Nat.reduceAdd, Nat.reduceSub, Array.replicate_succ, Array.replicate_zero, List.push_toArray, List.append_toArray, List.nil_append, List.cons_append]
  gi_wp2
  gi_loopw [8] (fun i wr => ∃ k : Nat, k ≤ zs.length ∧ i = .int .i64 k ∧ J (metOf (zs.take k) n).length wr ∧ KeepK K V0 wr)
    (fun i _ => zs.length - (intOf i).toNat)
  case atStart => exact ⟨0, Nat.zero_le _, rfl, h0, fun _ _ => rfl⟩
  case round =>
    obtain ⟨k, hk, rfl, hJs, hnx⟩ := hrel
    by_cases hlt : k < zs.length
    · obtain ⟨z, hzk⟩ : ∃ z, zs[k]? = some z := ⟨_, List.getElem?_eq_getElem hlt⟩
      obtain ⟨hb, c0, c1, c2, c3, c4, c5⟩ := hz k z hzk
      have hup : metP n z = true → (metOf zs n)[(metOf (zs.take k) n).length]? = some z ∧ (metOf (zs.take (k + 1)) n).length = (metOf (zs.take k) n).length + 1 := fun h => filter_at hzk h
      have hno : metP n z = false → (metOf (zs.take (k + 1)) n).length = (metOf (zs.take k) n).length := fun h => filter_no hzk h
      obtain ⟨z0, z1, z2, z3, z4, z5⟩ := z
      have cc : ∀ j, wr.cell? ⟨b, j, none⟩ = V0.cell? ⟨b, j, none⟩ := fun j => World.cell?_of_block (hnx b hb)
      have cn : wr.cell? ⟨bb, 0, none⟩ = some (.int .i64 n) := (World.cell?_of_block (hnx bb hKb)).trans hcn
      rw [← cc] at c0 c1 c2 c3 c4 c5
      dsimp only at c0 c1 c2 c3 c4 c5
      clear cc hz hzk hcb hcn
      have cn2 : ∀ o : Obj, (wr.alloc o).cell? ⟨bb, 0, none⟩ = some (.int .i64 n) := fun o => cell_alloc_old cn
      have hkA : ∀ o : Obj, KeepK K V0 (wr.alloc o) := fun o x hx => by
        have h1 : x < wr.heap.size := by
          have h2 := hlt0 x hx
          have h3 := hnx x hx
          rw [Array.getElem?_eq_getElem h2] at h3
          exact (Array.getElem?_eq_some_iff.1 h3).1
        exact (Below.heap_alloc wr o x h1).trans (hnx x hx)
      have hw64 : (k : Int) + 1 = ((k + 1 : Nat) : Int) := rfl
      have fin : ∀ o : Obj, metP n (z0, z1, z2, z3, z4, z5) = false → (∃ k_1, k_1 ≤ zs.length ∧ Value.int .i64 (((k : Int) + 1)) = .int .i64 (k_1 : Int) ∧ J (metOf (zs.take k_1) n).length (wr.alloc o) ∧ KeepK K V0 (wr.alloc o)) ∧
          zs.length - (intOf (.int .i64 (((k : Int) + 1)))).toNat < zs.length - (intOf (.int .i64 (k : Int))).toNat := by
        intro o hm
        refine ⟨⟨k + 1, by omega, by rw [hw64], ?_, hkA o⟩, ?_⟩
        · rw [hno hm]; exact hab _ _ _ hJs (kp_alloc wr o)
        · rw [hw64]; simp [intOf]; omega
      by_cases h8 : z1 = 8
      · subst h8
        have hm : metP n (z0, 8, z2, z3, z4, z5) = false := rfl
        have fin' := fun o => fin o hm
        clear fin hno hup hY hab hJs hkA hnx hw64
        gi_wp2
        refine ⟨fun f hf => (by cases hf), ?_⟩
        gi_wp2
        exact fin' _
      · by_cases h9 : 0 ≤ z2
        · by_cases h10 : z2 < n
          · have hm : metP n (z0, z1, z2, z3, z4, z5) = true := by simp [metP, h8, h9, h10]
            obtain ⟨hi, hl⟩ := hup hm
            obtain ⟨fn, tmps, assign, body, hy, hR⟩ := hY _ _ (wr.alloc (.cells #[.int .i64 z0, .int .i64 z1, .int .i64 z2, .int .i64 z3, .int .i64 z4, .int .i64 z5] 37)) hi (hab _ _ _ hJs (kp_alloc wr _))
            have hkA' := hkA (.cells #[.int .i64 z0, .int .i64 z1, .int .i64 z2, .int .i64 z3, .int .i64 z4, .int .i64 z5] 37)
            clear fin hno hup hY hJs hkA hnx hi
            gi_wp2
            refine hR.mono ?_
            rintro e V3 ⟨rfl, hJ3, hk3⟩
            have fin3 : (∃ k_1, k_1 ≤ zs.length ∧ Value.int .i64 ((k : Int) + 1) = .int .i64 (k_1 : Int) ∧ J (metOf (zs.take k_1) n).length V3 ∧ KeepK K V0 V3) ∧
                zs.length - (intOf (.int .i64 ((k : Int) + 1))).toNat < zs.length - (intOf (.int .i64 (k : Int))).toNat := by
              refine ⟨⟨k + 1, by omega, by rw [hw64], ?_, fun x hx => (hk3 x hx).trans (hkA' x hx)⟩, ?_⟩
              · rw [hl]; exact hJ3
              · rw [hw64]; simp [intOf]; omega
            clear hJ3 hk3 hkA' hab hl hw64 hy hR
            gi_wp2
            exact fin3
          · have hm : metP n (z0, z1, z2, z3, z4, z5) = false := by simp [metP, h10]
            have fin' := fun o => fin o hm
            clear fin hno hup hY hab hJs hkA hnx hw64
            gi_wp2
            refine ⟨fun f hf => (by cases hf), ?_⟩
            gi_wp2
            exact fin' _
        · have hm : metP n (z0, z1, z2, z3, z4, z5) = false := by simp [metP, h9]
          have fin' := fun o => fin o hm
          clear fin hno hup hY hab hJs hkA hnx hw64
          gi_wp2
          refine ⟨fun f hf => (by cases hf), ?_⟩
          gi_wp2
          exact fin' _
    · obtain rfl : k = zs.length := by omega
      rw [List.take_length] at hJs
      gi_wp2
      go_end0
      exact ⟨⟨_, rfl⟩, hJs⟩

set_option maxRecDepth 100000 in
set_option maxHeartbeats 1000000 in
theorem of1_empty (l ba bb : Nat) (aa : Option Addr) (cap : Nat) (J : Nat → World → Prop) (V0 : World) (hcb : V0.cell? ⟨ba, 0, none⟩ = some (.slice aa 0 cap)) (h0 : J 0 V0) :
    CallsIn Fence.wide 4 Try.prog 14 #[.func (.yield l) #[] #[], .pointer (some ⟨ba, 0, none⟩), .pointer (some ⟨bb, 0, none⟩)] V0 fun e V0' => (∃ v, e = .returned v) ∧ J 0 V0' := by
  refine callsIn_of_wp Try.func14 rfl trivial ?_ rfl
  simp only [Try.ntmps14, List.size_toArray, List.length_cons, List.length_nil, Nat.reduceAdd, Nat.reduceSub, Array.replicate_succ, Array.replicate_zero, List.push_toArray, List.append_toArray, List.nil_append, List.cons_append]
  gi_wp2
  gi_loopw [8] (fun i wr => i = .int .i64 0 ∧ J 0 wr) (fun _ _ => 0)
  case atStart => exact ⟨rfl, h0⟩
  case round =>
    obtain ⟨rfl, hJs⟩ := hrel
    gi_wp2
    go_end0
    exact ⟨⟨_, rfl⟩, hJs⟩

theorem rel1 {ρ : Go.Ev.Ren} {x : AV} {c : Array Value} (h : All2 (LR ρ) [x] c.toList) : ∃ v, c = #[v] ∧ LR ρ x v := by
  obtain ⟨l⟩ := c
  cases h with
  | cons r a => cases a; exact ⟨_, rfl, r⟩

/-- What is owed of the iterator. -/
theorem metSeq {n0 : Nat} {ps : List Pat} {hs : List HPat} {round : Row sh6 → (PT ps × HT hs → Option (PT ps × HT hs)) → PT ps × HT hs → Option (PT ps × HT hs)} : SeqOK Try.prog (mkRC n0 14 sh6 (metDec 37) ps hs round) := by
  intro cap h ρ w K cv items hq hall hdec l J V0 hkeep hab hround h0
  replace hdec : metDec 37 cap h = some items := hdec
  unfold metDec at hdec
  split at hdec
  case h_2 => cases hdec
  rename_i a b
  obtain ⟨cl⟩ := cv
  cases hall with
  | cons r1 q1 => cases q1 with
  | cons r2 q2 =>
  cases q2
  obtain ⟨ba, hba, rfl⟩ := r1
  obtain ⟨bb, hbb, rfl⟩ := r2
  have blk : ∀ {k : Nat} {x : AV} {g : Nat}, h[k]? = some (.rcells [x]) → ρ k = some (.blk g) → K.k g ∧ ∃ v, LR ρ x v ∧ w.cell? ⟨g, 0, none⟩ = some v := by
    intro k x g hk hg
    rcases hq.blk k _ hk with e | ⟨r, hr, hB⟩
    · cases e
    · rw [hg] at hr
      obtain rfl := Option.some.inj hr
      obtain ⟨h1, c, T, h2, h3⟩ := hB
      obtain ⟨v, rfl, hv⟩ := rel1 h3
      exact ⟨h1, v, hv, by simp [World.cell?, h2]⟩
  have hlt0 : ∀ x, K.k x → x < V0.heap.size := fun x hx => by
    have h2 := Old.all_iff.1 (hq.base x (.inl hx))
    have h3 := hkeep x hx
    rw [Array.getElem?_eq_getElem h2] at h3
    exact (Array.getElem?_eq_some_iff.1 h3).1
  split at hdec
  · -- a nil slice
    rename_i n h1 h2
    obtain rfl := Option.some.inj hdec
    obtain ⟨k1, v1, e1, c1⟩ := blk h1 hba
    obtain rfl : v1 = .slice none 0 0 := e1
    have hcb := (World.cell?_of_block (a := ⟨ba, 0, none⟩) (hkeep ba k1)).trans c1
    exact of1_empty l ba bb none 0 J V0 hcb h0
  · rename_i k n h1 h2
    split at hdec
    case h_2 => cases hdec
    rename_i e' sh xs h3
    split at hdec
    case isFalse => cases hdec
    rename_i he
    split at hdec
    case isFalse => cases hdec
    rename_i hs'
    subst he hs'
    cases hlen : decide (xs.length ≤ 1000000000) with
    | false => rw [hlen] at hdec; cases hdec
    | true =>
    rw [hlen] at hdec
    obtain rfl := Option.some.inj hdec
    simp only [decide_eq_true_eq] at hlen
    obtain ⟨k1, v1, e1, c1⟩ := blk h1 hba
    obtain ⟨k2, v2, e2, c2⟩ := blk h2 hbb
    obtain rfl : v2 = .int .i64 n := e2
    obtain ⟨e1, _⟩ := e1
    rcases hq.blk k _ h3 with e | ⟨r, hr, hB⟩
    · cases e
    rw [e1] at hr
    obtain rfl := Option.some.inj hr
    obtain ⟨_, aa, cap, rfl, _, hcell⟩ := hB
    have hcb := (World.cell?_of_block (a := ⟨ba, 0, none⟩) (hkeep ba k1)).trans c1
    have hcn := (World.cell?_of_block (a := ⟨bb, 0, none⟩) (hkeep bb k2)).trans c2
    have hce : ∀ q, (Row.vals sh6 q).toArray = #[.int .i64 q.1, .int .i64 q.2.1, .int .i64 q.2.2.1, .int .i64 q.2.2.2.1, .int .i64 q.2.2.2.2.1, .int .i64 q.2.2.2.2.2] := fun q => rfl
    cases hx : xs with
    | nil =>
      subst hx
      exact of1_empty l ba bb aa cap J V0 hcb h0
    | cons x0 xt =>
      have h6 : sh6.length = 6 := rfl
      have hget : ∀ (k j : Nat) (z : Row sh6), xs[k]? = some z → j < 6 → (flat sh6 xs)[k * 6 + j]? = (Row.vals sh6 z)[j]? := by
        intro k j z hz hj
        have := flat_get sh6 xs k j (List.getElem?_eq_some_iff.1 hz).1 hj
        rw [h6] at this
        rw [this, List.getD_eq_getElem?_getD, hz]
        rfl
      obtain ⟨ad, hao, hac, hak⟩ := hcell 0 (.int .i64 x0.1) (by have := hget 0 0 x0 (by rw [hx]; rfl) (by omega); rw [Nat.zero_mul, Nat.zero_add] at this; rw [this]; rfl)
      obtain ⟨b', off, spot⟩ := ad
      have hsp : spot = none := by
        cases spot with
        | none => rfl
        | some q =>
          have e0 : (⟨b', off, some q⟩ : Addr).add 0 = ⟨b', off, some q⟩ := rfl
          rw [e0] at hac
          unfold World.cell? at hac
          split at hac
          · simp at hac
          · cases hac
      subst hsp
      subst hao
      have hKB : K.k b' := hak
      rw [← hx]
      refine of1_in l ba bb b' off cap n xs hlen J K V0 (fun k z hz => ⟨hKB, ?_⟩) k2 hcb hcn hlt0 hab hround h0
      have one : ∀ j v, j < 6 → (Row.vals sh6 z)[j]? = some v → V0.cell? ⟨b', off + k * 6 + j, none⟩ = some v := by
        intro j v hj hv
        obtain ⟨ad2, e2, e3, _⟩ := hcell (k * 6 + j) v ((hget k j z hz hj).trans hv)
        obtain rfl := Option.some.inj e2
        rw [Addr.add_lit] at e3
        rw [Nat.add_assoc]
        exact (World.cell?_of_block (hkeep b' hKB)).trans e3
      exact ⟨one 0 _ (by omega) rfl, one 1 _ (by omega) rfl, one 2 _ (by omega) rfl, one 3 _ (by omega) rfl, one 4 _ (by omega) rfl, one 5 _ (by omega) rfl⟩
  · cases hdec

end Go.Proofs.Ythgingjebobhaaa.Pure
