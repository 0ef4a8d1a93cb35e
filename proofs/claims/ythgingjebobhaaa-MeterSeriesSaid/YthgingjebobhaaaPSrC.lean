/- What meter.Series comes to: its contract, out of the walk. -/
import Derived.Test.YthgingjebobhaaaPWlk
import Derived.Test.YthgingjebobhaaaEvR
namespace Go.Proofs.Ythgingjebobhaaa
open Go.RowKit Go.Ev

abbrev sh1 : List SK := [.int .i64]
theorem flat1 (xs : List Int) : flat sh1 xs = xs.map (Value.int .i64) := by
  induction xs with
  | nil => rfl
  | cons x l ih => rw [flat_cons, ih]; rfl

def inR (z : Row sh6) : Bool := decide ((z.1 : Int) ≤ 9223372036854775807)
abbrev SerT := (Int × (Int × Unit)) × (List (Row sh6) × (List Int × Unit))
abbrev SerR := Unit × (List (List Int) × Unit)
def seriesM (zs : List (Row sh6)) (xs : List Int) (width many : Int) : List (List Int) :=
  (metOf zs (xs.length : Nat)).foldl (serStep xs (clI width 1 1099511627776) (mI many)) (List.replicate xs.length (List.replicate (mI many) 0))
def seriesT (_N : Nat) (x : SerT) : Option SerR :=
  if (x.2.2.1.length ≤ 1000 ∧ x.2.1.length ≤ 4000) ∧ x.2.1.all inR = true then some ((), seriesM x.2.1 x.2.2.1 x.1.1 x.1.2.1, ()) else none
def seriesC : FC where
  T := SerT
  R := SerR
  eff := false
  dec := fun az h =>
    match az with
    | [.sl k, .sl j, .int .i64 a, .int .i64 b] =>
      (match h[k]?, h[j]? with
      | some (.ext e sh zs), some (.ext e' sh' xs) => if hs : (e = 37 ∧ sh = sh6) ∧ e' = 2 ∧ sh' = [.int .i64] then some (((a, b, ()), (hs.1.2 ▸ zs : List (Row sh6)), (hs.2.2 ▸ xs : List (Row [.int .i64])), ()), []) else none
      | _, _ => none)
    | _ => none
  run := seriesT
  enc := fun _ key _ => .sl key
  nb := fun _ _ r => [.nest 23 2 [.int .i64] r.2.1]
  up := fun _ _ _ => []
theorem seriesC_dec {az : List AV} {h : List AB} {t : SerT} {ks : List Nat} (hd : seriesC.dec az h = some (t, ks)) :
    ∃ k j a b zs xs, az = [.sl k, .sl j, .int .i64 a, .int .i64 b] ∧ h[k]? = some (.ext 37 sh6 zs) ∧ h[j]? = some (.ext 2 sh1 xs) ∧ t = ((a, b, ()), zs, xs, ()) ∧ ks = [] := by
  have hd' : (match (generalizing := false) az with
    | [.sl k, .sl j, .int .i64 a, .int .i64 b] =>
      (match h[k]?, h[j]? with
      | some (.ext e sh zs), some (.ext e' sh' xs) => if hs : (e = 37 ∧ sh = sh6) ∧ e' = 2 ∧ sh' = [.int .i64] then some ((((a, b, ()), (hs.1.2 ▸ zs : List (Row sh6)), (hs.2.2 ▸ xs : List (Row [.int .i64])), ()) : SerT), []) else none
      | _, _ => none)
    | _ => none) = some (t, ks) := hd
  split at hd' <;> first | cases hd'; done | skip
  split at hd' <;> first | cases hd'; done | skip
  rename_i _ k j a b _ _ e sh zs e' sh' xs hk hj
  split at hd' <;> first | cases hd'; done | skip
  rename_i hs
  obtain ⟨⟨rfl, rfl⟩, rfl, rfl⟩ := hs
  have := Option.some.inj hd'
  exact ⟨k, j, a, b, zs, xs, rfl, hk, hj, (congrArg Prod.fst this).symm, (congrArg Prod.snd this).symm⟩

theorem ext_cells {w : World} {K : KS} {vs : List Value} {a : Option Addr} (hb : Le K (Old w)) (hc : ∀ j u, vs[j]? = some u → ∃ ad, a = some ad ∧ w.cell? (ad.add j) = some u ∧ K.k ad.block) :
    ∀ j u, vs[j]? = some u → ∃ b off, a = some ⟨b, off, none⟩ ∧ b < w.heap.size ∧ w.cell? ⟨b, off + j, none⟩ = some u := by
  intro j u hu
  have hj := (List.getElem?_eq_some_iff.1 hu).1
  obtain ⟨ad0, h1, h2, h3⟩ := hc 0 _ (List.getElem?_eq_getElem (by omega))
  obtain ⟨ad, g1, g2, _⟩ := hc j u hu
  rw [h1] at g1
  cases g1
  obtain ⟨b, off, spot⟩ := ad0
  cases spot with
  | none => exact ⟨b, off, h1, Old.all_iff.1 (hb b (.inl h3)), by rw [← Addr.add_lit]; exact g2⟩
  | some q =>
    have e0 : (⟨b, off, some q⟩ : Addr).add 0 = ⟨b, off, some q⟩ := rfl
    rw [e0] at h2
    unfold World.cell? at h2
    split at h2
    · simp at h2
    · cases h2

theorem row_cells {zs : List (Row sh6)} {i : Nat} {z : Row sh6} (hz : zs[i]? = some z) {j : Nat} (hj : j < 6) : (flat sh6 zs)[i * 6 + j]? = (Row.vals sh6 z)[j]? := by
  have h6 : sh6.length = 6 := rfl
  have := flat_get sh6 zs i j (List.getElem?_eq_some_iff.1 hz).1 hj
  rw [h6] at this
  rw [this, List.getD_eq_getElem?_getD, hz]
  rfl

theorem outC_len (s m n : Nat) : (outC s m n n).length = n := by simp [outC]
theorem all2_range {α : Type} {R : α → Value → Prop} {s m n : Nat} {l : List α} (hl : l.length = n) (h : ∀ i x, l[i]? = some x → R x (rowOf (s + 5 + i) m)) : All2 R l (outC s m n n) := by
  have e : outC s m n n = (List.range n).map fun i => rowOf (s + 5 + i) m := by simp [outC]
  rw [e]
  clear e
  induction l generalizing n s with
  | nil =>
    subst hl
    exact .nil
  | cons x t ih =>
    subst hl
    rw [List.length_cons, List.range_succ_eq_map, List.map_cons, List.map_map]
    refine .cons (h 0 x rfl) ?_
    have := ih (s := s + 1) (n := t.length) rfl fun i y hi => by
      have := h (i + 1) y hi
      rwa [show s + 5 + (i + 1) = s + 1 + 5 + i by omega] at this
    have e : (List.range t.length).map ((fun i => rowOf (s + 5 + i) m) ∘ Nat.succ) = (List.range t.length).map fun i => rowOf (s + 1 + 5 + i) m := by
      apply List.map_congr_left
      intro i _
      show rowOf (s + 5 + (i + 1)) m = rowOf (s + 1 + 5 + i) m
      rw [show s + 5 + (i + 1) = s + 1 + 5 + i by omega]
    rw [e]
    exact this
theorem seriesC_ok (N : Nat) : FCOK Try.prog N 4 seriesC :=
  .body Try.f4 Try.func4 rfl rfl <| fun az hm h ρ w B vs t ks r ha hr hmask hd hrun => by
    obtain ⟨k, j, a, b, zs, xs, rfl, hk0, hj0, rfl, rfl⟩ := seriesC_dec hd
    have hk : h[k]? = some (.ext 37 sh6 zs) := (hmask.get k _ hk0).resolve_left (by intro e; cases e)
    have hj : h[j]? = some (.ext 2 sh1 xs) := (hmask.get j _ hj0).resolve_left (by intro e; cases e)
    have hrun' : seriesT N ((a, b, ()), zs, xs, ()) = some r := hrun
    unfold seriesT at hrun'
    split at hrun' <;> first | cases hrun'; done | skip
    rename_i hc
    have hxl : xs.length ≤ 1000 := hc.1.1
    have hzl : zs.length ≤ 4000 := hc.1.2
    have hin : ∀ (i : Nat) (z : Row sh6), zs[i]? = some z → z.1 ≤ 9223372036854775807 := fun i z hz => of_decide_eq_true (List.all_eq_true.1 hc.2 z (List.mem_of_getElem? hz))
    obtain rfl := Option.some.inj hrun'
    obtain ⟨l⟩ := vs
    cases ha with
    | cons hv1 ha => cases ha with
    | cons hv2 ha => cases ha with
    | cons hv3 ha => cases ha with
    | cons hv4 ha =>
    cases ha
    obtain ⟨hρk, la, nl, lc, rfl⟩ := hv1
    obtain ⟨hρj, ma, n, mc, rfl⟩ := hv2
    obtain rfl := hv3
    obtain rfl := hv4
    rcases hr.blk k _ hk with e | ⟨rv, h1, h2⟩
    · cases e
    rw [hρk] at h1; obtain rfl := Option.some.inj h1
    obtain ⟨_, a1, c1, e1, hc1, hcell1⟩ := h2
    cases e1
    rcases hr.blk j _ hj with e | ⟨rv, h1, h2⟩
    · cases e
    rw [hρj] at h1; obtain rfl := Option.some.inj h1
    obtain ⟨_, a2, c2, e2, hc2, hcell2⟩ := h2
    cases e2
    have hz := ext_cells hr.base hcell1
    have hx := ext_cells hr.base hcell2
    have hBlt : ∀ g, B.all g → g < w.heap.size := fun g hg => Old.all_iff.1 (hr.base g hg)
    refine (series_walk la ma lc mc xs zs xs.length rfl hxl (by omega) a b w ?_ hin ?_).mono ?_
    · intro i z hi
      have one : ∀ q v, q < 6 → (Row.vals sh6 z)[q]? = some v → ∃ b off, la = some ⟨b, off, none⟩ ∧ b < w.heap.size ∧ w.cell? ⟨b, off + (i * 6 + q), none⟩ = some v := fun q v hq hv => hz _ _ ((row_cells hi hq).trans hv)
      obtain ⟨b0, o0, rfl, g1, g2⟩ := one 0 _ (by omega) rfl
      have two : ∀ q v, q < 6 → (Row.vals sh6 z)[q]? = some v → w.cell? ⟨b0, o0 + i * 6 + q, none⟩ = some v := fun q v hq hv => by
        obtain ⟨b3, o3, e, _, g4⟩ := one q v hq hv
        cases e
        rw [Nat.add_assoc]; exact g4
      exact ⟨b0, o0, rfl, g1, two 0 _ (by omega) rfl, two 1 _ (by omega) rfl, two 2 _ (by omega) rfl, two 3 _ (by omega) rfl, two 4 _ (by omega) rfl, two 5 _ (by omega) rfl⟩
    · intro i v hi
      exact hx i _ (by rw [flat1, List.getElem?_map, hi]; rfl)
    · rintro e w' ⟨M, hM, rfl, hMl, hout, hrows, hbel⟩
      have hMe : seriesM zs xs a b = M := hM.symm
      have ho3 := lt_of_heap hout
      obtain ⟨K, hK⟩ : ∃ K : KS, K = ⟨fun g => B.k g ∨ (w.heap.size ≤ g ∧ g < w'.heap.size ∧ g ≠ w.heap.size + 3), B.f, B.ds⟩ := ⟨_, rfl⟩
      have hKall : ∀ g, K.all g → B.all g ∨ (w.heap.size ≤ g ∧ g < w'.heap.size ∧ g ≠ w.heap.size + 3) := fun g hg => by
        rw [hK] at hg
        rcases hg with (h1 | h1) | h1
        · exact .inl (.inl h1)
        · exact .inr h1
        · exact .inl (.inr h1)
      refine ⟨.slice (some ⟨w.heap.size + 3, 0, none⟩) xs.length xs.length, rfl, (Kp.of_below hbel).mono hr.base, fun key h' hfr hp => ?_⟩
      have hkey : ρ key = none := hfr 0 (by show 0 < 1; omega)
      have hpl1 : h'[key]? = some (.nest 23 2 sh1 M) := by
        have := hp.here 0 _ rfl
        rw [← hMe]
        exact this
      have hpl2 : ∀ q, q ≠ key → h'[q]? = h[q]? := fun q hq => hp.other q fun i hi => by
        have hi' : i < 1 := hi
        have hi0 : i = 0 := by omega
        rw [hi0]
        exact hq
      have hpl : Placed h h' key (.nest 23 2 sh1 M) := ⟨hpl1, hpl2, hp.len⟩
      have q1 : HR w' K ρ h := ⟨fun q x hq => (hr.blk q x hq).imp id fun ⟨r, h1, h2⟩ => ⟨r, h1, h2.keep (fun g hg hlt => ⟨hbel.block g hlt, fun hg2 => by
          rcases hKall g hg2 with h3 | h3
          · exact (h2.own_lt hg).1 h3
          · omega⟩) (fun g hg => hbel.block g (hBlt g (.inl hg))) (fun g hg => by rw [hK]; exact .inl hg)⟩, hr.sep, hr.fresh, fun g hg => Old.all_iff.2 (by
          rcases hKall g hg with h3 | h3
          · exact Nat.lt_of_lt_of_le (hBlt g h3) hbel.size
          · exact h3.2.1)⟩
      refine ⟨ρ.set key (.sv (.slice (some ⟨w.heap.size + 3, 0, none⟩) xs.length xs.length)), Ren.le_set _ _ _ hkey, fun q hq => Ren.set_other _ _ _ _ (hq 0 (by show 0 < 1; omega)), ⟨Ren.set_same _ _ _, _, _, _, rfl⟩, K, ⟨fun g hg => by rw [hK]; exact .inl hg, by rw [hK], fun g hg => ?_⟩, q1.new hkey hpl ⟨by decide, outC w.heap.size (mI b) xs.length xs.length, ?_, ⟨?_, ?_⟩⟩ ?_⟩
      · rw [hK] at hg
        rcases hg with hg | hg
        · exact .inl hg
        · exact .inr fun h3 => by have := hBlt g (.inr h3); omega
      · refine all2_range (n := xs.length) hMl fun i r hi => ?_
        obtain ⟨g1, g2⟩ := hrows i r hi
        have hi2 := (List.getElem?_eq_some_iff.1 hi).1
        rw [hMl] at hi2
        refine ⟨some ⟨w.heap.size + 5 + i, 0, none⟩, mI b, by rw [rowOf, g1], by rw [g1]; exact Nat.le_refl _, fun q u hu => ⟨⟨w.heap.size + 5 + i, 0, none⟩, rfl, ?_, ?_⟩⟩
        · rw [Addr.add_lit, Nat.zero_add, cell_of_heap g2, rowC, List.getElem?_toArray, ← flat1]
          exact hu
        · rw [hK]
          exact .inr ⟨by show w.heap.size ≤ w.heap.size + 5 + i; omega, lt_of_heap g2, by show w.heap.size + 5 + i ≠ w.heap.size + 3; omega⟩
      · refine .inl ⟨by rw [Nat.mul_one], .inr ⟨w.heap.size + 3, 0, xs.length, _, ?_, hout, ?_, ?_, ?_, ?_⟩⟩
        · rw [outC_len]
        · rw [outC_len]; exact Nat.le_refl _
        · have : maxLen = 9223372036854775807 := by decide
          omega
        · rw [List.size_toArray, outC_len]; omega
        · rw [List.drop_zero, Nat.mul_one, List.take_of_length_le (by simp)]
      · intro g hg hg2
        have hg3 : g = w.heap.size + 3 := by
          simp only [rowBlk] at hg
          split at hg
          · cases hg
          · exact (Option.some.inj hg).symm
        rcases hKall g hg2 with h3 | h3
        · have := hBlt g h3; omega
        · exact h3.2.2 hg3
      · intro g hg q x r hq hx2 hr2 ho
        have hg3 : g = w.heap.size + 3 := by
          simp only [ownB, rowBlk] at hg
          split at hg
          · cases hg
          · exact (Option.some.inj hg).symm
        have := (hr.own_lt hx2 hr2 ho).2
        omega
end Go.Proofs.Ythgingjebobhaaa
