/- What a contract says of a call by itself; a line, told: the walk. -/
import Derived.Test.YtdoiofdepmiejaaDoorW1
import Derived.Test.YtdoiofdepmiejaaDoorPNumG
namespace Go.Proofs.YtdoiofdepmiejaaDoor
open Go.Ev Go.RowKit

theorem calls_of {P : Program} {N g : Nat} {fc : FC} (h : FCOK P N g fc) (hb : hasBody P g = true) : FCCalls P N g fc := by
  cases h with
  | body _ _ _ _ c => exact c
  | ext fn _ hfn _ hbn _ _ _ =>
    unfold hasBody at hb
    rw [hfn, Option.bind_some] at hb
    cases hx : fn.body with
    | none => rw [hx] at hb; cases hb
    | some c => rw [hx] at hbn; cases hbn

theorem calls_plain {P : Program} {N g : Nat} {ks rs : List RPat} {f : Nat → Cur ks (Option (RT rs))} (hF : FCOK P N g (mkF ks rs f)) (hb : hasBody P g = true) {az : List AV} {hm : List AB} {ρ : Go.Ev.Ren} {w : World} {vs : Array Value} {t : PT (aPs 0 ks) × HT (aHs ks)} {r : RT rs}
    (ha : All2 (VR ρ) az vs.toList) (hr : HR w (Old w) ρ hm) (hd : (mkF ks rs f).dec az hm = some (t, [])) (hrun : (mkF ks rs f).run N t = some r) (hnb : (encRL 0 rs r).2 = []) :
    Calls P g vs w fun e w' => ∃ u, e = .returned u ∧ Below w.heap.size w w' ∧ ∃ ρ', VR ρ' (Go.Ev.encR rs hm.length r) u := by
  refine (calls_of hF hb az hm hm ρ w (Old w) vs t [] r ha hr (Mask.refl hm) hd hrun).mono fun e w' hx => ?_
  obtain ⟨v', rfl, hkp, hk⟩ := hx
  have hnb' : (mkF ks rs f).nb [] hm.length r = [] := hnb
  obtain ⟨ρ', _, _, hv, _⟩ := hk hm.length hm (fun j hj => by rw [hnb'] at hj; simp at hj) ⟨fun j b hj => by rw [hnb'] at hj; simp at hj, fun k _ => rfl, Nat.le_refl _⟩
  exact ⟨v', rfl, hkp.below, ρ', hv⟩

abbrev Rd (w : World) (xs : List Int) (v : Value) : Prop := ExtR w (Old w) sh1 xs v
theorem Rd.below {w w' : World} {xs : List Int} {v : Value} (h : Rd w xs v) (hb : Below w.heap.size w w') : Rd w' xs v := by
  obtain ⟨a, c, h1, h2, h3⟩ := h
  refine ⟨a, c, h1, h2, fun j u hu => ?_⟩
  obtain ⟨ad, e1, e2, e3⟩ := h3 j u hu
  have e4 : ad.block < w.heap.size := e3
  refine ⟨ad, e1, ?_, Nat.lt_of_lt_of_le e4 hb.size⟩
  rw [World.cell?_of_block (w := w) (w' := w')]
  · exact e2
  · rw [add_block]; exact hb.block _ e4
def ρ1 (v : Value) : Go.Ev.Ren := fun k => if k = 0 then some (.sv v) else none
theorem hr1 {w : World} {xs : List Int} {v : Value} (h : Rd w xs v) : HR w (Old w) (ρ1 v) [.ext 2 sh1 xs] := by
  refine ⟨fun k b hk => ?_, fun k b k' b' r r' g hne h1 h2 _ _ _ => ?_, fun k hk => ?_, Le.refl _⟩
  · cases k with
    | zero => simp at hk; subst hk; exact .inr ⟨_, rfl, by decide, h⟩
    | succ k => simp at hk
  · have l1 := (List.getElem?_eq_some_iff.1 h1).1
    have l2 := (List.getElem?_eq_some_iff.1 h2).1
    simp at l1 l2
    omega
  · simp at hk
    simp only [ρ1]
    rw [if_neg (by omega)]
theorem vr1 {w : World} {xs : List Int} {v : Value} (h : Rd w xs v) : VR (ρ1 v) (.sl 0) v := by
  obtain ⟨a, c, rfl, _, _⟩ := h
  exact ⟨rfl, _, _, _, rfl⟩

abbrev sh7 : List SK := [.int .i64, .int .i64, .int .i64, .int .i64, .int .i64, .int .i64, .int .i64]
theorem Of_calls (N : Nat) {w : World} {xs : List Int} {v : Value} (h : Rd w xs v) {m su le mo ha ni la : Int} (hr : W.stats_Of N xs = some (m, (su, (le, (mo, (ha, (ni, la))))))) :
    Calls Tryd.prog 8 #[v] w fun e w' => e = .returned (.agg #[.int .i64 m, .int .i64 su, .int .i64 le, .int .i64 mo, .int .i64 ha, .int .i64 ni, .int .i64 la]) ∧ Below w.heap.size w w' := by
  refine (calls_plain (W.t_stats_Of N) (by kernel_rfl) (az := [.sl 0]) (ρ := ρ1 v) (t := ((), (xs, ()))) (.cons (vr1 h) .nil) (hr1 h) (by kernel_rfl) hr rfl).mono fun e w' hx => ?_
  obtain ⟨u, rfl, hb, ρ', c, rfl, hc⟩ := hx
  refine ⟨?_, hb⟩
  have e := Row.vals_of_rel (sh := sh7) (x := (m, (su, (le, (mo, (ha, (ni, la))))))) hc
  obtain ⟨l⟩ := c
  simp only at e
  rw [e]
  rfl

set_option maxHeartbeats 1600000 in
set_option maxRecDepth 100000 in
theorem Line_calls (N : Nat) {w : World} {xs : List Int} {v : Value} (h : Rd w xs v) {m su le mo ha ni la : Int} (hr : W.stats_Of N xs = some (m, (su, (le, (mo, (ha, (ni, la)))))))
    (hI : ∀ x ∈ [m, su, le, mo, ha, ni, la], -9223372036854775808 ≤ x ∧ x ≤ 9223372036854775807) (name : ByteArray) (hn : name.size ≤ 1000) (htab : Tab w) :
    Calls Tryd.prog 10 #[.string name, v] w fun e w' => e = .returned (.string (name ++ ⟨(numG [m, su, le, mo, ha, ni, la] ++ [10]).toArray⟩)) ∧ Below w.heap.size w w' := by
  have hT := Lib.tabBelow_of_tabIs htab
  have hlen := numG_len _ hI
  have hsz : ¬ 9223372036854775807 < name.size + ((numG [m, su, le, mo, ha, ni, la]).length + 1) := by
    simp only [List.length_cons, List.length_nil] at hlen
    omega
  have hz : ∀ (W : World) (T : TypeId) (k : Nat) (x : Int), [m, su, le, mo, ha, ni, la][k]? = some x → (W.alloc (.cells #[.int .i64 m, .int .i64 su, .int .i64 le, .int .i64 mo, .int .i64 ha, .int .i64 ni, .int .i64 la] T)).cell? ⟨W.heap.size, 0 + k, none⟩ = some (.int .i64 x) := by
    intro W T k x hx
    rw [Nat.zero_add, World.cell?_alloc_mark]
    show (([m, su, le, mo, ha, ni, la].map (Value.int .i64)).toArray)[k]? = _
    simp only [List.getElem?_toArray, List.getElem?_map, hx, Option.map_some]
  go_enter Tryd.func10, Tryd.ntmps10
  go_wp2_with (first
    | (go_at_call 8; refine (Of_calls N (h.below (Below.refl _ _)) hr).mono ?_; rintro e w1 ⟨rfl, b1⟩))
  have b2 := b1.alloc b1.size (.cells #[.int .i64 m, .int .i64 su, .int .i64 le, .int .i64 mo, .int .i64 ha, .int .i64 ni, .int .i64 la] 27)
  have b3 := b2.alloc b2.size (.cells #[.int .i64 m, .int .i64 su, .int .i64 le, .int .i64 mo, .int .i64 ha, .int .i64 ni, .int .i64 la] 2)
  have hz2 := hz (w1.alloc (.cells #[.int .i64 m, .int .i64 su, .int .i64 le, .int .i64 mo, .int .i64 ha, .int .i64 ni, .int .i64 la] 27)) 2
  rw [World.size_alloc] at hz2
  refine (numbersG_calls (w1.heap.size + 1) 0 7 [m, su, le, mo, ha, ni, la] _ hI (by simp) (by simp) hz2 (hT _ b3)).mono ?_
  rintro e w3 ⟨rfl, b4⟩
  dsimp only
  go_wp2
  go_ret
  exact ⟨rfl, b3.trans (b4.mono b3.size)⟩
end Go.Proofs.YtdoiofdepmiejaaDoor
