/- The law's own walk, its callees by their contracts. -/
import Derived.Test.YtdoiofdepmiejaaDoorPCallG
namespace Go.Proofs.YtdoiofdepmiejaaDoor
open Go.Ev Go.RowKit

theorem all2_vals {sh : List SK} {x : Row sh} {ρ : Go.Ev.Ren} {c : Array Value} (h : All2 (LR ρ) (Row.toAVs sh x) c.toList) : c = (Row.vals sh x).toArray := by
  have e := Row.vals_of_rel h
  obtain ⟨l⟩ := c
  simp only at e
  rw [e]
theorem Rank_calls {N g : Nat} {f : Nat → Cur [.row 2 sh1, .sc (.int .i64), .sc (.int .i64)] (Option (RT [.sc (.int .i64), .sc .bool]))} (hF : FCOK Tryd.prog N g (mkF [.row 2 sh1, .sc (.int .i64), .sc (.int .i64)] [.sc (.int .i64), .sc .bool] f)) (hb : hasBody Tryd.prog g = true)
    {w : World} {xs : List Int} {v : Value} (h : Rd w xs v) {a b p : Int} {q : Bool} (hr : f N xs a b = some (p, q)) :
    Calls Tryd.prog g #[v, .int .i64 a, .int .i64 b] w fun e w' => e = .returned (.tuple #[.int .i64 p, .bool q]) ∧ Below w.heap.size w w' := by
  refine (calls_plain hF hb (az := [.sl 0, .int .i64 a, .int .i64 b]) (ρ := ρ1 v) (t := ((a, (b, ())), (xs, ()))) (.cons (vr1 h) (.cons rfl (.cons rfl .nil))) (hr1 h) (by kernel_rfl) hr rfl).mono fun e w' hx => ?_
  obtain ⟨u, rfl, hb, ρ', c, rfl, hc⟩ := hx
  refine ⟨?_, hb⟩
  obtain ⟨l⟩ := c
  cases hc with
  | cons h1 q1 => cases q1 with
    | cons h2 q2 =>
      cases q2
      have e1 : _ = Value.int .i64 p := h1
      have e2 : _ = Value.bool q := h2
      rw [e1, e2]
theorem ofR_calls {N g : Nat} {f : Nat → Cur [.row 2 sh1] (Option (RT [.agg sh7]))} (hF : FCOK Tryd.prog N g (mkF [.row 2 sh1] [.agg sh7] f)) (hb : hasBody Tryd.prog g = true) {w : World} {xs : List Int} {v : Value} (h : Rd w xs v) {m su le mo ha ni la : Int}
    (hr : f N xs = some (m, (su, (le, (mo, (ha, (ni, la))))))) :
    Calls Tryd.prog g #[v] w fun e w' => e = .returned (.agg #[.int .i64 m, .int .i64 su, .int .i64 le, .int .i64 mo, .int .i64 ha, .int .i64 ni, .int .i64 la]) ∧ Below w.heap.size w w' := by
  refine (calls_plain hF hb (az := [.sl 0]) (ρ := ρ1 v) (t := ((), (xs, ()))) (.cons (vr1 h) .nil) (hr1 h) (by kernel_rfl) hr rfl).mono fun e w' hx => ?_
  obtain ⟨u, rfl, hb, ρ', c, rfl, hc⟩ := hx
  refine ⟨?_, hb⟩
  rw [all2_vals (sh := sh7) (x := (m, (su, (le, (mo, (ha, (ni, la))))))) hc]
  rfl
theorem line_calls {N g : Nat} {f : Nat → Cur [.sc .str, .row 2 sh1] (Option (RT [.sc .str]))} (hF : FCOK Tryd.prog N g (mkF [.sc .str, .row 2 sh1] [.sc .str] f)) (hb : hasBody Tryd.prog g = true) {w : World} {xs : List Int} {v : Value} (h : Rd w xs v) {s r : ByteArray}
    (hr : f N s xs = some r) : Calls Tryd.prog g #[.string s, v] w fun e w' => e = .returned (.string r) ∧ Below w.heap.size w w' := by
  refine (calls_plain hF hb (az := [.str s, .sl 0]) (ρ := ρ1 v) (t := ((s, ()), (xs, ()))) (.cons rfl (.cons (vr1 h) .nil)) (hr1 h) (by kernel_rfl) hr rfl).mono fun e w' hx => ?_
  obtain ⟨u, rfl, hb, ρ', hc⟩ := hx
  obtain rfl : u = .string r := hc
  exact ⟨rfl, hb⟩
theorem hr0 (w : World) : HR w (Old w) (fun _ => none) [] := ⟨fun k b hk => by simp at hk, fun k b k' b' r r' g _ h1 => by simp at h1, fun _ _ => rfl, Le.refl _⟩
theorem bool_calls {N g : Nat} {f : Nat → Cur [] (Option (RT [.sc .bool]))} (hF : FCOK Tryd.prog N g (mkF [] [.sc .bool] f)) (hb : hasBody Tryd.prog g = true) (w : World) {r : Bool} (hr : f N = some r) : Calls Tryd.prog g #[] w fun e w' => e = .returned (.bool r) ∧ Below w.heap.size w w' := by
  refine (calls_plain hF hb (az := []) (ρ := fun _ => none) (t := ((), ())) .nil (hr0 w) (by kernel_rfl) hr rfl).mono fun e w' hx => ?_
  obtain ⟨u, rfl, hb, ρ', hc⟩ := hx
  obtain rfl : u = .bool r := hc
  exact ⟨rfl, hb⟩

theorem rd_cut {w : World} {xs : List Int} {aa : Option Addr} {c : Nat} (h : Rd w xs (.slice aa xs.length c)) : Rd w (xs.take 60) (.slice aa (min ((xs.length : Nat) : Int) 60).toNat c) := by
  obtain ⟨a, c', h1, h2, h3⟩ := h
  cases h1
  have hl : (min ((xs.length : Nat) : Int) 60).toNat = (xs.take 60).length := by simp; omega
  refine ⟨aa, c, by rw [hl], by simp; omega, fun j u hu => h3 j u ?_⟩
  have e : flat sh1 xs = flat sh1 (xs.take 60) ++ flat sh1 (xs.drop 60) := by rw [← flat_append, List.take_append_drop]
  rw [e, List.getElem?_append_left (List.getElem?_eq_some_iff.1 hu).1]
  exact hu

def abT : ByteArray := ⟨#[97, 32, 98]⟩
set_option maxHeartbeats 4000000 in
set_option maxRecDepth 100000 in
theorem law_calls (N : Nat) {w : World} {xs : List Int} {aa : Option Addr} {c : Nat} (h : Rd w xs (.slice aa xs.length c)) (x y : Int) (htab : Tab w) (hw : W.leatlaw52_works N = some true) {p : Int} {q : Bool} {m su le mo ha ni la : Int}
    (e6 : W.stats_Rank N (xs.take 60) x y = some (p, q)) (e7 : W.leatref52_Rank N (xs.take 60) x y = some (p, q)) (e8 : W.stats_Of N (xs.take 60) = some (m, (su, (le, (mo, (ha, (ni, la))))))) (e9 : W.leatref52_Of N (xs.take 60) = some (m, (su, (le, (mo, (ha, (ni, la)))))))
    (hI : ∀ x ∈ [m, su, le, mo, ha, ni, la], -9223372036854775808 ≤ x ∧ x ≤ 9223372036854775807) (e11 : W.leatref52_Line N abT (xs.take 60) = some (abT ++ ⟨(numG [m, su, le, mo, ha, ni, la] ++ [10]).toArray⟩)) :
    Calls Tryd.prog 3 #[.slice aa xs.length c, .agg #[.int .i64 x, .int .i64 y]] w fun e w' => e = .returned (.bool true) ∧ Below w.heap.size w w' := by
  have hlc : xs.length ≤ c := by obtain ⟨a, c', h1, h2, _⟩ := h; cases h1; exact h2
  have hT := Lib.tabBelow_of_tabIs htab
  have b0 : Below w.heap.size w (w.alloc (.cells #[.int .i64 x, .int .i64 y] 23)) := (Below.refl _ w).alloc (Nat.le_refl _) _
  have hA : Rd (w.alloc (.cells #[.int .i64 x, .int .i64 y] 23)) (xs.take 60) (.slice aa (min ((xs.length : Nat) : Int) 60).toNat c) := (rd_cut h).below b0
  have c0 : (w.alloc (.cells #[.int .i64 x, .int .i64 y] 23)).cell? ⟨w.heap.size, 0, none⟩ = some (.int .i64 x) := by rw [World.cell?_alloc_mark]; rfl
  have c1 : (w.alloc (.cells #[.int .i64 x, .int .i64 y] 23)).cell? ⟨w.heap.size, 1, none⟩ = some (.int .i64 y) := by rw [World.cell?_alloc_mark]; rfl
  have hlt : w.heap.size < (w.alloc (.cells #[.int .i64 x, .int .i64 y] 23)).heap.size := by rw [World.size_alloc]; omega
  generalize hwa : w.alloc (.cells #[.int .i64 x, .int .i64 y] 23) = wa at *
  go_enter Tryd.func3, Tryd.ntmps3
  go_wp2_with (first
    | (go_at_call 6; refine (Rank_calls (W.t_stats_Rank N) (by kernel_rfl) hA e6).mono ?_; rintro e w6 ⟨rfl, b6⟩; have c60 : w6.cell? ⟨w.heap.size, 0, none⟩ = some (.int .i64 x) := (World.cell?_of_block (b6.block _ hlt)).trans c0; have c61 : w6.cell? ⟨w.heap.size, 1, none⟩ = some (.int .i64 y) := (World.cell?_of_block (b6.block _ hlt)).trans c1; have b06 := b0.trans (b6.mono b0.size))
    | (go_at_call 7; refine (Rank_calls (W.t_leatref52_Rank N) (by kernel_rfl) (hA.below b6) e7).mono ?_; rintro e w7 ⟨rfl, b7⟩; have b07 := b06.trans (b7.mono b06.size))
    | (go_at_call 8; refine (ofR_calls (W.t_stats_Of N) (by kernel_rfl) ((hA.below b6).below b7) e8).mono ?_; rintro e w8 ⟨rfl, b8⟩; have b08 := b07.trans (b8.mono b07.size))
    | (go_at_call 9; refine (ofR_calls (W.t_leatref52_Of N) (by kernel_rfl) (((hA.below b6).below b7).below b8) e9).mono ?_; rintro e w9 ⟨rfl, b9⟩; have b09 := b08.trans (b9.mono b08.size))
    | (go_at_call 10; refine (Line_calls N ((((hA.below b6).below b7).below b8).below b9) e8 hI abT (by decide) (hT _ b09)).mono ?_; rintro e w10 ⟨rfl, b10⟩; have b010 := b09.trans (b10.mono b09.size))
    | (go_at_call 11; refine (line_calls (W.t_leatref52_Line N) (by kernel_rfl) (((((hA.below b6).below b7).below b8).below b9).below b10) e11).mono ?_; rintro e w11 ⟨rfl, b11⟩; have b011 := b010.trans (b11.mono b010.size))
    | (go_at_call 12; refine (bool_calls (W.t_leatlaw52_works N) (by kernel_rfl) _ hw).mono ?_; rintro e w12 ⟨rfl, b12⟩; have b012 := b011.trans (b12.mono b011.size)))
  go_ret
  exact ⟨rfl, b012⟩
end Go.Proofs.YtdoiofdepmiejaaDoor
