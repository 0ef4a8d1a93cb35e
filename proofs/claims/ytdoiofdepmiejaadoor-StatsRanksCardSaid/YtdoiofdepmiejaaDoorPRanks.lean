/- The law of ranks: its walk and what it computes, joined. -/
import Derived.Test.YtdoiofdepmiejaaDoorPLawG
import Derived.Test.YtdoiofdepmiejaaDoorPStatsK
import Derived.LaidMore
import Derived.Lib.LaidTab
import Derived.Stop.Joined
namespace Go.Proofs.YtdoiofdepmiejaaDoor
open Go.Ev Go.RowKit

theorem gTab : Tryd.prog.globalNamed "internal/strconv.uint64pow10" = some 0 := by kernel_rfl
theorem gTabT : (Tryd.prog.globals[0]?).map (·.type) = some 125 := by kernel_rfl
theorem tTab : Tryd.prog.underlying 125 = some (.array 20 56) := by kernel_rfl
theorem tab_of {W : World} (h : laidMetH Tryd.prog Rows.statsRanksRow.laid W) : Tab W := by
  rw [MakeChecks.laidMetH_plain _ _ _ (by kernel_rfl)] at h
  obtain ⟨ps, ⟨g0, t0, cs0, f0, p0, q0, hg0, ht0, hv0, hd0, ⟨g1, t1, cs1, f1, p1, q1, hg1, ht1, hv1, hd1, ⟨g2, t2, cs2, f2, p2, q2, hg2, ht2, hv2, hd2, _, _⟩, _⟩, _⟩, _⟩ := h
  obtain rfl := Option.some.inj (gTab.symm.trans hg2)
  obtain rfl := Option.some.inj (gTabT.symm.trans ht2)
  unfold Tab Lib.TabIs
  rw [hv2, ← Lib.cells_of_tab (k := .u64) (zs := Lib.pow10Tab) tTab (by kernel_rfl) (by kernel_rfl) (by kernel_rfl) hd2]

set_option maxRecDepth 100000 in
theorem ranks_law {H : Type} {enc : TypeId × Value → H} {w : World} {held : Bool} {b0 : Nat} {args : Array Value} {ds : List (DataW H)} {ps : List MemPlace} (hval : ∀ (j : Nat) t v, Tryd.f3.params[j]? = some t → args[j]? = some v → Value.okWide Tryd.prog w .any b0 t v)
    (h : DataW.TrodAll enc Tryd.prog w 0 (fun _ => true) held Tryd.f3.params.toList args.toList ds ps) (htab : Tab w) : Calls Tryd.prog 3 args w fun e W' => e = .returned (.bool true) ∧ Below w.heap.size w W' := by
  obtain ⟨x, hw, hx⟩ := open_args (rs := [.row 2 sh1, .agg [.int .i64, .int .i64]]) (by kernel_rfl) (fun j t v h1 h2 => hval j t v (by simpa using h1) (by simpa using h2)) h
  obtain ⟨rows, _, hr⟩ := hx 0
  let ρ : Go.Ev.Ren := fun k => (rows[k]?).map .sv
  obtain ⟨h1, h2⟩ := hr ρ (fun j v hj => by simp only [ρ, Nat.zero_add, hj]; rfl)
  obtain ⟨xs, a, b⟩ := x
  obtain ⟨v, hv, _, hB⟩ := h2 0 (.ext 2 sh1 xs) rfl
  obtain ⟨l⟩ := args
  cases h1 with
  | cons r1 q1 => cases q1 with
  | cons r2 q2 =>
  cases q2
  obtain ⟨e1, _⟩ := r1
  have e2 : ρ 0 = some (.sv v) := by simp only [ρ, hv]; rfl
  rw [e2] at e1
  cases e1
  obtain ⟨_, hext⟩ := hB
  have hRd : Rd w xs v := hext
  obtain ⟨aa, c, rfl, _⟩ := hext
  obtain ⟨cc, rfl, hc⟩ := r2
  rw [all2_vals (sh := [.int .i64, .int .i64]) (x := (a, b)) hc]
  have hxs : ∀ z ∈ xs, Pure.I64 z := fun z hz => i64_range (hw.1.2 z hz)
  have hx6 : ∀ z ∈ xs.take 60, Pure.I64 z := fun z hz => hxs z (List.mem_of_mem_take hz)
  have hl6 : (xs.take 60).length ≤ 1000 := by simp; omega
  obtain ⟨N, hN, hworks⟩ : ∃ N, 2000 < N ∧ W.leatlaw52_works N = some true := ⟨2001, by omega, by kernel_rfl⟩
  obtain ⟨p, q, e6, e7, _⟩ := Pure.Rank_both N hN (xs.take 60) hl6 hx6 a b (i64_range hw.2.1) (i64_range hw.2.2)
  obtain ⟨m, su, le, mo, ha, ni, la, e8, e9, hI⟩ := Pure.Of_both N hN (xs.take 60) hl6 hx6
  have e11 := Pure.Line_ref N hN [97, 32, 98] (by decide) (xs.take 60) e9 hI
  rw [← Pure.bA_app] at e11
  exact law_calls N hRd a b htab hworks e6 e7 e8 e9 hI e11
end Go.Proofs.YtdoiofdepmiejaaDoor
