/- The law MeterMargins holds of the program, for every input: the walk of its code by the evaluator, joined with what it computes. -/
import Derived.Test.YtakjmminaolfnaaPMargin
import Derived.Test.YtakjmminaolfnaaW1
namespace Go.Proofs.Ytakjmminaolfnaa.meterMargins
open Go.ChangeShapes Go.WideShapes Go.ChangeAt Go.RowKit Go.Ev
theorem own : ownKnob Try.prog.godebug = none := by kernel_rfl
theorem laidOut : laidOutB Try.prog = true := by kernel_rfl
theorem und : Try.prog.underlying 4 = some .bool := by kernel_rfl
set_option maxRecDepth 100000 in
theorem lifted (os : Os) (started : os.Started) (H : Type) (enc : TypeId × Value → H) :
    ReturnsInHanded {} Try.checked os 12 .any (Rows.meterMarginsSpec.pre6 enc Try.prog Try.f12 Rows.meterMarginsRow.domain false) (Rows.meterMarginsSpec.post enc Try.prog Try.f12 false true false false) := by
  refine returnsInHanded_of_change_sized (C := Try.checked) own started (by kernel_rfl) Try.func12
    (ChangeSpec.witness6 (enc := enc) (C := Try.checked) false ⟨#[], #[.slice none 0 0, .slice none 0 0, .agg #[.int .i64 0, .int .i64 0]], []⟩ 8 (by kernel_rfl) (by kernel_rfl) (by kernel_rfl) (by kernel_rfl)) ?_
  intro W0 base args ds gs before hval0 hW _ _ _
  have hW' := hW
  obtain ⟨p, q, hA, hV, rfl, hfz, hnd⟩ := hW
  have hA' : DataW.TrodAll enc Try.prog W0 0 (fun _ => true) true Try.f12.params.toList args.toList ds p := hA
  refine (law_ok W.facts (W.okL_leatlaw44_MeterMargins) (by kernel_rfl) Try.func12 W.q_leatlaw44_MeterMargins (ks := [.row 83 [.int .i64, .int .i64, .int .i64, .int .i64, .int .i64, .int .i64], .row 2 [.int .i64], .agg [.int .i64, .int .i64]]) (f := W.leatlaw44_MeterMargins) (by kernel_rfl) W.w_leatlaw44_MeterMargins Pure.MeterMargins hval0 hA').mono fun e W' ⟨he, bel⟩ => ?_
  subst he
  have hB := args_back laidOut bel (by kernel_rfl) hA'
  rw [Try.params12] at hA' hB
  obtain ⟨v0, vs0, d0, ds0, p0, q0, hargs, rfl, rfl, _, r0⟩ := trodAll_cons hA'
  obtain ⟨v1, vs1, d1, ds1, p1, q1, rfl, rfl, rfl, _, r1⟩ := trodAll_cons r0
  obtain ⟨v2, vs2, d2, ds2, p2, q2, rfl, rfl, rfl, _, r2⟩ := trodAll_cons r1
  obtain ⟨rfl, rfl, rfl⟩ := trodAll_nil r2
  obtain rfl : args = #[v0, v1, v2] := by cases args; simp_all
  obtain ⟨rfl, rfl⟩ := trodVars_none hV
  exact ⟨_, rfl, _, _, _, [], _, [], hW', trodAll_mk1 (shut_bool und _), by rw [Try.params12]; exact hB, rfl, bel.frame _, fun h => by cases h⟩
theorem over : Rows.meterMarginsRow.holds Try.pinned (OpenSpec.ofChange Rows.meterMarginsSpec) :=
  OpenClaim.holds_of_wide 12 Try.f12 rfl rfl rfl rfl rfl rfl rfl ⟨rfl, rfl, rfl, rfl, rfl⟩ rfl rfl rfl rfl rfl (by kernel_rfl) Try.func12 (by kernel_rfl)
    (of_decide_eq_true (by kernel_rfl)) (by unfold Func.isWrapper; first | (rw [if_pos (by decide +kernel)]; kernel_rfl) | (rw [if_neg (by decide +kernel)]; exact ⟨rfl, rfl⟩))
    (fun os started H enc _ => lifted os started H enc)
theorem proved : Rows.MeterMarginsSaid := over
end Go.Proofs.Ytakjmminaolfnaa.meterMargins
namespace Go.Proofs.Ytakjmminaolfnaa
/-- The row, under a short name, for the claim. -/
theorem meterMargins_holds : Rows.MeterMarginsSaid := meterMargins.proved
#print axioms meterMargins_holds
end Go.Proofs.Ytakjmminaolfnaa
