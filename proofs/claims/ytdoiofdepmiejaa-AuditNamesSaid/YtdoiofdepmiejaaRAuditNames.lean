/- The law AuditNames holds of the program, for every input: the walk of its code by the evaluator, joined with what it computes. -/
import Derived.Test.YtdoiofdepmiejaaPNames
import Derived.Test.YtdoiofdepmiejaaW1
namespace Go.Proofs.Ytdoiofdepmiejaa.auditNames
open Go.ChangeShapes Go.WideShapes Go.ChangeAt Go.RowKit Go.Ev
theorem own : ownKnob Try.prog.godebug = none := by kernel_rfl
theorem laidOut : laidOutB Try.prog = true := by kernel_rfl
theorem und : Try.prog.underlying 4 = some .bool := by kernel_rfl
set_option maxRecDepth 100000 in
theorem lifted (os : Os) (started : os.Started) (H : Type) (enc : TypeId × Value → H) :
    ReturnsInHanded {} Try.checked os 3 .any (Rows.auditNamesSpec.pre6 enc Try.prog Try.f3 Rows.auditNamesRow.domain false) (Rows.auditNamesSpec.post enc Try.prog Try.f3 false true false false) := by
  refine returnsInHanded_of_change_sized (C := Try.checked) own started (by kernel_rfl) Try.func3
    (ChangeSpec.witness6 (enc := enc) (C := Try.checked) false ⟨#[], #[.int .i64 0, .slice none 0 0], []⟩ 8 (by kernel_rfl) (by kernel_rfl) (by kernel_rfl) (by kernel_rfl)) ?_
  intro W0 base args ds gs before hval0 hW _ _ _
  have hW' := hW
  obtain ⟨p, q, hA, hV, rfl, hfz, hnd⟩ := hW
  have hA' : DataW.TrodAll enc Try.prog W0 0 (fun _ => true) true Try.f3.params.toList args.toList ds p := hA
  refine (law_ok W.facts (W.okL_leatlaw51_AuditNames) (by kernel_rfl) Try.func3 W.q_leatlaw51_AuditNames (ks := [.sc (.int .i64), .row 32 [.int .i64, .int .i64]]) (f := W.leatlaw51_AuditNames) (by kernel_rfl) W.w_leatlaw51_AuditNames Pure.AuditNames hval0 hA').mono fun e W' ⟨he, bel⟩ => ?_
  subst he
  have hB := args_back laidOut bel (by kernel_rfl) hA'
  rw [Try.params3] at hA' hB
  obtain ⟨v0, vs0, d0, ds0, p0, q0, hargs, rfl, rfl, _, r0⟩ := trodAll_cons hA'
  obtain ⟨v1, vs1, d1, ds1, p1, q1, rfl, rfl, rfl, _, r1⟩ := trodAll_cons r0
  obtain ⟨rfl, rfl, rfl⟩ := trodAll_nil r1
  obtain rfl : args = #[v0, v1] := by cases args; simp_all
  obtain ⟨rfl, rfl⟩ := trodVars_none hV
  exact ⟨_, rfl, _, _, _, [], _, [], hW', trodAll_mk1 (shut_bool und _), by rw [Try.params3]; exact hB, rfl, bel.frame _, fun h => by cases h⟩
theorem over : Rows.auditNamesRow.holds Try.pinned (OpenSpec.ofChange Rows.auditNamesSpec) :=
  OpenClaim.holds_of_wide 3 Try.f3 rfl rfl rfl rfl rfl rfl rfl ⟨rfl, rfl, rfl, rfl, rfl⟩ rfl rfl rfl rfl rfl (by kernel_rfl) Try.func3 (by kernel_rfl)
    (of_decide_eq_true (by kernel_rfl)) (by unfold Func.isWrapper; first | (rw [if_pos (by decide +kernel)]; kernel_rfl) | (rw [if_neg (by decide +kernel)]; exact ⟨rfl, rfl⟩))
    (fun os started H enc _ => lifted os started H enc)
theorem proved : Rows.AuditNamesSaid := over
end Go.Proofs.Ytdoiofdepmiejaa.auditNames
namespace Go.Proofs.Ytdoiofdepmiejaa
/-- The statement, under a short name, for the claim. -/
theorem auditNames_holds : Rows.AuditNamesSaid := auditNames.proved
#print axioms auditNames_holds
end Go.Proofs.Ytdoiofdepmiejaa
