/- The law ChainKeeps holds of the program, for every input: the walk of its code by the evaluator, joined with what it computes. -/
import Derived.Test.YtgjmfljogaanfaaGreatPChK
import Derived.Test.YtgjmfljogaanfaaGreatW1
namespace Go.Proofs.YtgjmfljogaanfaaGreat.chainKeeps
open Go.ChangeShapes Go.WideShapes Go.ChangeAt Go.RowKit Go.Ev
theorem own : ownKnob Tryz.prog.godebug = none := by kernel_rfl
theorem laidOut : laidOutB Tryz.prog = true := by kernel_rfl
theorem und : Tryz.prog.underlying 4 = some .bool := by kernel_rfl
set_option maxRecDepth 100000 in
theorem lifted (os : Os) (started : os.Started) (H : Type) (enc : TypeId × Value → H) :
    ReturnsInHanded {} Tryz.checked os 4 .any (Rows.chainKeepsSpec.pre6 enc Tryz.prog Tryz.f4 Rows.chainKeepsRow.domain false) (Rows.chainKeepsSpec.post enc Tryz.prog Tryz.f4 false true false false) := by
  refine returnsInHanded_of_change_sized (C := Tryz.checked) own started (by kernel_rfl) Tryz.func4
    (ChangeSpec.witness6 (enc := enc) (C := Tryz.checked) false ⟨#[], #[.slice none 0 0, .slice none 0 0], []⟩ 8 (by kernel_rfl) (by kernel_rfl) (by kernel_rfl) (by kernel_rfl)) ?_
  intro W0 base args ds gs before hval0 hW _ _ _
  have hW' := hW
  obtain ⟨p, q, hA, hV, rfl, hfz, hnd⟩ := hW
  have hA' : DataW.TrodAll enc Tryz.prog W0 0 (fun _ => true) true Tryz.f4.params.toList args.toList ds p := hA
  refine (law_ok W.facts (W.okL_leatlaw50_ChainKeeps) (by kernel_rfl) Tryz.func4 W.q_leatlaw50_ChainKeeps (ks := [.mix 26 120 [.int .i64, .int .i64, .int .i64, .int .i64, .int .i64, .int .i64, .int .i64, .int .i64, .int .i64, .int .i64] [.int .u32], .row 38 [.int .i64, .int .i64, .int .i64, .int .i64, .int .i64]]) (f := W.leatlaw50_ChainKeeps) (by kernel_rfl) W.w_leatlaw50_ChainKeeps Pure.ChainKeeps hval0 hA').mono fun e W' ⟨he, bel⟩ => ?_
  subst he
  have hB := args_back laidOut bel (by kernel_rfl) hA'
  rw [Tryz.params4] at hA' hB
  obtain ⟨v0, vs0, d0, ds0, p0, q0, hargs, rfl, rfl, _, r0⟩ := trodAll_cons hA'
  obtain ⟨v1, vs1, d1, ds1, p1, q1, rfl, rfl, rfl, _, r1⟩ := trodAll_cons r0
  obtain ⟨rfl, rfl, rfl⟩ := trodAll_nil r1
  obtain rfl : args = #[v0, v1] := by cases args; simp_all
  obtain ⟨rfl, rfl⟩ := trodVars_none hV
  exact ⟨_, rfl, _, _, _, [], _, [], hW', trodAll_mk1 (shut_bool und _), by rw [Tryz.params4]; exact hB, rfl, bel.frame _, fun h => by cases h⟩
theorem over : Rows.chainKeepsRow.holds Tryz.pinned (OpenSpec.ofChange Rows.chainKeepsSpec) :=
  OpenClaim.holds_of_wide 4 Tryz.f4 rfl rfl rfl rfl rfl rfl rfl ⟨rfl, rfl, rfl, rfl, rfl⟩ rfl rfl rfl rfl rfl (by kernel_rfl) Tryz.func4 (by kernel_rfl)
    (of_decide_eq_true (by kernel_rfl)) (by unfold Func.isWrapper; first | (rw [if_pos (by decide +kernel)]; kernel_rfl) | (rw [if_neg (by decide +kernel)]; exact ⟨rfl, rfl⟩))
    (fun os started H enc _ => lifted os started H enc)
theorem proved : Rows.ChainKeepsSaid := over
end Go.Proofs.YtgjmfljogaanfaaGreat.chainKeeps
namespace Go.Proofs.YtgjmfljogaanfaaGreat
/-- The statement, under a short name, for the claim. -/
theorem chainKeeps_holds : Rows.ChainKeepsSaid := chainKeeps.proved
#print axioms chainKeeps_holds
end Go.Proofs.YtgjmfljogaanfaaGreat
