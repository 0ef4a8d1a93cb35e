/- What the laws of the turns compute is true: the program's turn and the document's are the same numbers. -/
import Derived.Test.YtfiiifogplhppaaPTim
namespace Go.Proofs.Ytfiiifogplhppaa.Pure
open Go.Ev Go.RowKit
theorem f48_eq (N : Nat) (a : Int) : W.f48 N a = some (cl a 0 65536) := by simp only [W.f48, f44_eq, Option.bind_some]
theorem f49_eq (N : Nat) (a : Int) : W.f49 N a = some (cl a 0 1099511627776) := by simp only [W.f49, f44_eq, Option.bind_some]
theorem f50_eq (N : Nat) (a hi : Int) (h : 0 ≤ hi) : W.f50 N a hi = some (cl a 0 hi) := by
  simp only [W.f50, cl, Option.some.injEq]
  repeat' split
  all_goals omega
theorem f20_f21 (N : Nat) (a p q : Int) : ∃ r, W.f20 N a p q = some r ∧ W.f21 N a p q = some r := by
  simp only [W.f20, W.f21, f48_eq, f49_eq, f50_eq N _ 65536 (by omega), f50_eq N _ 1099511627776 (by omega), Option.bind_some]
  generalize (cl p 0 65536 == 0) = b0
  generalize (cl q 0 65536 == 0) = b1
  generalize decide (0 < cl q 0 65536) = b2
  generalize decide (IntKind.wrap .i64 (15 * cl q 0 65536) ≤ cl a 0 1099511627776) = b3
  cases b0 <;> cases b1 <;> cases b2 <;> cases b3 <;> exact ⟨_, rfl, rfl⟩
theorem cl_top (x : Int) (h : 0 ≤ x) : cl x 0 1099511627776 = if 1099511627776 < x then 1099511627776 else x := by
  simp only [cl]; split <;> omega
theorem cl_low (x : Int) (h : x ≤ 1099511627776) : cl x 0 1099511627776 = if 0 > x then 0 else x := by
  simp only [cl]; split <;> omega
theorem f22_f23 (N : Nat) (a k p : Int) (w : Bool) : ∃ r, W.f22 N a k p w = some r ∧ W.f23 N a k p w = some r := by
  simp only [W.f22, W.f23, f48_eq, f49_eq, f50_eq N _ 65536 (by omega), f50_eq N _ 1099511627776 (by omega), Option.bind_some]
  by_cases h1 : k = 1
  · subst h1
    cases w
    · exact ⟨_, rfl, rfl⟩
    · refine ⟨_, rfl, ?_⟩
      show some _ = some _
      congr 1
      have : IntKind.wrap .i64 (cl a 0 1099511627776 + cl p 0 65536) = cl a 0 1099511627776 + cl p 0 65536 := wrapI64 (by simp only [cl]; omega) (by simp only [cl]; omega)
      rw [this]
      exact cl_top _ (by simp only [cl]; omega)
  · by_cases h2 : k = 2
    · subst h2
      cases w
      · exact ⟨_, rfl, rfl⟩
      · refine ⟨_, rfl, ?_⟩
        show some _ = some _
        congr 1
        have e : IntKind.wrap .i64 (15 * cl p 0 65536) = 15 * cl p 0 65536 := wrapI64 (by simp only [cl]; omega) (by simp only [cl]; omega)
        have : IntKind.wrap .i64 (cl a 0 1099511627776 - 15 * cl p 0 65536) = cl a 0 1099511627776 - 15 * cl p 0 65536 := wrapI64 (by simp only [cl]; omega) (by simp only [cl]; omega)
        rw [e, this]
        exact cl_low _ (by simp only [cl]; omega)
    · have e1 : (k == 1) = false := by simpa using h1
      have e2 : (k == 2) = false := by simpa using h2
      rw [e1, e2]
      exact ⟨_, rfl, rfl⟩
theorem ex24 : W.f24 20 = some true := by kernel_rfl
theorem picks (a : Int) (t : Int × Int × Int) (w : Bool) : W.f5 20 a t w = some true := by
  obtain ⟨r, h1, h2⟩ := f20_f21 20 a t.1 t.2.1
  obtain ⟨s, h3, h4⟩ := f22_f23 20 a (Int.tmod t.2.2 4) t.1 w
  simp only [W.f5, h1, h2, h3, h4, Option.bind_some, beq_self_eq_true, Bool.and_self, cond_true, ex24]
theorem TurnPicks (x : RT [.agg [.int .i64], .agg [.int .i64, .int .i64, .int .i64], .sc .bool]) (_h : RT.wf [.agg [.int .i64], .agg [.int .i64, .int .i64, .int .i64], .sc .bool] x) : ∃ N, uncR [.agg [.int .i64], .agg [.int .i64, .int .i64, .int .i64], .sc .bool] (W.f5 N) x = some true :=
  ⟨20, picks x.1 x.2.1 x.2.2⟩
end Go.Proofs.Ytfiiifogplhppaa.Pure
