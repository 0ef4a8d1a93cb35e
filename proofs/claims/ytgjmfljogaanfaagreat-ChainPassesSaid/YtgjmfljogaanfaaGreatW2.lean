/- The functions of the seat, as the evaluator tells them, each with its contract. Printed by genW.py. -/
import Derived.Test.YtgjmfljogaanfaaGreatW1
set_option maxRecDepth 100000
namespace Go.Proofs.YtgjmfljogaanfaaGreat.W
open Go.Ev Go.RowKit
def p_leatref36_Same_4 : List Pat := [.sl 0, .sl 1, .any, .any, .any, .sc (.int .i64), .any, .any, .any, .any, .any, .any, .any, .any, .any, .any, .any, .any, .any, .any, .any, .any, .any, .any, .any, .any]
def h_leatref36_Same_4 : List HPat := [.ext 38 [.int .i64, .int .i64, .int .i64, .int .i64, .int .i64], .ext 38 [.int .i64, .int .i64, .int .i64, .int .i64, .int .i64]]
def x_leatref36_Same_4 : List XP := [⟨.ret, [.any, .any, .any, .any, .sc (.bool), .any, .any, .any, .any, .any, .any, .any, .any, .any, .any, .any, .any, .any, .any, .any, .any, .any, .any, .any, .any, .any], []⟩, ⟨.exit 0, [.any, .any, .any, .any, .any, .any, .any, .any, .any, .any, .any, .any, .any, .any, .any, .any, .any, .any, .any, .any, .any, .any, .any, .any, .any, .any], []⟩]
def lc_leatref36_Same_4 (N : Nat) : LC := mkLC 0 p_leatref36_Same_4 h_leatref36_Same_4 x_leatref36_Same_4 (leatref36_Same_L4 N)
def s_leatref36_Same (N : Nat) : List (Nat × LC) := [(4, lc_leatref36_Same_4 N)]
noncomputable def e_leatref36_Same (N : Nat) : Env := mkEnvX 0 [] Tryz.prog o_leatref50_Pass (s_leatref36_Same N) N
theorem k_leatref36_Same_4 (N : Nat) : LCOK (e_leatref36_Same N) 12 (loopAt Tryz.prog 11 0) (lc_leatref36_Same_4 N) := mkLC_ok rfl (by kernel_rfl) (by kernel_rfl) (fun F x => by kernel_rfl)
theorem q_leatref36_Same (N : Nat) : LoopsFor (e_leatref36_Same N) Tryz.prog 11 1 := loops_mk (by kernel_rfl) (fun j hj => match j, hj with
  | 0, _ => .inl ⟨lc_leatref36_Same_4 N, by kernel_rfl, k_leatref36_Same_4 N⟩
  | _ + 1, h => absurd h (by omega)) (fun _ => rfl)
def c_leatref36_Same : FC := mkF [.row 38 [.int .i64, .int .i64, .int .i64, .int .i64, .int .i64], .row 38 [.int .i64, .int .i64, .int .i64, .int .i64, .int .i64]] [.sc (.bool)] leatref36_Same
theorem t_leatref36_Same (N : Nat) : FCOK Tryz.prog N 11 c_leatref36_Same := fun_ok facts (ok_leatref50_Pass N) (by kernel_rfl) (by kernel_rfl) (q_leatref36_Same N) (fun t => by kernel_rfl)
def o_leatref36_Same : List (Nat × FC) := (11, c_leatref36_Same) :: o_leatref50_Pass
theorem ok_leatref36_Same (N : Nat) : OrcOK Tryz.prog o_leatref36_Same N := orc_cons (t_leatref36_Same N) (ok_leatref50_Pass N)
def p_chain_Run_1_1 : List Pat := [.any, .sc (.int .i64), .ptr 0 0, .any, .any, .any, .any, .any, .sl 2, .sc (.int .i64), .sc (.int .i64), .any, .any, .any, .any, .any, .any, .any, .any, .any, .any, .any, .any, .any, .any, .any, .any, .any, .any, .any, .any, .any, .any, .any]
def h_chain_Run_1_1 : List HPat := [.cells [.sl 1], .rows 42 [.int .i64, .int .i64, .int .i64, .int .i64, .int .i64, .int .i64, .int .i64], .ext 38 [.int .i64, .int .i64, .int .i64, .int .i64, .int .i64]]
def x_chain_Run_1_1 : List XP := [⟨.exit 0, [.any, .any, .any, .any, .any, .any, .any, .any, .any, .any, .any, .any, .any, .any, .any, .any, .any, .any, .any, .any, .any, .any, .any, .any, .any, .any, .any, .any, .any, .any, .any, .any, .any, .any], [.cells [.sl 1], .rows 42 [.int .i64, .int .i64, .int .i64, .int .i64, .int .i64, .int .i64, .int .i64]]⟩]
def lc_chain_Run_1_1 (N : Nat) : LC := mkLC 2 p_chain_Run_1_1 h_chain_Run_1_1 x_chain_Run_1_1 (chain_Run_1_L1 N)
def s_chain_Run_1 (N : Nat) : List (Nat × LC) := [(1, lc_chain_Run_1_1 N)]
noncomputable def e_chain_Run_1 (N : Nat) : Env := mkEnvX 2 [] Tryz.prog o_leatref36_Same (s_chain_Run_1 N) N
theorem k_chain_Run_1_1 (N : Nat) : LCOK (e_chain_Run_1 N) 12 (loopAt Tryz.prog 32 0) (lc_chain_Run_1_1 N) := mkLC_ok rfl (by kernel_rfl) (by kernel_rfl) (fun F x => by kernel_rfl)
theorem q_chain_Run_1 (N : Nat) : LoopsFor (e_chain_Run_1 N) Tryz.prog 32 1 := loops_mk (by kernel_rfl) (fun j hj => match j, hj with
  | 0, _ => .inl ⟨lc_chain_Run_1_1 N, by kernel_rfl, k_chain_Run_1_1 N⟩
  | _ + 1, h => absurd h (by omega)) (fun _ => rfl)
def a_chain_Run_1 : List Pat := [.sl 2, .sc (.int .i64), .ptr 0 0]
def b_chain_Run_1 : List HPat := [.cells [.sl 1], .rows 42 [.int .i64, .int .i64, .int .i64, .int .i64, .int .i64, .int .i64, .int .i64], .ext 38 [.int .i64, .int .i64, .int .i64, .int .i64, .int .i64]]
def ra_chain_Run_1 : List Pat := []
def rb_chain_Run_1 : List HPat := [.cells [.sl 1], .rows 42 [.int .i64, .int .i64, .int .i64, .int .i64, .int .i64, .int .i64, .int .i64]]
def c_chain_Run_1 : FC := mkFCH 2 a_chain_Run_1 b_chain_Run_1 ra_chain_Run_1 rb_chain_Run_1 chain_Run_1
theorem t_chain_Run_1 (N : Nat) : FCOK Tryz.prog N 32 c_chain_Run_1 := eff_ok facts (ok_leatref36_Same N) (by kernel_rfl) (by kernel_rfl) (q_chain_Run_1 N) (fun t => by kernel_rfl)
def o_chain_Run_1 : List (Nat × FC) := (32, c_chain_Run_1) :: o_leatref36_Same
theorem ok_chain_Run_1 (N : Nat) : OrcOK Tryz.prog o_chain_Run_1 N := orc_cons (t_chain_Run_1 N) (ok_leatref36_Same N)
def p_chain_Run_4 : List Pat := [.sl 0, .any, .any, .any, .any, .ptr 1 0, .sl 2, .any, .any, .any, .any, .any, .any, .any, .any, .any, .any, .any, .any, .any, .sl 3, .sc (.int .i64), .sc (.int .i64), .any, .any, .any, .any, .any, .any, .any, .any, .any, .any, .any, .any, .any, .any, .any, .any, .any, .any, .any, .any, .any, .any, .any, .any, .any, .any, .any, .any, .any, .any, .any, .any, .any, .any, .any, .any, .any, .any, .any, .any, .any, .any, .any, .any, .any, .any, .any, .any, .any, .any, .any, .any, .any, .any, .any, .any, .any, .any]
def h_chain_Run_4 : List HPat := [.mixe 26 120 [.int .i64, .int .i64, .int .i64, .int .i64, .int .i64, .int .i64, .int .i64, .int .i64, .int .i64, .int .i64] [.int .u32], .cells [.sl 4], .rows 38 [.int .i64, .int .i64, .int .i64, .int .i64, .int .i64], .ext 38 [.int .i64, .int .i64, .int .i64, .int .i64, .int .i64], .rows 42 [.int .i64, .int .i64, .int .i64, .int .i64, .int .i64, .int .i64, .int .i64]]
def x_chain_Run_4 : List XP := [⟨.exit 0, [.sl 0, .any, .any, .any, .any, .ptr 1 0, .sl 2, .any, .any, .any, .any, .any, .any, .any, .any, .any, .any, .any, .any, .any, .any, .any, .any, .any, .any, .any, .any, .any, .any, .any, .any, .any, .any, .any, .any, .any, .any, .any, .any, .any, .any, .any, .any, .any, .any, .any, .any, .any, .any, .any, .any, .any, .any, .any, .any, .any, .any, .any, .any, .any, .any, .any, .any, .any, .any, .any, .any, .any, .any, .any, .any, .any, .any, .any, .any, .any, .any, .any, .any, .any, .any], [.mixe 26 120 [.int .i64, .int .i64, .int .i64, .int .i64, .int .i64, .int .i64, .int .i64, .int .i64, .int .i64, .int .i64] [.int .u32], .cells [.sl 3], .rows 38 [.int .i64, .int .i64, .int .i64, .int .i64, .int .i64], .rows 42 [.int .i64, .int .i64, .int .i64, .int .i64, .int .i64, .int .i64, .int .i64]]⟩]
def lc_chain_Run_4 (N : Nat) : LC := mkLC 0 p_chain_Run_4 h_chain_Run_4 x_chain_Run_4 (chain_Run_L4 N)
def p_chain_Run_13 : List Pat := [.any, .any, .any, .any, .any, .ptr 0 0, .sl 1, .any, .any, .fn 32 [(0, 0)], .any, .any, .any, .any, .any, .any, .any, .any, .any, .any, .any, .any, .any, .any, .any, .any, .any, .any, .any, .any, .any, .any, .any, .any, .any, .any, .any, .any, .any, .any, .any, .any, .any, .any, .any, .any, .any, .any, .any, .any, .any, .any, .any, .any, .any, .any, .any, .sl 2, .sc (.int .i64), .sc (.int .i64), .any, .any, .any, .any, .any, .any, .any, .any, .any, .any, .any, .any, .any, .any, .any, .any, .any, .any, .any, .any, .any]
def h_chain_Run_13 : List HPat := [.cells [.sl 3], .ext 38 [.int .i64, .int .i64, .int .i64, .int .i64, .int .i64], .mixe 26 120 [.int .i64, .int .i64, .int .i64, .int .i64, .int .i64, .int .i64, .int .i64, .int .i64, .int .i64, .int .i64] [.int .u32], .rows 42 [.int .i64, .int .i64, .int .i64, .int .i64, .int .i64, .int .i64, .int .i64]]
def x_chain_Run_13 : List XP := [⟨.exit 2, [.any, .any, .any, .any, .any, .ptr 0 0, .any, .any, .any, .any, .any, .any, .any, .any, .any, .any, .any, .any, .any, .any, .any, .any, .any, .any, .any, .any, .any, .any, .any, .any, .any, .any, .any, .any, .any, .any, .any, .any, .any, .any, .any, .any, .any, .any, .any, .any, .any, .any, .any, .any, .any, .any, .any, .any, .any, .any, .any, .any, .any, .any, .any, .any, .any, .any, .any, .any, .any, .any, .any, .any, .any, .any, .any, .any, .any, .any, .any, .any, .any, .any, .any], [.cells [.sl 1], .rows 42 [.int .i64, .int .i64, .int .i64, .int .i64, .int .i64, .int .i64, .int .i64]]⟩]
def lc_chain_Run_13 (N : Nat) : LC := mkLC 0 p_chain_Run_13 h_chain_Run_13 x_chain_Run_13 (chain_Run_L13 N)
def s_chain_Run (N : Nat) : List (Nat × LC) := [(4, lc_chain_Run_4 N), (13, lc_chain_Run_13 N)]
noncomputable def e_chain_Run (N : Nat) : Env := mkEnvX 0 [] Tryz.prog o_chain_Run_1 (s_chain_Run N) N
theorem k_chain_Run_4 (N : Nat) : LCOK (e_chain_Run N) 12 (loopAt Tryz.prog 13 0) (lc_chain_Run_4 N) := mkLC_ok rfl (by kernel_rfl) (by kernel_rfl) (fun F x => by kernel_rfl)
theorem k_chain_Run_13 (N : Nat) : LCOK (e_chain_Run N) 12 (loopAt Tryz.prog 13 1) (lc_chain_Run_13 N) := mkLC_ok rfl (by kernel_rfl) (by kernel_rfl) (fun F x => by kernel_rfl)
theorem q_chain_Run (N : Nat) : LoopsFor (e_chain_Run N) Tryz.prog 13 2 := loops_mk (by kernel_rfl) (fun j hj => match j, hj with
  | 0, _ => .inl ⟨lc_chain_Run_4 N, by kernel_rfl, k_chain_Run_4 N⟩
  | 1, _ => .inl ⟨lc_chain_Run_13 N, by kernel_rfl, k_chain_Run_13 N⟩
  | _ + 2, h => absurd h (by omega)) (fun _ => rfl)
def c_chain_Run : FC := mkF [.mix 26 120 [.int .i64, .int .i64, .int .i64, .int .i64, .int .i64, .int .i64, .int .i64, .int .i64, .int .i64, .int .i64] [.int .u32], .row 38 [.int .i64, .int .i64, .int .i64, .int .i64, .int .i64]] [.row 42 [.int .i64, .int .i64, .int .i64, .int .i64, .int .i64, .int .i64, .int .i64]] chain_Run
theorem t_chain_Run (N : Nat) : FCOK Tryz.prog N 13 c_chain_Run := fun_ok facts (ok_chain_Run_1 N) (by kernel_rfl) (by kernel_rfl) (q_chain_Run N) (fun t => by kernel_rfl)
def o_chain_Run : List (Nat × FC) := (13, c_chain_Run) :: o_chain_Run_1
theorem ok_chain_Run (N : Nat) : OrcOK Tryz.prog o_chain_Run N := orc_cons (t_chain_Run N) (ok_chain_Run_1 N)
def s_leatlaw50_works (_ : Nat) : List (Nat × LC) := []
noncomputable def e_leatlaw50_works (N : Nat) : Env := mkEnvX 0 [] Tryz.prog o_chain_Run (s_leatlaw50_works N) N
theorem q_leatlaw50_works (N : Nat) : LoopsFor (e_leatlaw50_works N) Tryz.prog 12 0 := loops_mk (by kernel_rfl) (fun j hj => match j, hj with
  | _ + 0, h => absurd h (by omega)) (fun _ => rfl)
def c_leatlaw50_works : FC := mkF [] [.sc (.bool)] leatlaw50_works
theorem t_leatlaw50_works (N : Nat) : FCOK Tryz.prog N 12 c_leatlaw50_works := fun_ok facts (ok_chain_Run N) (by kernel_rfl) (by kernel_rfl) (q_leatlaw50_works N) (fun t => by kernel_rfl)
def o_leatlaw50_works : List (Nat × FC) := (12, c_leatlaw50_works) :: o_chain_Run
theorem ok_leatlaw50_works (N : Nat) : OrcOK Tryz.prog o_leatlaw50_works N := orc_cons (t_leatlaw50_works N) (ok_chain_Run N)
def s_leatlaw50_ChainPasses (_ : Nat) : List (Nat × LC) := []
noncomputable def e_leatlaw50_ChainPasses (N : Nat) : Env := mkEnvX 0 [] Tryz.prog o_leatlaw50_works (s_leatlaw50_ChainPasses N) N
theorem q_leatlaw50_ChainPasses (N : Nat) : LoopsFor (e_leatlaw50_ChainPasses N) Tryz.prog 3 0 := loops_mk (by kernel_rfl) (fun j hj => match j, hj with
  | _ + 0, h => absurd h (by omega)) (fun _ => rfl)
theorem okL_leatlaw50_ChainPasses (N : Nat) : OrcOK Tryz.prog o_leatlaw50_works N := ok_leatlaw50_works N
theorem w_leatlaw50_ChainPasses (N : Nat) (x : RT [.aggs [.int .i64, .int .i64, .int .i64, .int .i64, .int .i64, .int .i64, .int .i64, .int .i64, .int .i64, .int .i64] 120 [.int .u32], .row 38 [.int .i64, .int .i64, .int .i64, .int .i64, .int .i64]]) : uncR [.aggs [.int .i64, .int .i64, .int .i64, .int .i64, .int .i64, .int .i64, .int .i64, .int .i64, .int .i64, .int .i64] 120 [.int .u32], .row 38 [.int .i64, .int .i64, .int .i64, .int .i64, .int .i64]] (leatlaw50_ChainPasses N) x = evFn (e_leatlaw50_ChainPasses N) 13 3 (encA 0 [.aggs [.int .i64, .int .i64, .int .i64, .int .i64, .int .i64, .int .i64, .int .i64, .int .i64, .int .i64, .int .i64] 120 [.int .u32], .row 38 [.int .i64, .int .i64, .int .i64, .int .i64, .int .i64]] x).1 (encA 0 [.aggs [.int .i64, .int .i64, .int .i64, .int .i64, .int .i64, .int .i64, .int .i64, .int .i64, .int .i64, .int .i64] 120 [.int .u32], .row 38 [.int .i64, .int .i64, .int .i64, .int .i64, .int .i64]] x).2 (decR [.sc .bool]) := by kernel_rfl
end Go.Proofs.YtgjmfljogaanfaaGreat.W
