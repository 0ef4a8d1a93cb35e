/- The functions of the seat, as the evaluator tells them, each with its contract. Printed by genW.py. -/
import Derived.Test.YtgjmfljogaanfaaGreatW1
set_option maxRecDepth 100000
namespace Go.Proofs.YtgjmfljogaanfaaGreat.W
open Go.Ev Go.RowKit
def p_n114_8 : List Pat := [.any, .any, .any, .any, .any, .any, .ptr 0 0, .sl 1, .sc (.int .i64), .sc (.bool), .any, .any, .any, .any, .any, .any, .any, .any, .any, .any, .any, .any, .any, .any, .any, .any, .any, .any, .any, .any, .any, .any, .any, .any, .any, .any, .any, .any, .any, .any, .any, .any, .any, .any, .any, .any, .any, .any, .any, .any, .any, .any, .any, .any, .any, .any, .any, .any, .any, .any, .any, .any, .any, .any, .any, .any, .any, .any, .any, .any, .any, .any, .any, .any, .any, .any, .any, .any, .any, .any, .any, .any, .any, .any, .any, .any, .any, .any, .any, .any, .any, .any, .any]
def h_n114_8 : List HPat := [.cells [.grp Li10, .sl 2, .grp Li8, .nils, .sl 3, .sl 4, .grp Li9, .grp Li9, .grp Li9, .grp [.int .i64, .int .i64], .sc (.int .i64), .sl 5, .sc (.int .i64), .sc (.int .i64), .sc (.int .i64), .sl 6, .sl 7], .rows 38 Li5, .ext 120 [.int .u32], .ext 38 Li5, .ext 38 Li5, .ext 120 [.int .u32], .rows 38 Li5, .rows 38 Li5]
def x_n114_8 : List XP := [⟨.exit 2, [.any, .any, .any, .any, .any, .any, .ptr 0 0, .sl 1, .sc (.int .i64), .any, .any, .any, .any, .any, .any, .any, .any, .any, .any, .any, .any, .any, .any, .any, .any, .any, .any, .any, .any, .any, .any, .any, .any, .any, .any, .any, .any, .any, .any, .any, .any, .any, .any, .any, .any, .any, .any, .any, .any, .any, .any, .any, .any, .any, .any, .any, .any, .any, .any, .any, .any, .any, .any, .any, .any, .any, .any, .any, .any, .any, .any, .any, .any, .any, .any, .any, .any, .any, .any, .any, .any, .any, .any, .any, .any, .any, .any, .any, .any, .any, .any, .any, .any], [.cells [.grp Li10, .sl 2, .grp Li8, .nils, .sl 3, .sl 4, .grp Li9, .grp Li9, .grp Li9, .grp [.int .i64, .int .i64], .sc (.int .i64), .sl 5, .sc (.int .i64), .sc (.int .i64), .sc (.int .i64), .sl 6, .sl 7], .rows 38 Li5, .ext 120 [.int .u32], .ext 38 Li5, .ext 38 Li5, .ext 120 [.int .u32], .rows 38 Li5, .rows 38 Li5]⟩]
def lc_n114_8 (N : Nat) : LC := mkLC 0 p_n114_8 h_n114_8 x_n114_8 (leatref50_Pass_L8 N)
def p_n114_5 : List Pat := [.any, .any, .any, .any, .any, .any, .ptr 0 0, .sl 1, .sc (.int .i64), .any, .any, .any, .any, .any, .any, .any, .any, .any, .any, .any, .any, .any, .any, .any, .any, .any, .any, .any, .any, .any, .any, .any, .any, .any, .any, .any, .any, .any, .any, .any, .any, .any, .any, .any, .any, .any, .any, .any, .any, .any, .any, .any, .any, .any, .any, .any, .any, .any, .any, .any, .any, .any, .any, .any, .any, .any, .any, .any, .any, .any, .any, .any, .any, .any, .any, .any, .any, .any, .any, .any, .any, .any, .any, .any, .any, .any, .any, .any, .any, .any, .any, .any, .any]
def h_n114_5 : List HPat := [.cells [.grp Li10, .sl 2, .grp Li8, .nils, .sl 3, .sl 4, .grp Li9, .grp Li9, .grp Li9, .grp [.int .i64, .int .i64], .sc (.int .i64), .sl 5, .sc (.int .i64), .sc (.int .i64), .sc (.int .i64), .sl 6, .sl 7], .rows 38 Li5, .ext 120 [.int .u32], .ext 38 Li5, .ext 38 Li5, .ext 120 [.int .u32], .rows 38 Li5, .rows 38 Li5]
def x_n114_5 : List XP := [⟨.exit 0, [.any, .any, .any, .any, .any, .any, .ptr 0 0, .any, .any, .any, .any, .any, .any, .any, .any, .any, .any, .any, .any, .any, .any, .any, .any, .any, .any, .any, .any, .any, .any, .any, .any, .any, .any, .any, .any, .any, .any, .any, .any, .any, .any, .any, .any, .any, .any, .any, .any, .any, .any, .any, .any, .any, .any, .any, .any, .any, .any, .any, .any, .any, .any, .any, .any, .any, .any, .any, .any, .any, .any, .any, .any, .any, .any, .any, .any, .any, .any, .any, .any, .any, .any, .any, .any, .any, .any, .any, .any, .any, .any, .any, .any, .any, .any], [.cells [.grp Li10, .sl 1, .grp Li8, .nils, .sl 2, .sl 3, .grp Li9, .grp Li9, .grp Li9, .grp [.int .i64, .int .i64], .sc (.int .i64), .sl 4, .sc (.int .i64), .sc (.int .i64), .sc (.int .i64), .sl 5, .sl 6], .ext 120 [.int .u32], .ext 38 Li5, .ext 38 Li5, .ext 120 [.int .u32], .rows 38 Li5, .rows 38 Li5]⟩]
def lc_n114_5 (N : Nat) : LC := mkLC 0 p_n114_5 h_n114_5 x_n114_5 (leatref50_Pass_L5 N)
def p_n114_15 : List Pat := [.any, .any, .any, .any, .any, .any, .ptr 0 0, .any, .any, .any, .any, .any, .any, .any, .any, .any, .any, .any, .any, .any, .any, .any, .any, .any, .any, .any, .any, .any, .any, .any, .any, .any, .any, .any, .any, .any, .any, .any, .any, .any, .any, .any, .any, .any, .any, .any, .any, .any, .any, .any, .any, .any, .any, .any, .any, .any, .any, .any, .any, .any, .any, .any, .any, .any, .any, .any, .any, .any, .any, .any, .any, .any, .any, .any, .any, .any, .any, .any, .any, .any, .any, .any, .any, .any, .any, .any, .any, .any, .any, .any, .any, .any, .any]
def h_n114_15 : List HPat := [.cells [.grp Li10, .sl 1, .grp Li8, .nils, .sl 2, .sl 3, .grp Li9, .grp Li9, .grp Li9, .grp [.int .i64, .int .i64], .sc (.int .i64), .sl 4, .sc (.int .i64), .sc (.int .i64), .sc (.int .i64), .sl 5, .sl 6], .ext 120 [.int .u32], .ext 38 Li5, .ext 38 Li5, .ext 120 [.int .u32], .rows 38 Li5, .rows 38 Li5]
def x_n114_15 : List XP := [⟨.exit 4, [.any, .any, .any, .any, .any, .any, .ptr 0 0, .any, .any, .any, .any, .any, .any, .any, .any, .any, .any, .any, .any, .any, .any, .any, .any, .any, .any, .any, .any, .any, .any, .any, .any, .any, .any, .any, .any, .any, .any, .any, .any, .any, .any, .any, .any, .any, .any, .any, .any, .any, .any, .any, .any, .any, .any, .any, .any, .any, .any, .any, .any, .any, .any, .any, .any, .any, .any, .any, .any, .any, .any, .any, .any, .any, .any, .any, .any, .any, .any, .any, .any, .any, .any, .any, .any, .any, .any, .any, .any, .any, .any, .any, .any, .any, .any], [.cells [.grp Li10, .sl 1, .grp Li8, .nils, .sl 2, .sl 3, .grp Li9, .grp Li9, .grp Li9, .grp [.int .i64, .int .i64], .sc (.int .i64), .sl 4, .sc (.int .i64), .sc (.int .i64), .sc (.int .i64), .sl 5, .sl 6], .ext 120 [.int .u32], .ext 38 Li5, .ext 38 Li5, .ext 120 [.int .u32], .rows 38 Li5, .rows 38 Li5]⟩]
def lc_n114_15 (N : Nat) : LC := mkLC 0 p_n114_15 h_n114_15 x_n114_15 (leatref50_Pass_L15 N)
def s_n114 (N : Nat) : List (Nat × LC) := [(8, lc_n114_8 N), (5, lc_n114_5 N), (15, lc_n114_15 N)]
noncomputable def e_n114 (N : Nat) : Env := mkEnvX 0 [] Tryz.prog o_n113 (s_n114 N) N
theorem k_n114_8 (N : Nat) : LCOK (e_n114 N) 12 (loopAt Tryz.prog 8 1) (lc_n114_8 N) := mkLC_ok rfl (by kernel_rfl) (by kernel_rfl) (fun F x => by kernel_rfl)
theorem k_n114_5 (N : Nat) : LCOK (e_n114 N) 12 (loopAt Tryz.prog 8 0) (lc_n114_5 N) := mkLC_ok rfl (by kernel_rfl) (by kernel_rfl) (fun F x => by kernel_rfl)
theorem k_n114_15 (N : Nat) : LCOK (e_n114 N) 12 (loopAt Tryz.prog 8 2) (lc_n114_15 N) := mkLC_ok rfl (by kernel_rfl) (by kernel_rfl) (fun F x => by kernel_rfl)
theorem q_n114 (N : Nat) : LoopsFor (e_n114 N) Tryz.prog 8 3 := loops_mk (by kernel_rfl) (fun j hj => match j, hj with
  | 0, _ => .inl ⟨lc_n114_5 N, by kernel_rfl, k_n114_5 N⟩
  | 1, _ => .inl ⟨lc_n114_8 N, by kernel_rfl, k_n114_8 N⟩
  | 2, _ => .inl ⟨lc_n114_15 N, by kernel_rfl, k_n114_15 N⟩
  | _ + 3, h => absurd h (by omega)) (fun _ => rfl)
def c_n114 : FC := mkF [.aggs Li10 120 [.int .u32], .row 38 Li5] [.row 38 Li5, .row 38 Li5] leatref50_Pass
theorem t_n114 (N : Nat) : FCOK Tryz.prog N 8 c_n114 := fun_ok facts (ok_n113 N) (by kernel_rfl) (by kernel_rfl) (q_n114 N) (fun t => by kernel_rfl)
def o_n114 : List (Nat × FC) := (8, c_n114) :: o_n113
theorem ok_n114 (N : Nat) : OrcOK Tryz.prog o_n114 N := orc_cons (t_n114 N) (ok_n113 N)
def p_n115_1 : List Pat := [.any, .sc (.int .i64), .ptr 0 0, .any, .any, .any, .any, .any, .sl 2, .sc (.int .i64), .sc (.int .i64), .any, .any, .any, .any, .any, .any, .any, .any, .any, .any, .any, .any, .any, .any, .any, .any, .any, .any, .any, .any, .any, .any, .any]
def h_n115_1 : List HPat := [.cells [.sl 1], .rows 42 Li7, .ext 38 Li5]
def x_n115_1 : List XP := [⟨.exit 0, [.any, .any, .any, .any, .any, .any, .any, .any, .any, .any, .any, .any, .any, .any, .any, .any, .any, .any, .any, .any, .any, .any, .any, .any, .any, .any, .any, .any, .any, .any, .any, .any, .any, .any], [.cells [.sl 1], .rows 42 Li7]⟩]
def lc_n115_1 (N : Nat) : LC := mkLC 2 p_n115_1 h_n115_1 x_n115_1 (chain_Run_1_L1 N)
def s_n115 (N : Nat) : List (Nat × LC) := [(1, lc_n115_1 N)]
noncomputable def e_n115 (N : Nat) : Env := mkEnvX 2 [] Tryz.prog o_n114 (s_n115 N) N
theorem k_n115_1 (N : Nat) : LCOK (e_n115 N) 12 (loopAt Tryz.prog 32 0) (lc_n115_1 N) := mkLC_ok rfl (by kernel_rfl) (by kernel_rfl) (fun F x => by kernel_rfl)
theorem q_n115 (N : Nat) : LoopsFor (e_n115 N) Tryz.prog 32 1 := loops_mk (by kernel_rfl) (fun j hj => match j, hj with
  | 0, _ => .inl ⟨lc_n115_1 N, by kernel_rfl, k_n115_1 N⟩
  | _ + 1, h => absurd h (by omega)) (fun _ => rfl)
def a_n115 : List Pat := [.sl 2, .sc (.int .i64), .ptr 0 0]
def b_n115 : List HPat := [.cells [.sl 1], .rows 42 Li7, .ext 38 Li5]
def ra_n115 : List Pat := []
def rb_n115 : List HPat := [.cells [.sl 1], .rows 42 Li7]
def c_n115 : FC := mkFCH 2 a_n115 b_n115 ra_n115 rb_n115 chain_Run_1
theorem t_n115 (N : Nat) : FCOK Tryz.prog N 32 c_n115 := eff_ok facts (ok_n114 N) (by kernel_rfl) (by kernel_rfl) (q_n115 N) (fun t => by kernel_rfl)
def o_n115 : List (Nat × FC) := (32, c_n115) :: o_n114
theorem ok_n115 (N : Nat) : OrcOK Tryz.prog o_n115 N := orc_cons (t_n115 N) (ok_n114 N)
def p_n116_4 : List Pat := [.sl 0, .any, .any, .any, .any, .ptr 1 0, .sl 2, .any, .any, .any, .any, .any, .any, .any, .any, .any, .any, .any, .any, .any, .sl 3, .sc (.int .i64), .sc (.int .i64), .any, .any, .any, .any, .any, .any, .any, .any, .any, .any, .any, .any, .any, .any, .any, .any, .any, .any, .any, .any, .any, .any, .any, .any, .any, .any, .any, .any, .any, .any, .any, .any, .any, .any, .any, .any, .any, .any, .any, .any, .any, .any, .any, .any, .any, .any, .any, .any, .any, .any, .any, .any, .any, .any, .any, .any, .any, .any]
def h_n116_4 : List HPat := [.mixe 26 120 Li10 [.int .u32], .cells [.sl 4], .rows 38 Li5, .ext 38 Li5, .rows 42 Li7]
def x_n116_4 : List XP := [⟨.exit 0, [.sl 0, .any, .any, .any, .any, .ptr 1 0, .sl 2, .any, .any, .any, .any, .any, .any, .any, .any, .any, .any, .any, .any, .any, .any, .any, .any, .any, .any, .any, .any, .any, .any, .any, .any, .any, .any, .any, .any, .any, .any, .any, .any, .any, .any, .any, .any, .any, .any, .any, .any, .any, .any, .any, .any, .any, .any, .any, .any, .any, .any, .any, .any, .any, .any, .any, .any, .any, .any, .any, .any, .any, .any, .any, .any, .any, .any, .any, .any, .any, .any, .any, .any, .any, .any], [.mixe 26 120 Li10 [.int .u32], .cells [.sl 3], .rows 38 Li5, .rows 42 Li7]⟩]
def lc_n116_4 (N : Nat) : LC := mkLC 0 p_n116_4 h_n116_4 x_n116_4 (chain_Run_L4 N)
def p_n116_13 : List Pat := [.any, .any, .any, .any, .any, .ptr 0 0, .sl 1, .any, .any, .fn 32 [(0, 0)], .any, .any, .any, .any, .any, .any, .any, .any, .any, .any, .any, .any, .any, .any, .any, .any, .any, .any, .any, .any, .any, .any, .any, .any, .any, .any, .any, .any, .any, .any, .any, .any, .any, .any, .any, .any, .any, .any, .any, .any, .any, .any, .any, .any, .any, .any, .any, .sl 2, .sc (.int .i64), .sc (.int .i64), .any, .any, .any, .any, .any, .any, .any, .any, .any, .any, .any, .any, .any, .any, .any, .any, .any, .any, .any, .any, .any]
def h_n116_13 : List HPat := [.cells [.sl 3], .ext 38 Li5, .mixe 26 120 Li10 [.int .u32], .rows 42 Li7]
def x_n116_13 : List XP := [⟨.exit 2, [.any, .any, .any, .any, .any, .ptr 0 0, .any, .any, .any, .any, .any, .any, .any, .any, .any, .any, .any, .any, .any, .any, .any, .any, .any, .any, .any, .any, .any, .any, .any, .any, .any, .any, .any, .any, .any, .any, .any, .any, .any, .any, .any, .any, .any, .any, .any, .any, .any, .any, .any, .any, .any, .any, .any, .any, .any, .any, .any, .any, .any, .any, .any, .any, .any, .any, .any, .any, .any, .any, .any, .any, .any, .any, .any, .any, .any, .any, .any, .any, .any, .any, .any], [.cells [.sl 1], .rows 42 Li7]⟩]
def lc_n116_13 (N : Nat) : LC := mkLC 0 p_n116_13 h_n116_13 x_n116_13 (chain_Run_L13 N)
def s_n116 (N : Nat) : List (Nat × LC) := [(4, lc_n116_4 N), (13, lc_n116_13 N)]
noncomputable def e_n116 (N : Nat) : Env := mkEnvX 0 [] Tryz.prog o_n115 (s_n116 N) N
theorem k_n116_4 (N : Nat) : LCOK (e_n116 N) 12 (loopAt Tryz.prog 13 0) (lc_n116_4 N) := mkLC_ok rfl (by kernel_rfl) (by kernel_rfl) (fun F x => by kernel_rfl)
theorem k_n116_13 (N : Nat) : LCOK (e_n116 N) 12 (loopAt Tryz.prog 13 1) (lc_n116_13 N) := mkLC_ok rfl (by kernel_rfl) (by kernel_rfl) (fun F x => by kernel_rfl)
theorem q_n116 (N : Nat) : LoopsFor (e_n116 N) Tryz.prog 13 2 := loops_mk (by kernel_rfl) (fun j hj => match j, hj with
  | 0, _ => .inl ⟨lc_n116_4 N, by kernel_rfl, k_n116_4 N⟩
  | 1, _ => .inl ⟨lc_n116_13 N, by kernel_rfl, k_n116_13 N⟩
  | _ + 2, h => absurd h (by omega)) (fun _ => rfl)
def c_n116 : FC := mkF [.mix 26 120 Li10 [.int .u32], .row 38 Li5] [.row 42 Li7] chain_Run
theorem t_n116 (N : Nat) : FCOK Tryz.prog N 13 c_n116 := fun_ok facts (ok_n115 N) (by kernel_rfl) (by kernel_rfl) (q_n116 N) (fun t => by kernel_rfl)
def o_n116 : List (Nat × FC) := (13, c_n116) :: o_n115
theorem ok_n116 (N : Nat) : OrcOK Tryz.prog o_n116 N := orc_cons (t_n116 N) (ok_n115 N)
def s_leatlaw50_works (_ : Nat) : List (Nat × LC) := []
noncomputable def e_leatlaw50_works (N : Nat) : Env := mkEnvX 0 [] Tryz.prog o_n116 (s_leatlaw50_works N) N
theorem q_leatlaw50_works (N : Nat) : LoopsFor (e_leatlaw50_works N) Tryz.prog 12 0 := loops_mk (by kernel_rfl) (fun j hj => match j, hj with
  | _ + 0, h => absurd h (by omega)) (fun _ => rfl)
def c_leatlaw50_works : FC := mkF [] [.sc (.bool)] leatlaw50_works
theorem t_leatlaw50_works (N : Nat) : FCOK Tryz.prog N 12 c_leatlaw50_works := fun_ok facts (ok_n116 N) (by kernel_rfl) (by kernel_rfl) (q_leatlaw50_works N) (fun t => by kernel_rfl)
def o_leatlaw50_works : List (Nat × FC) := (12, c_leatlaw50_works) :: o_n116
theorem ok_leatlaw50_works (N : Nat) : OrcOK Tryz.prog o_leatlaw50_works N := orc_cons (t_leatlaw50_works N) (ok_n116 N)
def p_n117_4 : List Pat := [.sl 0, .sl 1, .any, .any, .any, .sl 2, .sl 3, .sc (.int .i64), .any, .any, .any, .any, .any, .any, .any, .any, .any, .any, .any, .any, .any, .any, .any, .any, .any, .any, .any, .any, .any, .any, .any, .any, .any, .any, .any, .any, .any, .any, .any, .any, .any, .any, .any, .any, .any, .any, .any, .any, .any, .any, .any, .any, .any, .any, .any, .any, .any, .any, .any, .any, .any, .any, .any, .any, .any, .any, .any, .any, .any, .any, .any, .any, .any, .any, .any, .any, .any, .any, .any, .any, .any, .any, .any, .any, .any, .any, .any, .any, .any, .any, .any, .any, .any, .any, .any, .any, .any, .any, .any, .any, .any, .any, .any, .any, .any, .any, .any, .any, .any, .any, .any, .any, .any, .any, .any, .any, .any, .any, .any, .any, .any, .any, .any, .any, .any, .any, .any, .any, .any, .any, .any, .any, .any, .any, .any]
def h_n117_4 : List HPat := [.mixe 26 120 Li10 [.int .u32], .ext 38 Li5, .rows 42 Li7, .rows 38 Li5]
def x_n117_4 : List XP := [⟨.exit 0, [.sl 0, .any, .any, .any, .any, .sl 1, .sl 2, .any, .any, .any, .any, .any, .any, .any, .any, .any, .any, .any, .any, .any, .any, .any, .any, .any, .any, .any, .any, .any, .any, .any, .any, .any, .any, .any, .any, .any, .any, .any, .any, .any, .any, .any, .any, .any, .any, .any, .any, .any, .any, .any, .any, .any, .any, .any, .any, .any, .any, .any, .any, .any, .any, .any, .any, .any, .any, .any, .any, .any, .any, .any, .any, .any, .any, .any, .any, .any, .any, .any, .any, .any, .any, .any, .any, .any, .any, .any, .any, .any, .any, .any, .any, .any, .any, .any, .any, .any, .any, .any, .any, .any, .any, .any, .any, .any, .any, .any, .any, .any, .any, .any, .any, .any, .any, .any, .any, .any, .any, .any, .any, .any, .any, .any, .any, .any, .any, .any, .any, .any, .any, .any, .any, .any, .any, .any, .any], [.mixe 26 120 Li10 [.int .u32], .rows 42 Li7, .rows 38 Li5]⟩]
def lc_n117_4 (N : Nat) : LC := mkLC 0 p_n117_4 h_n117_4 x_n117_4 (leatref50_Run_L4 N)
def p_n117_15 : List Pat := [.sl 0, .any, .any, .any, .any, .sl 1, .any, .any, .any, .sc (.int .i64), .sl 2, .sl 3, .sc (.int .i64), .any, .any, .any, .any, .any, .any, .any, .any, .any, .any, .any, .any, .any, .any, .any, .any, .any, .any, .any, .any, .any, .any, .any, .any, .any, .any, .any, .any, .any, .any, .any, .any, .any, .any, .any, .any, .any, .any, .any, .any, .any, .any, .any, .any, .any, .any, .any, .any, .any, .any, .any, .any, .any, .any, .any, .any, .any, .any, .any, .any, .any, .any, .any, .any, .any, .any, .any, .any, .any, .any, .any, .any, .any, .any, .any, .any, .any, .any, .any, .any, .any, .any, .any, .any, .any, .any, .any, .any, .any, .any, .any, .any, .any, .any, .any, .any, .any, .any, .any, .any, .any, .any, .any, .any, .any, .any, .any, .any, .any, .any, .any, .any, .any, .any, .any, .any, .any, .any, .any, .any, .any, .any]
def h_n117_15 : List HPat := [.mixe 26 120 Li10 [.int .u32], .rows 42 Li7, .rows 38 Li5, .rows 38 Li5]
def x_n117_15 : List XP := [⟨.exit 4, [.sl 0, .any, .any, .any, .any, .sl 1, .any, .any, .any, .sc (.int .i64), .sl 2, .sl 3, .any, .any, .any, .any, .any, .any, .any, .any, .any, .any, .any, .any, .any, .any, .any, .any, .any, .any, .any, .any, .any, .any, .any, .any, .any, .any, .any, .any, .any, .any, .any, .any, .any, .any, .any, .any, .any, .any, .any, .any, .any, .any, .any, .any, .any, .any, .any, .any, .any, .any, .any, .any, .any, .any, .any, .any, .any, .any, .any, .any, .any, .any, .any, .any, .any, .any, .any, .any, .any, .any, .any, .any, .any, .any, .any, .any, .any, .any, .any, .any, .any, .any, .any, .any, .any, .any, .any, .any, .any, .any, .any, .any, .any, .any, .any, .any, .any, .any, .any, .any, .any, .any, .any, .any, .any, .any, .any, .any, .any, .any, .any, .any, .any, .any, .any, .any, .any, .any, .any, .any, .any, .any, .any], [.mixe 26 120 Li10 [.int .u32], .rows 42 Li7, .rows 38 Li5, .rows 38 Li5]⟩]
def lc_n117_15 (N : Nat) : LC := mkLC 0 p_n117_15 h_n117_15 x_n117_15 (leatref50_Run_L15 N)
def p_n117_20 : List Pat := [.sl 0, .any, .any, .any, .any, .sl 1, .any, .any, .any, .sc (.int .i64), .sl 2, .sl 3, .any, .sc (.int .i64), .any, .any, .any, .any, .any, .any, .any, .any, .any, .any, .any, .any, .any, .any, .any, .any, .any, .any, .any, .any, .any, .any, .any, .any, .any, .any, .any, .any, .any, .any, .any, .any, .any, .any, .any, .any, .any, .any, .any, .any, .any, .any, .any, .any, .any, .any, .any, .any, .any, .any, .any, .any, .any, .any, .any, .any, .any, .any, .any, .any, .any, .any, .any, .any, .any, .any, .any, .any, .any, .any, .any, .any, .any, .any, .any, .any, .any, .any, .any, .any, .any, .any, .any, .any, .any, .any, .any, .any, .any, .any, .any, .any, .any, .any, .any, .any, .any, .any, .any, .any, .any, .any, .any, .any, .any, .any, .any, .any, .any, .any, .any, .any, .any, .any, .any, .any, .any, .any, .any, .any, .any]
def h_n117_20 : List HPat := [.mixe 26 120 Li10 [.int .u32], .rows 42 Li7, .rows 38 Li5, .rows 38 Li5]
def x_n117_20 : List XP := [⟨.exit 6, [.sl 0, .any, .any, .any, .any, .sl 1, .any, .any, .any, .sc (.int .i64), .sl 2, .any, .any, .any, .any, .any, .any, .any, .any, .any, .any, .any, .any, .any, .any, .any, .any, .any, .any, .any, .any, .any, .any, .any, .any, .any, .any, .any, .any, .any, .any, .any, .any, .any, .any, .any, .any, .any, .any, .any, .any, .any, .any, .any, .any, .any, .any, .any, .any, .any, .any, .any, .any, .any, .any, .any, .any, .any, .any, .any, .any, .any, .any, .any, .any, .any, .any, .any, .any, .any, .any, .any, .any, .any, .any, .any, .any, .any, .any, .any, .any, .any, .any, .any, .any, .any, .any, .any, .any, .any, .any, .any, .any, .any, .any, .any, .any, .any, .any, .any, .any, .any, .any, .any, .any, .any, .any, .any, .any, .any, .any, .any, .any, .any, .any, .any, .any, .any, .any, .any, .any, .any, .any, .any, .any], [.mixe 26 120 Li10 [.int .u32], .rows 42 Li7, .rows 38 Li5]⟩]
def lc_n117_20 (N : Nat) : LC := mkLC 0 p_n117_20 h_n117_20 x_n117_20 (leatref50_Run_L20 N)
def p_n117_11 : List Pat := [.sl 0, .any, .any, .any, .any, .sl 1, .sl 2, .any, .any, .sc (.int .i64), .any, .any, .any, .any, .any, .any, .any, .any, .any, .any, .any, .any, .any, .any, .any, .any, .any, .any, .any, .any, .any, .any, .any, .any, .any, .any, .any, .any, .any, .any, .any, .any, .any, .any, .any, .any, .any, .any, .any, .any, .any, .any, .any, .any, .any, .any, .any, .any, .any, .any, .any, .any, .any, .any, .any, .any, .any, .any, .any, .any, .any, .any, .any, .any, .any, .any, .any, .any, .any, .any, .any, .any, .any, .any, .any, .any, .any, .any, .any, .any, .any, .any, .any, .any, .any, .any, .any, .any, .any, .any, .any, .any, .any, .any, .any, .any, .any, .any, .any, .any, .any, .any, .any, .any, .any, .any, .any, .any, .any, .any, .any, .any, .any, .any, .any, .any, .any, .any, .any, .any, .any, .any, .any, .any, .any]
def h_n117_11 : List HPat := [.mixe 26 120 Li10 [.int .u32], .rows 42 Li7, .rows 38 Li5]
def x_n117_11 : List XP := [⟨.exit 2, [.any, .any, .any, .any, .any, .sl 0, .any, .any, .any, .any, .any, .any, .any, .any, .any, .any, .any, .any, .any, .any, .any, .any, .any, .any, .any, .any, .any, .any, .any, .any, .any, .any, .any, .any, .any, .any, .any, .any, .any, .any, .any, .any, .any, .any, .any, .any, .any, .any, .any, .any, .any, .any, .any, .any, .any, .any, .any, .any, .any, .any, .any, .any, .any, .any, .any, .any, .any, .any, .any, .any, .any, .any, .any, .any, .any, .any, .any, .any, .any, .any, .any, .any, .any, .any, .any, .any, .any, .any, .any, .any, .any, .any, .any, .any, .any, .any, .any, .any, .any, .any, .any, .any, .any, .any, .any, .any, .any, .any, .any, .any, .any, .any, .any, .any, .any, .any, .any, .any, .any, .any, .any, .any, .any, .any, .any, .any, .any, .any, .any, .any, .any, .any, .any, .any, .any], [.rows 42 Li7]⟩]
def lc_n117_11 (N : Nat) : LC := mkLC 0 p_n117_11 h_n117_11 x_n117_11 (leatref50_Run_L11 N)
def s_n117 (N : Nat) : List (Nat × LC) := [(4, lc_n117_4 N), (15, lc_n117_15 N), (20, lc_n117_20 N), (11, lc_n117_11 N)]
noncomputable def e_n117 (N : Nat) : Env := mkEnvX 0 [] Tryz.prog o_leatlaw50_works (s_n117 N) N
theorem k_n117_4 (N : Nat) : LCOK (e_n117 N) 12 (loopAt Tryz.prog 17 0) (lc_n117_4 N) := mkLC_ok rfl (by kernel_rfl) (by kernel_rfl) (fun F x => by kernel_rfl)
theorem k_n117_15 (N : Nat) : LCOK (e_n117 N) 12 (loopAt Tryz.prog 17 2) (lc_n117_15 N) := mkLC_ok rfl (by kernel_rfl) (by kernel_rfl) (fun F x => by kernel_rfl)
theorem k_n117_20 (N : Nat) : LCOK (e_n117 N) 12 (loopAt Tryz.prog 17 3) (lc_n117_20 N) := mkLC_ok rfl (by kernel_rfl) (by kernel_rfl) (fun F x => by kernel_rfl)
theorem k_n117_11 (N : Nat) : LCOK (e_n117 N) 12 (loopAt Tryz.prog 17 1) (lc_n117_11 N) := mkLC_ok rfl (by kernel_rfl) (by kernel_rfl) (fun F x => by kernel_rfl)
theorem q_n117 (N : Nat) : LoopsFor (e_n117 N) Tryz.prog 17 4 := loops_mk (by kernel_rfl) (fun j hj => match j, hj with
  | 0, _ => .inl ⟨lc_n117_4 N, by kernel_rfl, k_n117_4 N⟩
  | 1, _ => .inl ⟨lc_n117_11 N, by kernel_rfl, k_n117_11 N⟩
  | 2, _ => .inl ⟨lc_n117_15 N, by kernel_rfl, k_n117_15 N⟩
  | 3, _ => .inl ⟨lc_n117_20 N, by kernel_rfl, k_n117_20 N⟩
  | _ + 4, h => absurd h (by omega)) (fun _ => rfl)
def c_n117 : FC := mkF [.mix 26 120 Li10 [.int .u32], .row 38 Li5] [.row 42 Li7] leatref50_Run
theorem t_n117 (N : Nat) : FCOK Tryz.prog N 17 c_n117 := fun_ok facts (ok_leatlaw50_works N) (by kernel_rfl) (by kernel_rfl) (q_n117 N) (fun t => by kernel_rfl)
def o_n117 : List (Nat × FC) := (17, c_n117) :: o_leatlaw50_works
theorem ok_n117 (N : Nat) : OrcOK Tryz.prog o_n117 N := orc_cons (t_n117 N) (ok_leatlaw50_works N)
def p_n118_3 : List Pat := [.any, .sc (.int .i64), .any, .any, .any, .sc (.int .i64), .any, .any, .any, .any, .any, .any, .sl 0, .sc (.int .i64), .sc (.int .i64), .any, .any, .any, .any, .any, .any, .any, .any, .any, .any, .any, .any, .any, .any, .any, .any]
def h_n118_3 : List HPat := [.mixe 26 120 Li10 [.int .u32]]
def x_n118_3 : List XP := [⟨.exit 0, [.any, .any, .any, .any, .any, .sc (.int .i64), .any, .any, .any, .any, .any, .any, .any, .any, .any, .any, .any, .any, .any, .any, .any, .any, .any, .any, .any, .any, .any, .any, .any, .any, .any], []⟩]
def lc_n118_3 (N : Nat) : LC := mkLC 0 p_n118_3 h_n118_3 x_n118_3 (chain_Least_L3 N)
def s_n118 (N : Nat) : List (Nat × LC) := [(3, lc_n118_3 N)]
noncomputable def e_n118 (N : Nat) : Env := mkEnvX 0 [] Tryz.prog o_n117 (s_n118 N) N
theorem k_n118_3 (N : Nat) : LCOK (e_n118 N) 12 (loopAt Tryz.prog 18 0) (lc_n118_3 N) := mkLC_ok rfl (by kernel_rfl) (by kernel_rfl) (fun F x => by kernel_rfl)
theorem q_n118 (N : Nat) : LoopsFor (e_n118 N) Tryz.prog 18 1 := loops_mk (by kernel_rfl) (fun j hj => match j, hj with
  | 0, _ => .inl ⟨lc_n118_3 N, by kernel_rfl, k_n118_3 N⟩
  | _ + 1, h => absurd h (by omega)) (fun _ => rfl)
def c_n118 : FC := mkF [.mix 26 120 Li10 [.int .u32], .sc (.int .i64)] [.sc (.int .i64)] chain_Least
theorem t_n118 (N : Nat) : FCOK Tryz.prog N 18 c_n118 := fun_ok facts (ok_n117 N) (by kernel_rfl) (by kernel_rfl) (q_n118 N) (fun t => by kernel_rfl)
def o_n118 : List (Nat × FC) := (18, c_n118) :: o_n117
theorem ok_n118 (N : Nat) : OrcOK Tryz.prog o_n118 N := orc_cons (t_n118 N) (ok_n117 N)
def p_n119_3 : List Pat := [.sl 0, .sc (.int .i64), .any, .any, .any, .sc (.int .i64), .sc (.int .i64), .any, .any, .any, .any, .any, .any, .any, .any, .any, .any, .any, .any, .any, .any, .any, .any, .any, .any, .any, .any, .any, .any, .any, .any, .any, .any]
def h_n119_3 : List HPat := [.mixe 26 120 Li10 [.int .u32]]
def x_n119_3 : List XP := [⟨.exit 0, [.any, .any, .any, .any, .any, .sc (.int .i64), .any, .any, .any, .any, .any, .any, .any, .any, .any, .any, .any, .any, .any, .any, .any, .any, .any, .any, .any, .any, .any, .any, .any, .any, .any, .any, .any], []⟩]
def lc_n119_3 (N : Nat) : LC := mkLC 0 p_n119_3 h_n119_3 x_n119_3 (leatref50_Least_L3 N)
def s_n119 (N : Nat) : List (Nat × LC) := [(3, lc_n119_3 N)]
noncomputable def e_n119 (N : Nat) : Env := mkEnvX 0 [] Tryz.prog o_n118 (s_n119 N) N
theorem k_n119_3 (N : Nat) : LCOK (e_n119 N) 12 (loopAt Tryz.prog 16 0) (lc_n119_3 N) := mkLC_ok rfl (by kernel_rfl) (by kernel_rfl) (fun F x => by kernel_rfl)
theorem q_n119 (N : Nat) : LoopsFor (e_n119 N) Tryz.prog 16 1 := loops_mk (by kernel_rfl) (fun j hj => match j, hj with
  | 0, _ => .inl ⟨lc_n119_3 N, by kernel_rfl, k_n119_3 N⟩
  | _ + 1, h => absurd h (by omega)) (fun _ => rfl)
def c_n119 : FC := mkF [.mix 26 120 Li10 [.int .u32], .sc (.int .i64)] [.sc (.int .i64)] leatref50_Least
theorem t_n119 (N : Nat) : FCOK Tryz.prog N 16 c_n119 := fun_ok facts (ok_n118 N) (by kernel_rfl) (by kernel_rfl) (q_n119 N) (fun t => by kernel_rfl)
def o_n119 : List (Nat × FC) := (16, c_n119) :: o_n118
theorem ok_n119 (N : Nat) : OrcOK Tryz.prog o_n119 N := orc_cons (t_n119 N) (ok_n118 N)
def p_leatlaw50_ChainRuns_6 : List Pat := [.sl 0, .any, .sc (.int .i64), .any, .any, .any, .any, .sl 1, .sl 2, .any, .any, .any, .any, .any, .any, .any, .any, .any, .any, .any, .any, .any, .any, .any, .any, .any, .any, .any, .sc (.int .i64), .sc (.int .i64), .any, .any, .any, .any, .any, .any, .any, .any, .any, .any, .any, .any, .any, .any, .any, .any, .any, .any, .any, .any, .any, .any]
def h_leatlaw50_ChainRuns_6 : List HPat := [.mixe 26 120 Li10 [.int .u32], .rows 42 Li7, .rows 42 Li7]
def x_leatlaw50_ChainRuns_6 : List XP := [⟨.ret, [.any, .any, .any, .any, .any, .any, .sc (.bool), .any, .any, .any, .any, .any, .any, .any, .any, .any, .any, .any, .any, .any, .any, .any, .any, .any, .any, .any, .any, .any, .any, .any, .any, .any, .any, .any, .any, .any, .any, .any, .any, .any, .any, .any, .any, .any, .any, .any, .any, .any, .any, .any, .any, .any], []⟩, ⟨.exit 0, [.sl 0, .any, .sc (.int .i64), .any, .any, .any, .any, .any, .any, .any, .any, .any, .any, .any, .any, .any, .any, .any, .any, .any, .any, .any, .any, .any, .any, .any, .any, .any, .any, .any, .any, .any, .any, .any, .any, .any, .any, .any, .any, .any, .any, .any, .any, .any, .any, .any, .any, .any, .any, .any, .any, .any], [.mixe 26 120 Li10 [.int .u32]]⟩]
def lc_leatlaw50_ChainRuns_6 (N : Nat) : LC := mkLC 0 p_leatlaw50_ChainRuns_6 h_leatlaw50_ChainRuns_6 x_leatlaw50_ChainRuns_6 (leatlaw50_ChainRuns_L6 N)
def s_leatlaw50_ChainRuns (N : Nat) : List (Nat × LC) := [(6, lc_leatlaw50_ChainRuns_6 N)]
noncomputable def e_leatlaw50_ChainRuns (N : Nat) : Env := mkEnvX 0 [] Tryz.prog o_n119 (s_leatlaw50_ChainRuns N) N
theorem k_leatlaw50_ChainRuns_6 (N : Nat) : LCOK (e_leatlaw50_ChainRuns N) 12 (loopAt Tryz.prog 5 0) (lc_leatlaw50_ChainRuns_6 N) := mkLC_ok rfl (by kernel_rfl) (by kernel_rfl) (fun F x => by kernel_rfl)
theorem q_leatlaw50_ChainRuns (N : Nat) : LoopsFor (e_leatlaw50_ChainRuns N) Tryz.prog 5 1 := loops_mk (by kernel_rfl) (fun j hj => match j, hj with
  | 0, _ => .inl ⟨lc_leatlaw50_ChainRuns_6 N, by kernel_rfl, k_leatlaw50_ChainRuns_6 N⟩
  | _ + 1, h => absurd h (by omega)) (fun _ => rfl)
theorem okL_leatlaw50_ChainRuns (N : Nat) : OrcOK Tryz.prog o_n119 N := ok_n119 N
theorem w_leatlaw50_ChainRuns (N : Nat) (x : RT [.mix 26 120 Li10 [.int .u32], .row 38 Li5, .sc (.int .i64)]) : uncR [.mix 26 120 Li10 [.int .u32], .row 38 Li5, .sc (.int .i64)] (leatlaw50_ChainRuns N) x = evFn (e_leatlaw50_ChainRuns N) 13 5 (encA 0 [.mix 26 120 Li10 [.int .u32], .row 38 Li5, .sc (.int .i64)] x).1 (encA 0 [.mix 26 120 Li10 [.int .u32], .row 38 Li5, .sc (.int .i64)] x).2 (decR [.sc .bool]) := by kernel_rfl
end Go.Proofs.YtgjmfljogaanfaaGreat.W
