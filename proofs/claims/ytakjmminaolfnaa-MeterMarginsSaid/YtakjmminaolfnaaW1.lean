/- The functions of the seat, as the evaluator tells them, each with its contract. Printed by genW.py. -/
import Derived.Test.YtakjmminaolfnaaW0
import Derived.Test.YtakjmminaolfnaaRows
import Derived.Test.YtakjmminaolfnaaPSeq
set_option maxRecDepth 100000
namespace Go.Proofs.Ytakjmminaolfnaa.W
open Go.Ev Go.RowKit
theorem facts : Facts Try.prog := ⟨by kernel_rfl, names_of (by kernel_rfl)⟩
def o_0 : List (Nat × FC) := []
theorem ok_0 (N : Nat) : OrcOK Try.prog o_0 N := orc_nil
def p_meter_Waits_3 : List Pat := [.any, .sc (.int .i64), .sc (.int .i64), .any, .any, .any, .any, .any, .sc (.int .i64), .sc (.int .i64), .any, .any, .sl 0, .sc (.int .i64), .sc (.int .i64), .any, .any, .any, .any, .any, .any, .any, .any, .any, .any, .any, .any, .any, .any, .any, .any, .any, .any, .any, .any, .any, .any, .any, .any, .any, .any, .any, .any, .any, .any, .any, .any, .any, .any, .any, .any, .any]
def h_meter_Waits_3 : List HPat := [.ext 83 [.int .i64, .int .i64, .int .i64, .int .i64, .int .i64, .int .i64]]
def x_meter_Waits_3 : List XP := [⟨.exit 0, [.any, .any, .any, .any, .any, .any, .any, .any, .sc (.int .i64), .sc (.int .i64), .any, .any, .any, .any, .any, .any, .any, .any, .any, .any, .any, .any, .any, .any, .any, .any, .any, .any, .any, .any, .any, .any, .any, .any, .any, .any, .any, .any, .any, .any, .any, .any, .any, .any, .any, .any, .any, .any, .any, .any, .any, .any], []⟩]
def lc_meter_Waits_3 (N : Nat) : LC := mkLC 0 p_meter_Waits_3 h_meter_Waits_3 x_meter_Waits_3 (meter_Waits_L3 N)
def s_meter_Waits (N : Nat) : List (Nat × LC) := [(3, lc_meter_Waits_3 N)]
noncomputable def e_meter_Waits (N : Nat) : Env := mkEnvX 0 [] Try.prog o_0 (s_meter_Waits N) N
theorem k_meter_Waits_3 (N : Nat) : LCOK (e_meter_Waits N) 12 (loopAt Try.prog 48 0) (lc_meter_Waits_3 N) := mkLC_ok rfl (by kernel_rfl) (by kernel_rfl) (fun F x => by kernel_rfl)
theorem q_meter_Waits (N : Nat) : LoopsFor (e_meter_Waits N) Try.prog 48 1 := loops_mk (by kernel_rfl) (fun j hj => match j, hj with
  | 0, _ => .inl ⟨lc_meter_Waits_3 N, by kernel_rfl, k_meter_Waits_3 N⟩
  | _ + 1, h => absurd h (by omega)) (fun _ => rfl)
def c_meter_Waits : FC := mkF [.row 83 [.int .i64, .int .i64, .int .i64, .int .i64, .int .i64, .int .i64], .sc (.int .i64), .sc (.int .i64)] [.sc (.int .i64), .sc (.int .i64)] meter_Waits
theorem t_meter_Waits (N : Nat) : FCOK Try.prog N 48 c_meter_Waits := fun_ok facts (ok_0 N) (by kernel_rfl) (by kernel_rfl) (q_meter_Waits N) (fun t => by kernel_rfl)
def o_meter_Waits : List (Nat × FC) := (48, c_meter_Waits) :: o_0
theorem ok_meter_Waits (N : Nat) : OrcOK Try.prog o_meter_Waits N := orc_cons (t_meter_Waits N) (ok_0 N)
def p_leatref44_Waits_3 : List Pat := [.sl 0, .sc (.int .i64), .sc (.int .i64), .any, .any, .any, .any, .any, .sc (.int .i64), .sc (.int .i64), .sc (.int .i64), .any, .any, .any, .any, .any, .any, .any, .any, .any, .any, .any, .any, .any, .any, .any, .any, .any, .any, .any, .any, .any, .any, .any, .any, .any, .any, .any, .any, .any, .any, .any, .any, .any, .any, .any, .any, .any, .any, .any, .any, .any, .any, .any, .any, .any, .any, .any]
def h_leatref44_Waits_3 : List HPat := [.ext 83 [.int .i64, .int .i64, .int .i64, .int .i64, .int .i64, .int .i64]]
def x_leatref44_Waits_3 : List XP := [⟨.exit 0, [.any, .any, .any, .any, .any, .any, .any, .any, .sc (.int .i64), .sc (.int .i64), .any, .any, .any, .any, .any, .any, .any, .any, .any, .any, .any, .any, .any, .any, .any, .any, .any, .any, .any, .any, .any, .any, .any, .any, .any, .any, .any, .any, .any, .any, .any, .any, .any, .any, .any, .any, .any, .any, .any, .any, .any, .any, .any, .any, .any, .any, .any, .any], []⟩]
def lc_leatref44_Waits_3 (N : Nat) : LC := mkLC 0 p_leatref44_Waits_3 h_leatref44_Waits_3 x_leatref44_Waits_3 (leatref44_Waits_L3 N)
def s_leatref44_Waits (N : Nat) : List (Nat × LC) := [(3, lc_leatref44_Waits_3 N)]
noncomputable def e_leatref44_Waits (N : Nat) : Env := mkEnvX 0 [] Try.prog o_meter_Waits (s_leatref44_Waits N) N
theorem k_leatref44_Waits_3 (N : Nat) : LCOK (e_leatref44_Waits N) 12 (loopAt Try.prog 49 0) (lc_leatref44_Waits_3 N) := mkLC_ok rfl (by kernel_rfl) (by kernel_rfl) (fun F x => by kernel_rfl)
theorem q_leatref44_Waits (N : Nat) : LoopsFor (e_leatref44_Waits N) Try.prog 49 1 := loops_mk (by kernel_rfl) (fun j hj => match j, hj with
  | 0, _ => .inl ⟨lc_leatref44_Waits_3 N, by kernel_rfl, k_leatref44_Waits_3 N⟩
  | _ + 1, h => absurd h (by omega)) (fun _ => rfl)
def c_leatref44_Waits : FC := mkF [.row 83 [.int .i64, .int .i64, .int .i64, .int .i64, .int .i64, .int .i64], .sc (.int .i64), .sc (.int .i64)] [.sc (.int .i64), .sc (.int .i64)] leatref44_Waits
theorem t_leatref44_Waits (N : Nat) : FCOK Try.prog N 49 c_leatref44_Waits := fun_ok facts (ok_meter_Waits N) (by kernel_rfl) (by kernel_rfl) (q_leatref44_Waits N) (fun t => by kernel_rfl)
def o_leatref44_Waits : List (Nat × FC) := (49, c_leatref44_Waits) :: o_meter_Waits
theorem ok_leatref44_Waits (N : Nat) : OrcOK Try.prog o_leatref44_Waits N := orc_cons (t_leatref44_Waits N) (ok_meter_Waits N)
def s_sat_Clamp (_ : Nat) : List (Nat × LC) := []
noncomputable def e_sat_Clamp (N : Nat) : Env := mkEnvX 0 [] Try.prog o_leatref44_Waits (s_sat_Clamp N) N
theorem q_sat_Clamp (N : Nat) : LoopsFor (e_sat_Clamp N) Try.prog 55 0 := loops_mk (by kernel_rfl) (fun j hj => match j, hj with
  | _ + 0, h => absurd h (by omega)) (fun _ => rfl)
def c_sat_Clamp : FC := mkF [.sc (.int .i64), .sc (.int .i64), .sc (.int .i64)] [.sc (.int .i64)] sat_Clamp
theorem t_sat_Clamp (N : Nat) : FCOK Try.prog N 55 c_sat_Clamp := fun_ok facts (ok_leatref44_Waits N) (by kernel_rfl) (by kernel_rfl) (q_sat_Clamp N) (fun t => by kernel_rfl)
def o_sat_Clamp : List (Nat × FC) := (55, c_sat_Clamp) :: o_leatref44_Waits
theorem ok_sat_Clamp (N : Nat) : OrcOK Try.prog o_sat_Clamp N := orc_cons (t_sat_Clamp N) (ok_leatref44_Waits N)
def s_meter_size (_ : Nat) : List (Nat × LC) := []
noncomputable def e_meter_size (N : Nat) : Env := mkEnvX 0 [] Try.prog o_sat_Clamp (s_meter_size N) N
theorem q_meter_size (N : Nat) : LoopsFor (e_meter_size N) Try.prog 71 0 := loops_mk (by kernel_rfl) (fun j hj => match j, hj with
  | _ + 0, h => absurd h (by omega)) (fun _ => rfl)
def c_meter_size : FC := mkF [.row 2 [.int .i64], .sc (.int .i64)] [.sc (.int .i64)] meter_size
theorem t_meter_size (N : Nat) : FCOK Try.prog N 71 c_meter_size := fun_ok facts (ok_sat_Clamp N) (by kernel_rfl) (by kernel_rfl) (q_meter_size N) (fun t => by kernel_rfl)
def o_meter_size : List (Nat × FC) := (71, c_meter_size) :: o_sat_Clamp
theorem ok_meter_size (N : Nat) : OrcOK Try.prog o_meter_size N := orc_cons (t_meter_size N) (ok_sat_Clamp N)
def s_meter_Margin (_ : Nat) : List (Nat × LC) := []
def pr_meter_Margin_5 : List Pat := [.any, .any, .any, .ptr 0 0, .any, .ptr 1 0, .ptr 2 0, .ptr 3 0, .ptr 4 0, .any, .any, .any, .any, .any, .any, .any, .any, .any, .fn 94 [(5, 0), (6, 0)], .any, .any, .any, .any, .any, .any, .any, .any, .any, .any, .any, .any, .any, .any, .any, .any, .any, .any, .any, .any, .any, .any, .any, .any, .any, .any, .any, .any, .any, .any, .any, .any, .any, .any, .any, .any, .any, .any, .any, .any, .any, .any, .any, .any, .any, .any, .any, .any, .any, .any, .any, .any, .any, .any, .any, .any, .any, .any, .any, .any, .any, .any, .any, .any, .any, .any, .any, .any, .any, .any, .any, .any, .any, .any, .any, .any, .any]
def hr_meter_Margin_5 : List HPat := [.cells [.sl 7], .cells [.sc (.int .i64)], .cells [.sc (.int .i64)], .cells [.sc (.int .i64)], .cells [.sl 8], .rcells [.sl 9], .rcells [.sc (.int .i64)], .ext 2 [.int .i64], .rows 4 [.bool], .ext 83 [.int .i64, .int .i64, .int .i64, .int .i64, .int .i64, .int .i64]]
def rc_meter_Margin_5 (N : Nat) : RC := mkRC 0 94 sh6 (metDec 83) pr_meter_Margin_5 hr_meter_Margin_5 (meter_Margin_R5 N)
def sr_meter_Margin (N : Nat) : List (Nat × RC) := [(5, rc_meter_Margin_5 N)]
noncomputable def e_meter_Margin (N : Nat) : Env := mkEnvX 0 [] Try.prog o_meter_size (s_meter_Margin N) N (sr_meter_Margin N)
theorem kr_meter_Margin_5 (N : Nat) : RCOK (e_meter_Margin N) 12 (rangeAt Try.prog 50 0).1 (rangeAt Try.prog 50 0).2.1 (rangeAt Try.prog 50 0).2.2 (rc_meter_Margin_5 N) := mkRC_ok rfl facts.names (by kernel_rfl) (by kernel_rfl) (by kernel_rfl) Pure.metSeq (fun i F x => by kernel_rfl)
theorem q_meter_Margin (N : Nat) : LoopsFor (e_meter_Margin N) Try.prog 50 0 := loops_mkR 1 (by kernel_rfl) (fun j hj => match j, hj with
  | _ + 0, h => absurd h (by omega)) (by kernel_rfl) (fun j hj => match j, hj with
  | 0, _ => ⟨rc_meter_Margin_5 N, by kernel_rfl, kr_meter_Margin_5 N⟩
  | _ + 1, h => absurd h (by omega))
def c_meter_Margin : FC := mkF [.row 83 [.int .i64, .int .i64, .int .i64, .int .i64, .int .i64, .int .i64], .row 2 [.int .i64]] [.sc (.int .i64)] meter_Margin
theorem t_meter_Margin (N : Nat) : FCOK Try.prog N 50 c_meter_Margin := fun_ok facts (ok_meter_size N) (by kernel_rfl) (by kernel_rfl) (q_meter_Margin N) (fun t => by kernel_rfl)
def o_meter_Margin : List (Nat × FC) := (50, c_meter_Margin) :: o_meter_size
theorem ok_meter_Margin (N : Nat) : OrcOK Try.prog o_meter_Margin N := orc_cons (t_meter_Margin N) (ok_meter_size N)
def p_leatref44_Of_3 : List Pat := [.sl 0, .sc (.int .i64), .any, .any, .any, .sl 1, .sc (.int .i64), .any, .any, .any, .any, .any, .any, .any, .any, .any, .any, .any, .any, .any, .any, .any, .any, .any, .any, .any, .any, .any, .any, .any, .any, .any, .any, .any, .any, .any, .any, .any, .any, .any, .any, .any, .any, .any]
def h_leatref44_Of_3 : List HPat := [.ext 83 [.int .i64, .int .i64, .int .i64, .int .i64, .int .i64, .int .i64], .rows 83 [.int .i64, .int .i64, .int .i64, .int .i64, .int .i64, .int .i64]]
def x_leatref44_Of_3 : List XP := [⟨.exit 0, [.any, .any, .any, .any, .any, .sl 0, .any, .any, .any, .any, .any, .any, .any, .any, .any, .any, .any, .any, .any, .any, .any, .any, .any, .any, .any, .any, .any, .any, .any, .any, .any, .any, .any, .any, .any, .any, .any, .any, .any, .any, .any, .any, .any, .any], [.rows 83 [.int .i64, .int .i64, .int .i64, .int .i64, .int .i64, .int .i64]]⟩]
def lc_leatref44_Of_3 (N : Nat) : LC := mkLC 0 p_leatref44_Of_3 h_leatref44_Of_3 x_leatref44_Of_3 (leatref44_Of_L3 N)
def s_leatref44_Of (N : Nat) : List (Nat × LC) := [(3, lc_leatref44_Of_3 N)]
noncomputable def e_leatref44_Of (N : Nat) : Env := mkEnvX 0 [] Try.prog o_meter_Margin (s_leatref44_Of N) N
theorem k_leatref44_Of_3 (N : Nat) : LCOK (e_leatref44_Of N) 12 (loopAt Try.prog 72 0) (lc_leatref44_Of_3 N) := mkLC_ok rfl (by kernel_rfl) (by kernel_rfl) (fun F x => by kernel_rfl)
theorem q_leatref44_Of (N : Nat) : LoopsFor (e_leatref44_Of N) Try.prog 72 1 := loops_mk (by kernel_rfl) (fun j hj => match j, hj with
  | 0, _ => .inl ⟨lc_leatref44_Of_3 N, by kernel_rfl, k_leatref44_Of_3 N⟩
  | _ + 1, h => absurd h (by omega)) (fun _ => rfl)
def c_leatref44_Of : FC := mkF [.row 83 [.int .i64, .int .i64, .int .i64, .int .i64, .int .i64, .int .i64], .sc (.int .i64)] [.row 83 [.int .i64, .int .i64, .int .i64, .int .i64, .int .i64, .int .i64]] leatref44_Of
theorem t_leatref44_Of (N : Nat) : FCOK Try.prog N 72 c_leatref44_Of := fun_ok facts (ok_meter_Margin N) (by kernel_rfl) (by kernel_rfl) (q_leatref44_Of N) (fun t => by kernel_rfl)
def o_leatref44_Of : List (Nat × FC) := (72, c_leatref44_Of) :: o_meter_Margin
theorem ok_leatref44_Of (N : Nat) : OrcOK Try.prog o_leatref44_Of N := orc_cons (t_leatref44_Of N) (ok_meter_Margin N)
def s_leatref44_odd (_ : Nat) : List (Nat × LC) := []
noncomputable def e_leatref44_odd (N : Nat) : Env := mkEnvX 0 [] Try.prog o_leatref44_Of (s_leatref44_odd N) N
theorem q_leatref44_odd (N : Nat) : LoopsFor (e_leatref44_odd N) Try.prog 96 0 := loops_mk (by kernel_rfl) (fun j hj => match j, hj with
  | _ + 0, h => absurd h (by omega)) (fun _ => rfl)
def c_leatref44_odd : FC := mkF [.sc (.int .i64)] [.sc (.bool)] leatref44_odd
theorem t_leatref44_odd (N : Nat) : FCOK Try.prog N 96 c_leatref44_odd := fun_ok facts (ok_leatref44_Of N) (by kernel_rfl) (by kernel_rfl) (q_leatref44_odd N) (fun t => by kernel_rfl)
def o_leatref44_odd : List (Nat × FC) := (96, c_leatref44_odd) :: o_leatref44_Of
theorem ok_leatref44_odd (N : Nat) : OrcOK Try.prog o_leatref44_odd N := orc_cons (t_leatref44_odd N) (ok_leatref44_Of N)
def p_leatref44_isLow_5 : List Pat := [.sl 0, .sc (.int .i64), .any, .any, .any, .sc (.bool), .sc (.int .i64), .any, .any, .any, .any, .any, .any, .any, .any, .any, .any, .any, .any, .any, .any, .any, .any, .any, .any, .any, .any, .any, .any, .any, .any, .any, .any, .any, .any, .any, .any, .any, .any, .any, .any, .any, .any, .any, .any, .any, .any, .any, .any, .any]
def h_leatref44_isLow_5 : List HPat := [.ext 83 [.int .i64, .int .i64, .int .i64, .int .i64, .int .i64, .int .i64]]
def x_leatref44_isLow_5 : List XP := [⟨.exit 0, [.any, .any, .any, .any, .any, .sc (.bool), .any, .any, .any, .any, .any, .any, .any, .any, .any, .any, .any, .any, .any, .any, .any, .any, .any, .any, .any, .any, .any, .any, .any, .any, .any, .any, .any, .any, .any, .any, .any, .any, .any, .any, .any, .any, .any, .any, .any, .any, .any, .any, .any, .any], []⟩]
def lc_leatref44_isLow_5 (N : Nat) : LC := mkLC 0 p_leatref44_isLow_5 h_leatref44_isLow_5 x_leatref44_isLow_5 (leatref44_isLow_L5 N)
def s_leatref44_isLow (N : Nat) : List (Nat × LC) := [(5, lc_leatref44_isLow_5 N)]
noncomputable def e_leatref44_isLow (N : Nat) : Env := mkEnvX 0 [] Try.prog o_leatref44_odd (s_leatref44_isLow N) N
theorem k_leatref44_isLow_5 (N : Nat) : LCOK (e_leatref44_isLow N) 12 (loopAt Try.prog 97 0) (lc_leatref44_isLow_5 N) := mkLC_ok rfl (by kernel_rfl) (by kernel_rfl) (fun F x => by kernel_rfl)
theorem q_leatref44_isLow (N : Nat) : LoopsFor (e_leatref44_isLow N) Try.prog 97 1 := loops_mk (by kernel_rfl) (fun j hj => match j, hj with
  | 0, _ => .inl ⟨lc_leatref44_isLow_5 N, by kernel_rfl, k_leatref44_isLow_5 N⟩
  | _ + 1, h => absurd h (by omega)) (fun _ => rfl)
def c_leatref44_isLow : FC := mkF [.row 83 [.int .i64, .int .i64, .int .i64, .int .i64, .int .i64, .int .i64], .sc (.int .i64)] [.sc (.bool)] leatref44_isLow
theorem t_leatref44_isLow (N : Nat) : FCOK Try.prog N 97 c_leatref44_isLow := fun_ok facts (ok_leatref44_odd N) (by kernel_rfl) (by kernel_rfl) (q_leatref44_isLow N) (fun t => by kernel_rfl)
def o_leatref44_isLow : List (Nat × FC) := (97, c_leatref44_isLow) :: o_leatref44_odd
theorem ok_leatref44_isLow (N : Nat) : OrcOK Try.prog o_leatref44_isLow N := orc_cons (t_leatref44_isLow N) (ok_leatref44_odd N)
def s_leatref44_Size (_ : Nat) : List (Nat × LC) := []
noncomputable def e_leatref44_Size (N : Nat) : Env := mkEnvX 0 [] Try.prog o_leatref44_isLow (s_leatref44_Size N) N
theorem q_leatref44_Size (N : Nat) : LoopsFor (e_leatref44_Size N) Try.prog 73 0 := loops_mk (by kernel_rfl) (fun j hj => match j, hj with
  | _ + 0, h => absurd h (by omega)) (fun _ => rfl)
def c_leatref44_Size : FC := mkF [.row 2 [.int .i64], .sc (.int .i64)] [.sc (.int .i64)] leatref44_Size
theorem t_leatref44_Size (N : Nat) : FCOK Try.prog N 73 c_leatref44_Size := fun_ok facts (ok_leatref44_isLow N) (by kernel_rfl) (by kernel_rfl) (q_leatref44_Size N) (fun t => by kernel_rfl)
def o_leatref44_Size : List (Nat × FC) := (73, c_leatref44_Size) :: o_leatref44_isLow
theorem ok_leatref44_Size (N : Nat) : OrcOK Try.prog o_leatref44_Size N := orc_cons (t_leatref44_Size N) (ok_leatref44_isLow N)
def p_leatref44_Rows_6 : List Pat := [.any, .sl 0, .any, .any, .any, .sl 1, .sl 2, .sl 3, .sc (.int .i64), .sc (.int .i64), .any, .any, .any, .any, .any, .any, .any, .any, .any, .any, .any, .any, .any, .any, .any, .any, .any, .any, .any, .any, .any, .any, .any, .any, .any, .any, .any, .any, .any, .any, .any, .any, .any, .any, .any, .any, .any, .any, .any, .any, .any, .any, .any, .any, .any, .any, .any, .any, .any, .any, .any, .any, .any, .any, .any, .any, .any, .any, .any, .any, .any, .any, .any, .any, .any, .any, .any, .any, .any, .any, .any, .any, .any, .any, .any, .any, .any, .any, .any, .any, .any]
def h_leatref44_Rows_6 : List HPat := [.ext 2 [.int .i64], .rows 83 [.int .i64, .int .i64, .int .i64, .int .i64, .int .i64, .int .i64], .nest 47 2 [.int .i64], .rows 2 [.int .i64]]
def x_leatref44_Rows_6 : List XP := [⟨.exit 0, [.any, .any, .any, .any, .any, .any, .sl 0, .sl 1, .any, .any, .any, .any, .any, .any, .any, .any, .any, .any, .any, .any, .any, .any, .any, .any, .any, .any, .any, .any, .any, .any, .any, .any, .any, .any, .any, .any, .any, .any, .any, .any, .any, .any, .any, .any, .any, .any, .any, .any, .any, .any, .any, .any, .any, .any, .any, .any, .any, .any, .any, .any, .any, .any, .any, .any, .any, .any, .any, .any, .any, .any, .any, .any, .any, .any, .any, .any, .any, .any, .any, .any, .any, .any, .any, .any, .any, .any, .any, .any, .any, .any, .any], [.nest 47 2 [.int .i64], .rows 2 [.int .i64]]⟩]
def lc_leatref44_Rows_6 (N : Nat) : LC := mkLC 0 p_leatref44_Rows_6 h_leatref44_Rows_6 x_leatref44_Rows_6 (leatref44_Rows_L6 N)
def s_leatref44_Rows (N : Nat) : List (Nat × LC) := [(6, lc_leatref44_Rows_6 N)]
noncomputable def e_leatref44_Rows (N : Nat) : Env := mkEnvX 0 [] Try.prog o_leatref44_Size (s_leatref44_Rows N) N
theorem k_leatref44_Rows_6 (N : Nat) : LCOK (e_leatref44_Rows N) 12 (loopAt Try.prog 78 0) (lc_leatref44_Rows_6 N) := mkLC_ok rfl (by kernel_rfl) (by kernel_rfl) (fun F x => by kernel_rfl)
theorem q_leatref44_Rows (N : Nat) : LoopsFor (e_leatref44_Rows N) Try.prog 78 1 := loops_mk (by kernel_rfl) (fun j hj => match j, hj with
  | 0, _ => .inl ⟨lc_leatref44_Rows_6 N, by kernel_rfl, k_leatref44_Rows_6 N⟩
  | _ + 1, h => absurd h (by omega)) (fun _ => rfl)
def a_leatref44_Rows : List Pat := [.sl 0, .sl 1]
def b_leatref44_Rows : List HPat := [.ext 83 [.int .i64, .int .i64, .int .i64, .int .i64, .int .i64, .int .i64], .ext 2 [.int .i64]]
def ra_leatref44_Rows : List Pat := [.sl 0]
def rb_leatref44_Rows : List HPat := [.nest 47 2 [.int .i64]]
def c_leatref44_Rows : FC := mkFCH 0 a_leatref44_Rows b_leatref44_Rows ra_leatref44_Rows rb_leatref44_Rows leatref44_Rows
theorem t_leatref44_Rows (N : Nat) : FCOK Try.prog N 78 c_leatref44_Rows := eff_ok facts (ok_leatref44_Size N) (by kernel_rfl) (by kernel_rfl) (q_leatref44_Rows N) (fun t => by kernel_rfl)
def o_leatref44_Rows : List (Nat × FC) := (78, c_leatref44_Rows) :: o_leatref44_Size
theorem ok_leatref44_Rows (N : Nat) : OrcOK Try.prog o_leatref44_Rows N := orc_cons (t_leatref44_Rows N) (ok_leatref44_Size N)
def p_leatref44_Margin_11 : List Pat := [.any, .any, .any, .any, .any, .sc (.int .i64), .sl 0, .sc (.int .i64), .sc (.int .i64), .sc (.int .i64), .sc (.int .i64), .any, .any, .any, .any, .any, .any, .any, .any, .any, .any, .any, .any, .any, .any, .any, .any, .any, .any, .any, .any, .any, .any, .any, .any, .any, .any, .any, .any, .any, .any, .any, .any, .any, .any, .any, .any, .any, .any, .any, .any, .any]
def h_leatref44_Margin_11 : List HPat := [.nest 47 2 [.int .i64]]
def x_leatref44_Margin_11 : List XP := [⟨.exit 4, [.any, .any, .any, .any, .any, .sc (.int .i64), .sl 0, .sc (.int .i64), .sc (.int .i64), .any, .any, .any, .any, .any, .any, .any, .any, .any, .any, .any, .any, .any, .any, .any, .any, .any, .any, .any, .any, .any, .any, .any, .any, .any, .any, .any, .any, .any, .any, .any, .any, .any, .any, .any, .any, .any, .any, .any, .any, .any, .any, .any], [.nest 47 2 [.int .i64]]⟩]
def lc_leatref44_Margin_11 (N : Nat) : LC := mkLC 0 p_leatref44_Margin_11 h_leatref44_Margin_11 x_leatref44_Margin_11 (leatref44_Margin_L11 N)
def p_leatref44_Margin_7 : List Pat := [.any, .any, .any, .any, .any, .sc (.int .i64), .sl 0, .sc (.int .i64), .sc (.int .i64), .any, .any, .any, .any, .any, .any, .any, .any, .any, .any, .any, .any, .any, .any, .any, .any, .any, .any, .any, .any, .any, .any, .any, .any, .any, .any, .any, .any, .any, .any, .any, .any, .any, .any, .any, .any, .any, .any, .any, .any, .any, .any, .any]
def h_leatref44_Margin_7 : List HPat := [.nest 47 2 [.int .i64]]
def x_leatref44_Margin_7 : List XP := [⟨.exit 2, [.any, .any, .any, .any, .any, .sc (.int .i64), .sl 0, .sc (.int .i64), .any, .any, .any, .any, .any, .any, .any, .any, .any, .any, .any, .any, .any, .any, .any, .any, .any, .any, .any, .any, .any, .any, .any, .any, .any, .any, .any, .any, .any, .any, .any, .any, .any, .any, .any, .any, .any, .any, .any, .any, .any, .any, .any, .any], [.nest 47 2 [.int .i64]]⟩]
def lc_leatref44_Margin_7 (N : Nat) : LC := mkLC 0 p_leatref44_Margin_7 h_leatref44_Margin_7 x_leatref44_Margin_7 (leatref44_Margin_L7 N)
def p_leatref44_Margin_4 : List Pat := [.any, .any, .any, .any, .any, .sc (.int .i64), .sl 0, .sc (.int .i64), .any, .any, .any, .any, .any, .any, .any, .any, .any, .any, .any, .any, .any, .any, .any, .any, .any, .any, .any, .any, .any, .any, .any, .any, .any, .any, .any, .any, .any, .any, .any, .any, .any, .any, .any, .any, .any, .any, .any, .any, .any, .any, .any, .any]
def h_leatref44_Margin_4 : List HPat := [.nest 47 2 [.int .i64]]
def x_leatref44_Margin_4 : List XP := [⟨.exit 0, [.any, .any, .any, .any, .any, .sc (.int .i64), .any, .any, .any, .any, .any, .any, .any, .any, .any, .any, .any, .any, .any, .any, .any, .any, .any, .any, .any, .any, .any, .any, .any, .any, .any, .any, .any, .any, .any, .any, .any, .any, .any, .any, .any, .any, .any, .any, .any, .any, .any, .any, .any, .any, .any, .any], []⟩]
def lc_leatref44_Margin_4 (N : Nat) : LC := mkLC 0 p_leatref44_Margin_4 h_leatref44_Margin_4 x_leatref44_Margin_4 (leatref44_Margin_L4 N)
def s_leatref44_Margin (N : Nat) : List (Nat × LC) := [(11, lc_leatref44_Margin_11 N), (7, lc_leatref44_Margin_7 N), (4, lc_leatref44_Margin_4 N)]
noncomputable def e_leatref44_Margin (N : Nat) : Env := mkEnvX 0 [] Try.prog o_leatref44_Rows (s_leatref44_Margin N) N
theorem k_leatref44_Margin_11 (N : Nat) : LCOK (e_leatref44_Margin N) 12 (loopAt Try.prog 51 2) (lc_leatref44_Margin_11 N) := mkLC_ok rfl (by kernel_rfl) (by kernel_rfl) (fun F x => by kernel_rfl)
theorem k_leatref44_Margin_7 (N : Nat) : LCOK (e_leatref44_Margin N) 12 (loopAt Try.prog 51 1) (lc_leatref44_Margin_7 N) := mkLC_ok rfl (by kernel_rfl) (by kernel_rfl) (fun F x => by kernel_rfl)
theorem k_leatref44_Margin_4 (N : Nat) : LCOK (e_leatref44_Margin N) 12 (loopAt Try.prog 51 0) (lc_leatref44_Margin_4 N) := mkLC_ok rfl (by kernel_rfl) (by kernel_rfl) (fun F x => by kernel_rfl)
theorem q_leatref44_Margin (N : Nat) : LoopsFor (e_leatref44_Margin N) Try.prog 51 3 := loops_mk (by kernel_rfl) (fun j hj => match j, hj with
  | 0, _ => .inl ⟨lc_leatref44_Margin_4 N, by kernel_rfl, k_leatref44_Margin_4 N⟩
  | 1, _ => .inl ⟨lc_leatref44_Margin_7 N, by kernel_rfl, k_leatref44_Margin_7 N⟩
  | 2, _ => .inl ⟨lc_leatref44_Margin_11 N, by kernel_rfl, k_leatref44_Margin_11 N⟩
  | _ + 3, h => absurd h (by omega)) (fun _ => rfl)
def c_leatref44_Margin : FC := mkF [.row 83 [.int .i64, .int .i64, .int .i64, .int .i64, .int .i64, .int .i64], .row 2 [.int .i64]] [.sc (.int .i64)] leatref44_Margin
theorem t_leatref44_Margin (N : Nat) : FCOK Try.prog N 51 c_leatref44_Margin := fun_ok facts (ok_leatref44_Rows N) (by kernel_rfl) (by kernel_rfl) (q_leatref44_Margin N) (fun t => by kernel_rfl)
def o_leatref44_Margin : List (Nat × FC) := (51, c_leatref44_Margin) :: o_leatref44_Rows
theorem ok_leatref44_Margin (N : Nat) : OrcOK Try.prog o_leatref44_Margin N := orc_cons (t_leatref44_Margin N) (ok_leatref44_Rows N)
def s_sat_Div (_ : Nat) : List (Nat × LC) := []
noncomputable def e_sat_Div (N : Nat) : Env := mkEnvX 0 [] Try.prog o_leatref44_Margin (s_sat_Div N) N
theorem q_sat_Div (N : Nat) : LoopsFor (e_sat_Div N) Try.prog 66 0 := loops_mk (by kernel_rfl) (fun j hj => match j, hj with
  | _ + 0, h => absurd h (by omega)) (fun _ => rfl)
def c_sat_Div : FC := mkF [.sc (.int .i64), .sc (.int .i64)] [.sc (.int .i64)] sat_Div
theorem t_sat_Div (N : Nat) : FCOK Try.prog N 66 c_sat_Div := fun_ok facts (ok_leatref44_Margin N) (by kernel_rfl) (by kernel_rfl) (q_sat_Div N) (fun t => by kernel_rfl)
def o_sat_Div : List (Nat × FC) := (66, c_sat_Div) :: o_leatref44_Margin
theorem ok_sat_Div (N : Nat) : OrcOK Try.prog o_sat_Div N := orc_cons (t_sat_Div N) (ok_leatref44_Margin N)
def s_sat_end (_ : Nat) : List (Nat × LC) := []
noncomputable def e_sat_end (N : Nat) : Env := mkEnvX 0 [] Try.prog o_sat_Div (s_sat_end N) N
theorem q_sat_end (N : Nat) : LoopsFor (e_sat_end N) Try.prog 82 0 := loops_mk (by kernel_rfl) (fun j hj => match j, hj with
  | _ + 0, h => absurd h (by omega)) (fun _ => rfl)
def c_sat_end : FC := mkF [.sc (.bool)] [.sc (.int .i64)] sat_end
theorem t_sat_end (N : Nat) : FCOK Try.prog N 82 c_sat_end := fun_ok facts (ok_sat_Div N) (by kernel_rfl) (by kernel_rfl) (q_sat_end N) (fun t => by kernel_rfl)
def o_sat_end : List (Nat × FC) := (82, c_sat_end) :: o_sat_Div
theorem ok_sat_end (N : Nat) : OrcOK Try.prog o_sat_end N := orc_cons (t_sat_end N) (ok_sat_Div N)
def s_sat_Add (_ : Nat) : List (Nat × LC) := []
noncomputable def e_sat_Add (N : Nat) : Env := mkEnvX 0 [] Try.prog o_sat_end (s_sat_Add N) N
theorem q_sat_Add (N : Nat) : LoopsFor (e_sat_Add N) Try.prog 62 0 := loops_mk (by kernel_rfl) (fun j hj => match j, hj with
  | _ + 0, h => absurd h (by omega)) (fun _ => rfl)
def c_sat_Add : FC := mkF [.sc (.int .i64), .sc (.int .i64)] [.sc (.int .i64)] sat_Add
theorem t_sat_Add (N : Nat) : FCOK Try.prog N 62 c_sat_Add := fun_ok facts (ok_sat_end N) (by kernel_rfl) (by kernel_rfl) (q_sat_Add N) (fun t => by kernel_rfl)
def o_sat_Add : List (Nat × FC) := (62, c_sat_Add) :: o_sat_end
theorem ok_sat_Add (N : Nat) : OrcOK Try.prog o_sat_Add N := orc_cons (t_sat_Add N) (ok_sat_end N)
def s_meter_Idle (_ : Nat) : List (Nat × LC) := []
def pr_meter_Idle_5 : List Pat := [.any, .any, .any, .any, .any, .ptr 0 0, .ptr 1 0, .ptr 2 0, .any, .ptr 3 0, .ptr 4 0, .any, .any, .any, .any, .any, .any, .any, .any, .any, .any, .fn 94 [(5, 0), (6, 0)], .any, .any, .any, .any, .any, .any, .any, .any, .any, .any, .any, .any, .any, .any, .any, .any, .any, .any, .any, .any, .any, .any, .any, .any, .any, .any, .any, .any, .any, .any, .any, .any, .any, .any, .any, .any, .any]
def hr_meter_Idle_5 : List HPat := [.cells [.sl 7], .cells [.sc (.int .i64)], .cells [.sc (.int .i64)], .cells [.sc (.int .i64)], .cells [.sc (.int .i64)], .rcells [.sl 8], .rcells [.sc (.int .i64)], .ext 2 [.int .i64], .ext 83 [.int .i64, .int .i64, .int .i64, .int .i64, .int .i64, .int .i64]]
def rc_meter_Idle_5 (N : Nat) : RC := mkRC 0 94 sh6 (metDec 83) pr_meter_Idle_5 hr_meter_Idle_5 (meter_Idle_R5 N)
def sr_meter_Idle (N : Nat) : List (Nat × RC) := [(5, rc_meter_Idle_5 N)]
noncomputable def e_meter_Idle (N : Nat) : Env := mkEnvX 0 [] Try.prog o_sat_Add (s_meter_Idle N) N (sr_meter_Idle N)
theorem kr_meter_Idle_5 (N : Nat) : RCOK (e_meter_Idle N) 12 (rangeAt Try.prog 74 0).1 (rangeAt Try.prog 74 0).2.1 (rangeAt Try.prog 74 0).2.2 (rc_meter_Idle_5 N) := mkRC_ok rfl facts.names (by kernel_rfl) (by kernel_rfl) (by kernel_rfl) Pure.metSeq (fun i F x => by kernel_rfl)
theorem q_meter_Idle (N : Nat) : LoopsFor (e_meter_Idle N) Try.prog 74 0 := loops_mkR 1 (by kernel_rfl) (fun j hj => match j, hj with
  | _ + 0, h => absurd h (by omega)) (by kernel_rfl) (fun j hj => match j, hj with
  | 0, _ => ⟨rc_meter_Idle_5 N, by kernel_rfl, kr_meter_Idle_5 N⟩
  | _ + 1, h => absurd h (by omega))
def c_meter_Idle : FC := mkF [.row 83 [.int .i64, .int .i64, .int .i64, .int .i64, .int .i64, .int .i64], .row 2 [.int .i64], .sc (.int .i64), .sc (.int .i64)] [.sc (.int .i64)] meter_Idle
theorem t_meter_Idle (N : Nat) : FCOK Try.prog N 74 c_meter_Idle := fun_ok facts (ok_sat_Add N) (by kernel_rfl) (by kernel_rfl) (q_meter_Idle N) (fun t => by kernel_rfl)
def o_meter_Idle : List (Nat × FC) := (74, c_meter_Idle) :: o_sat_Add
theorem ok_meter_Idle (N : Nat) : OrcOK Try.prog o_meter_Idle N := orc_cons (t_meter_Idle N) (ok_sat_Add N)
def s_leatlaw44_works (_ : Nat) : List (Nat × LC) := []
noncomputable def e_leatlaw44_works (N : Nat) : Env := mkEnvX 0 [] Try.prog o_meter_Idle (s_leatlaw44_works N) N
theorem q_leatlaw44_works (N : Nat) : LoopsFor (e_leatlaw44_works N) Try.prog 42 0 := loops_mk (by kernel_rfl) (fun j hj => match j, hj with
  | _ + 0, h => absurd h (by omega)) (fun _ => rfl)
def c_leatlaw44_works : FC := mkF [] [.sc (.bool)] leatlaw44_works
theorem t_leatlaw44_works (N : Nat) : FCOK Try.prog N 42 c_leatlaw44_works := fun_ok facts (ok_meter_Idle N) (by kernel_rfl) (by kernel_rfl) (q_leatlaw44_works N) (fun t => by kernel_rfl)
def o_leatlaw44_works : List (Nat × FC) := (42, c_leatlaw44_works) :: o_meter_Idle
theorem ok_leatlaw44_works (N : Nat) : OrcOK Try.prog o_leatlaw44_works N := orc_cons (t_leatlaw44_works N) (ok_meter_Idle N)
def s_leatlaw44_MeterMargins (_ : Nat) : List (Nat × LC) := []
noncomputable def e_leatlaw44_MeterMargins (N : Nat) : Env := mkEnvX 0 [] Try.prog o_leatlaw44_works (s_leatlaw44_MeterMargins N) N
theorem q_leatlaw44_MeterMargins (N : Nat) : LoopsFor (e_leatlaw44_MeterMargins N) Try.prog 12 0 := loops_mk (by kernel_rfl) (fun j hj => match j, hj with
  | _ + 0, h => absurd h (by omega)) (fun _ => rfl)
theorem okL_leatlaw44_MeterMargins (N : Nat) : OrcOK Try.prog o_leatlaw44_works N := ok_leatlaw44_works N
theorem w_leatlaw44_MeterMargins (N : Nat) (x : RT [.row 83 [.int .i64, .int .i64, .int .i64, .int .i64, .int .i64, .int .i64], .row 2 [.int .i64], .agg [.int .i64, .int .i64]]) : uncR [.row 83 [.int .i64, .int .i64, .int .i64, .int .i64, .int .i64, .int .i64], .row 2 [.int .i64], .agg [.int .i64, .int .i64]] (leatlaw44_MeterMargins N) x = evFn (e_leatlaw44_MeterMargins N) 13 12 (encA 0 [.row 83 [.int .i64, .int .i64, .int .i64, .int .i64, .int .i64, .int .i64], .row 2 [.int .i64], .agg [.int .i64, .int .i64]] x).1 (encA 0 [.row 83 [.int .i64, .int .i64, .int .i64, .int .i64, .int .i64, .int .i64], .row 2 [.int .i64], .agg [.int .i64, .int .i64]] x).2 (decR [.sc .bool]) := by kernel_rfl
end Go.Proofs.Ytakjmminaolfnaa.W
