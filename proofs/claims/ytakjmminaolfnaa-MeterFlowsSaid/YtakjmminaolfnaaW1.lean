/- The functions of the seat, as the evaluator tells them, each with its contract. Printed by genW.py. -/
import Derived.Test.YtakjmminaolfnaaW0
import Derived.Test.YtakjmminaolfnaaRows
import Derived.Test.YtakjmminaolfnaaPSeq
set_option maxRecDepth 100000
namespace Go.Proofs.Ytakjmminaolfnaa.W
open Go.Ev Go.RowKit
theorem facts : Facts Try.prog := ⟨by kernel_rfl, names_of (by kernel_rfl)⟩
def o_0 : List (Nat × FC) := []
theorem ok_0 (N : Nat) : OrcOK Try.prog o_0 N := orc_nil
def s_sat_Clamp (_ : Nat) : List (Nat × LC) := []
noncomputable def e_sat_Clamp (N : Nat) : Env := mkEnvX 0 [] Try.prog o_0 (s_sat_Clamp N) N
theorem q_sat_Clamp (N : Nat) : LoopsFor (e_sat_Clamp N) Try.prog 55 0 := loops_mk (by kernel_rfl) (fun j hj => match j, hj with
  | _ + 0, h => absurd h (by omega)) (fun _ => rfl)
def c_sat_Clamp : FC := mkF [.sc (.int .i64), .sc (.int .i64), .sc (.int .i64)] [.sc (.int .i64)] sat_Clamp
theorem t_sat_Clamp (N : Nat) : FCOK Try.prog N 55 c_sat_Clamp := fun_ok facts (ok_0 N) (by kernel_rfl) (by kernel_rfl) (q_sat_Clamp N) (fun t => by kernel_rfl)
def o_sat_Clamp : List (Nat × FC) := (55, c_sat_Clamp) :: o_0
theorem ok_sat_Clamp (N : Nat) : OrcOK Try.prog o_sat_Clamp N := orc_cons (t_sat_Clamp N) (ok_0 N)
def s_meter_size (_ : Nat) : List (Nat × LC) := []
noncomputable def e_meter_size (N : Nat) : Env := mkEnvX 0 [] Try.prog o_sat_Clamp (s_meter_size N) N
theorem q_meter_size (N : Nat) : LoopsFor (e_meter_size N) Try.prog 71 0 := loops_mk (by kernel_rfl) (fun j hj => match j, hj with
  | _ + 0, h => absurd h (by omega)) (fun _ => rfl)
def c_meter_size : FC := mkF [.row 2 [.int .i64], .sc (.int .i64)] [.sc (.int .i64)] meter_size
theorem t_meter_size (N : Nat) : FCOK Try.prog N 71 c_meter_size := fun_ok facts (ok_sat_Clamp N) (by kernel_rfl) (by kernel_rfl) (q_meter_size N) (fun t => by kernel_rfl)
def o_meter_size : List (Nat × FC) := (71, c_meter_size) :: o_sat_Clamp
theorem ok_meter_size (N : Nat) : OrcOK Try.prog o_meter_size N := orc_cons (t_meter_size N) (ok_sat_Clamp N)
def s_sat_end (_ : Nat) : List (Nat × LC) := []
noncomputable def e_sat_end (N : Nat) : Env := mkEnvX 0 [] Try.prog o_meter_size (s_sat_end N) N
theorem q_sat_end (N : Nat) : LoopsFor (e_sat_end N) Try.prog 82 0 := loops_mk (by kernel_rfl) (fun j hj => match j, hj with
  | _ + 0, h => absurd h (by omega)) (fun _ => rfl)
def c_sat_end : FC := mkF [.sc (.bool)] [.sc (.int .i64)] sat_end
theorem t_sat_end (N : Nat) : FCOK Try.prog N 82 c_sat_end := fun_ok facts (ok_meter_size N) (by kernel_rfl) (by kernel_rfl) (q_sat_end N) (fun t => by kernel_rfl)
def o_sat_end : List (Nat × FC) := (82, c_sat_end) :: o_meter_size
theorem ok_sat_end (N : Nat) : OrcOK Try.prog o_sat_end N := orc_cons (t_sat_end N) (ok_meter_size N)
def s_sat_Add (_ : Nat) : List (Nat × LC) := []
noncomputable def e_sat_Add (N : Nat) : Env := mkEnvX 0 [] Try.prog o_sat_end (s_sat_Add N) N
theorem q_sat_Add (N : Nat) : LoopsFor (e_sat_Add N) Try.prog 62 0 := loops_mk (by kernel_rfl) (fun j hj => match j, hj with
  | _ + 0, h => absurd h (by omega)) (fun _ => rfl)
def c_sat_Add : FC := mkF [.sc (.int .i64), .sc (.int .i64)] [.sc (.int .i64)] sat_Add
theorem t_sat_Add (N : Nat) : FCOK Try.prog N 62 c_sat_Add := fun_ok facts (ok_sat_end N) (by kernel_rfl) (by kernel_rfl) (q_sat_Add N) (fun t => by kernel_rfl)
def o_sat_Add : List (Nat × FC) := (62, c_sat_Add) :: o_sat_end
theorem ok_sat_Add (N : Nat) : OrcOK Try.prog o_sat_Add N := orc_cons (t_sat_Add N) (ok_sat_end N)
def s_meter_count (_ : Nat) : List (Nat × LC) := []
noncomputable def e_meter_count (N : Nat) : Env := mkEnvX 1 [] Try.prog o_sat_Add (s_meter_count N) N
theorem q_meter_count (N : Nat) : LoopsFor (e_meter_count N) Try.prog 75 0 := loops_mk (by kernel_rfl) (fun j hj => match j, hj with
  | _ + 0, h => absurd h (by omega)) (fun _ => rfl)
def a_meter_count : List Pat := [.eltp 0 12 0, .agg [.int .i64, .int .i64, .int .i64, .int .i64, .int .i64, .int .i64], .sc (.int .i64)]
def b_meter_count : List HPat := [.rows 66 [.int .i64, .int .i64, .int .i64, .int .i64, .int .i64, .int .i64, .int .i64, .int .i64, .int .i64, .int .i64, .int .i64, .int .i64]]
def ra_meter_count : List Pat := []
def rb_meter_count : List HPat := [.rows 66 [.int .i64, .int .i64, .int .i64, .int .i64, .int .i64, .int .i64, .int .i64, .int .i64, .int .i64, .int .i64, .int .i64, .int .i64]]
def c_meter_count : FC := mkFCH 1 a_meter_count b_meter_count ra_meter_count rb_meter_count meter_count
theorem t_meter_count (N : Nat) : FCOK Try.prog N 75 c_meter_count := eff_ok facts (ok_sat_Add N) (by kernel_rfl) (by kernel_rfl) (q_meter_count N) (fun t => by kernel_rfl)
def o_meter_count : List (Nat × FC) := (75, c_meter_count) :: o_sat_Add
theorem ok_meter_count (N : Nat) : OrcOK Try.prog o_meter_count N := orc_cons (t_meter_count N) (ok_sat_Add N)
def s_meter_Flows (_ : Nat) : List (Nat × LC) := []
def pr_meter_Flows_4 : List Pat := [.any, .any, .any, .ptr 0 0, .any, .ptr 1 0, .any, .any, .any, .any, .any, .any, .any, .fn 94 [(2, 0), (3, 0)], .any, .any, .any, .any, .any, .any, .any, .any, .any, .any, .any, .any]
def hr_meter_Flows_4 : List HPat := [.cells [.sl 4], .cells [.sl 5], .rcells [.sl 6], .rcells [.sc (.int .i64)], .ext 2 [.int .i64], .rows 66 [.int .i64, .int .i64, .int .i64, .int .i64, .int .i64, .int .i64, .int .i64, .int .i64, .int .i64, .int .i64, .int .i64, .int .i64], .ext 83 [.int .i64, .int .i64, .int .i64, .int .i64, .int .i64, .int .i64]]
def rc_meter_Flows_4 (N : Nat) : RC := mkRC 0 94 sh6 (metDec 83) pr_meter_Flows_4 hr_meter_Flows_4 (meter_Flows_R4 N)
def sr_meter_Flows (N : Nat) : List (Nat × RC) := [(4, rc_meter_Flows_4 N)]
noncomputable def e_meter_Flows (N : Nat) : Env := mkEnvX 0 [] Try.prog o_meter_count (s_meter_Flows N) N (sr_meter_Flows N)
theorem kr_meter_Flows_4 (N : Nat) : RCOK (e_meter_Flows N) 12 (rangeAt Try.prog 44 0).1 (rangeAt Try.prog 44 0).2.1 (rangeAt Try.prog 44 0).2.2 (rc_meter_Flows_4 N) := mkRC_ok rfl facts.names (by kernel_rfl) (by kernel_rfl) (by kernel_rfl) Pure.metSeq (fun i F x => by kernel_rfl)
theorem q_meter_Flows (N : Nat) : LoopsFor (e_meter_Flows N) Try.prog 44 0 := loops_mkR 1 (by kernel_rfl) (fun j hj => match j, hj with
  | _ + 0, h => absurd h (by omega)) (by kernel_rfl) (fun j hj => match j, hj with
  | 0, _ => ⟨rc_meter_Flows_4 N, by kernel_rfl, kr_meter_Flows_4 N⟩
  | _ + 1, h => absurd h (by omega))
def c_meter_Flows : FC := mkF [.row 83 [.int .i64, .int .i64, .int .i64, .int .i64, .int .i64, .int .i64], .row 2 [.int .i64]] [.row 66 [.int .i64, .int .i64, .int .i64, .int .i64, .int .i64, .int .i64, .int .i64, .int .i64, .int .i64, .int .i64, .int .i64, .int .i64]] meter_Flows
theorem t_meter_Flows (N : Nat) : FCOK Try.prog N 44 c_meter_Flows := fun_ok facts (ok_meter_count N) (by kernel_rfl) (by kernel_rfl) (q_meter_Flows N) (fun t => by kernel_rfl)
def o_meter_Flows : List (Nat × FC) := (44, c_meter_Flows) :: o_meter_count
theorem ok_meter_Flows (N : Nat) : OrcOK Try.prog o_meter_Flows N := orc_cons (t_meter_Flows N) (ok_meter_count N)
def p_leatref44_Of_3 : List Pat := [.sl 0, .sc (.int .i64), .any, .any, .any, .sl 1, .sc (.int .i64), .any, .any, .any, .any, .any, .any, .any, .any, .any, .any, .any, .any, .any, .any, .any, .any, .any, .any, .any, .any, .any, .any, .any, .any, .any, .any, .any, .any, .any, .any, .any, .any, .any, .any, .any, .any, .any]
def h_leatref44_Of_3 : List HPat := [.ext 83 [.int .i64, .int .i64, .int .i64, .int .i64, .int .i64, .int .i64], .rows 83 [.int .i64, .int .i64, .int .i64, .int .i64, .int .i64, .int .i64]]
def x_leatref44_Of_3 : List XP := [⟨.exit 0, [.any, .any, .any, .any, .any, .sl 0, .any, .any, .any, .any, .any, .any, .any, .any, .any, .any, .any, .any, .any, .any, .any, .any, .any, .any, .any, .any, .any, .any, .any, .any, .any, .any, .any, .any, .any, .any, .any, .any, .any, .any, .any, .any, .any, .any], [.rows 83 [.int .i64, .int .i64, .int .i64, .int .i64, .int .i64, .int .i64]]⟩]
def lc_leatref44_Of_3 (N : Nat) : LC := mkLC 0 p_leatref44_Of_3 h_leatref44_Of_3 x_leatref44_Of_3 (leatref44_Of_L3 N)
def s_leatref44_Of (N : Nat) : List (Nat × LC) := [(3, lc_leatref44_Of_3 N)]
noncomputable def e_leatref44_Of (N : Nat) : Env := mkEnvX 0 [] Try.prog o_meter_Flows (s_leatref44_Of N) N
theorem k_leatref44_Of_3 (N : Nat) : LCOK (e_leatref44_Of N) 12 (loopAt Try.prog 72 0) (lc_leatref44_Of_3 N) := mkLC_ok rfl (by kernel_rfl) (by kernel_rfl) (fun F x => by kernel_rfl)
theorem q_leatref44_Of (N : Nat) : LoopsFor (e_leatref44_Of N) Try.prog 72 1 := loops_mk (by kernel_rfl) (fun j hj => match j, hj with
  | 0, _ => .inl ⟨lc_leatref44_Of_3 N, by kernel_rfl, k_leatref44_Of_3 N⟩
  | _ + 1, h => absurd h (by omega)) (fun _ => rfl)
def c_leatref44_Of : FC := mkF [.row 83 [.int .i64, .int .i64, .int .i64, .int .i64, .int .i64, .int .i64], .sc (.int .i64)] [.row 83 [.int .i64, .int .i64, .int .i64, .int .i64, .int .i64, .int .i64]] leatref44_Of
theorem t_leatref44_Of (N : Nat) : FCOK Try.prog N 72 c_leatref44_Of := fun_ok facts (ok_meter_Flows N) (by kernel_rfl) (by kernel_rfl) (q_leatref44_Of N) (fun t => by kernel_rfl)
def o_leatref44_Of : List (Nat × FC) := (72, c_leatref44_Of) :: o_meter_Flows
theorem ok_leatref44_Of (N : Nat) : OrcOK Try.prog o_leatref44_Of N := orc_cons (t_leatref44_Of N) (ok_meter_Flows N)
def s_leatref44_Size (_ : Nat) : List (Nat × LC) := []
noncomputable def e_leatref44_Size (N : Nat) : Env := mkEnvX 0 [] Try.prog o_leatref44_Of (s_leatref44_Size N) N
theorem q_leatref44_Size (N : Nat) : LoopsFor (e_leatref44_Size N) Try.prog 73 0 := loops_mk (by kernel_rfl) (fun j hj => match j, hj with
  | _ + 0, h => absurd h (by omega)) (fun _ => rfl)
def c_leatref44_Size : FC := mkF [.row 2 [.int .i64], .sc (.int .i64)] [.sc (.int .i64)] leatref44_Size
theorem t_leatref44_Size (N : Nat) : FCOK Try.prog N 73 c_leatref44_Size := fun_ok facts (ok_leatref44_Of N) (by kernel_rfl) (by kernel_rfl) (q_leatref44_Size N) (fun t => by kernel_rfl)
def o_leatref44_Size : List (Nat × FC) := (73, c_leatref44_Size) :: o_leatref44_Of
theorem ok_leatref44_Size (N : Nat) : OrcOK Try.prog o_leatref44_Size N := orc_cons (t_leatref44_Size N) (ok_leatref44_Of N)
def p_leatref44_number_3 : List Pat := [.sl 0, .sc (.int .i64), .sc (.int .i64), .any, .any, .any, .any, .sc (.int .i64), .sc (.int .i64), .any, .any, .any, .any, .any, .any, .any, .any, .any, .any, .any, .any, .any, .any, .any, .any, .any, .any, .any, .any, .any, .any, .any, .any, .any]
def h_leatref44_number_3 : List HPat := [.ext 83 [.int .i64, .int .i64, .int .i64, .int .i64, .int .i64, .int .i64]]
def x_leatref44_number_3 : List XP := [⟨.exit 0, [.any, .any, .any, .any, .any, .any, .any, .sc (.int .i64), .any, .any, .any, .any, .any, .any, .any, .any, .any, .any, .any, .any, .any, .any, .any, .any, .any, .any, .any, .any, .any, .any, .any, .any, .any, .any], []⟩]
def lc_leatref44_number_3 (N : Nat) : LC := mkLC 0 p_leatref44_number_3 h_leatref44_number_3 x_leatref44_number_3 (leatref44_number_L3 N)
def s_leatref44_number (N : Nat) : List (Nat × LC) := [(3, lc_leatref44_number_3 N)]
noncomputable def e_leatref44_number (N : Nat) : Env := mkEnvX 0 [] Try.prog o_leatref44_Size (s_leatref44_number N) N
theorem k_leatref44_number_3 (N : Nat) : LCOK (e_leatref44_number N) 12 (loopAt Try.prog 95 0) (lc_leatref44_number_3 N) := mkLC_ok rfl (by kernel_rfl) (by kernel_rfl) (fun F x => by kernel_rfl)
theorem q_leatref44_number (N : Nat) : LoopsFor (e_leatref44_number N) Try.prog 95 1 := loops_mk (by kernel_rfl) (fun j hj => match j, hj with
  | 0, _ => .inl ⟨lc_leatref44_number_3 N, by kernel_rfl, k_leatref44_number_3 N⟩
  | _ + 1, h => absurd h (by omega)) (fun _ => rfl)
def c_leatref44_number : FC := mkF [.row 83 [.int .i64, .int .i64, .int .i64, .int .i64, .int .i64, .int .i64], .sc (.int .i64), .sc (.int .i64)] [.sc (.int .i64)] leatref44_number
theorem t_leatref44_number (N : Nat) : FCOK Try.prog N 95 c_leatref44_number := fun_ok facts (ok_leatref44_Size N) (by kernel_rfl) (by kernel_rfl) (q_leatref44_number N) (fun t => by kernel_rfl)
def o_leatref44_number : List (Nat × FC) := (95, c_leatref44_number) :: o_leatref44_Size
theorem ok_leatref44_number (N : Nat) : OrcOK Try.prog o_leatref44_number N := orc_cons (t_leatref44_number N) (ok_leatref44_Size N)
def s_leatref01_Add (_ : Nat) : List (Nat × LC) := []
noncomputable def e_leatref01_Add (N : Nat) : Env := mkEnvX 0 [] Try.prog o_leatref44_number (s_leatref01_Add N) N
theorem q_leatref01_Add (N : Nat) : LoopsFor (e_leatref01_Add N) Try.prog 77 0 := loops_mk (by kernel_rfl) (fun j hj => match j, hj with
  | _ + 0, h => absurd h (by omega)) (fun _ => rfl)
def c_leatref01_Add : FC := mkF [.sc (.int .i64), .sc (.int .i64)] [.sc (.int .i64)] leatref01_Add
theorem t_leatref01_Add (N : Nat) : FCOK Try.prog N 77 c_leatref01_Add := fun_ok facts (ok_leatref44_number N) (by kernel_rfl) (by kernel_rfl) (q_leatref01_Add N) (fun t => by kernel_rfl)
def o_leatref01_Add : List (Nat × FC) := (77, c_leatref01_Add) :: o_leatref44_number
theorem ok_leatref01_Add (N : Nat) : OrcOK Try.prog o_leatref01_Add N := orc_cons (t_leatref01_Add N) (ok_leatref44_number N)
def p_leatref44_Flow_4 : List Pat := [.sl 0, .sc (.int .i64), .any, .any, .any, .any, .ptr 1 0, .ptr 2 0, .sc (.int .i64), .any, .any, .any, .any, .any, .any, .any, .any, .any, .any, .any, .any, .any, .any, .any, .any, .any, .any, .any, .any, .any, .any, .any, .any, .any, .any, .any, .any, .any, .any, .any, .any, .any, .any, .any, .any, .any, .any, .any, .any, .any, .any, .any, .any, .any, .any, .any, .any, .any, .any, .any, .any, .any, .any, .any, .any, .any, .any, .any, .any, .any, .any, .any, .any, .any, .any, .any, .any, .any, .any, .any, .any, .any, .any, .any, .any, .any, .any, .any, .any, .any, .any, .any, .any, .any, .any, .any, .any, .any, .any, .any, .any, .any, .any, .any, .any, .any, .any, .any, .any, .any, .any, .any, .any, .any, .any, .any, .any]
def h_leatref44_Flow_4 : List HPat := [.ext 83 [.int .i64, .int .i64, .int .i64, .int .i64, .int .i64, .int .i64], .cells [.sc (.int .i64), .sc (.int .i64), .sc (.int .i64), .sc (.int .i64), .sc (.int .i64), .sc (.int .i64), .sc (.int .i64), .sc (.int .i64), .sc (.int .i64), .sc (.int .i64), .sc (.int .i64), .sc (.int .i64)], .cells [.sc (.int .i64), .sc (.int .i64), .sc (.int .i64), .sc (.int .i64), .sc (.int .i64), .sc (.int .i64), .sc (.int .i64), .sc (.int .i64), .sc (.int .i64), .sc (.int .i64), .sc (.int .i64), .sc (.int .i64)]]
def x_leatref44_Flow_4 : List XP := [⟨.exit 0, [.any, .any, .any, .any, .any, .any, .ptr 0 0, .ptr 1 0, .any, .any, .any, .any, .any, .any, .any, .any, .any, .any, .any, .any, .any, .any, .any, .any, .any, .any, .any, .any, .any, .any, .any, .any, .any, .any, .any, .any, .any, .any, .any, .any, .any, .any, .any, .any, .any, .any, .any, .any, .any, .any, .any, .any, .any, .any, .any, .any, .any, .any, .any, .any, .any, .any, .any, .any, .any, .any, .any, .any, .any, .any, .any, .any, .any, .any, .any, .any, .any, .any, .any, .any, .any, .any, .any, .any, .any, .any, .any, .any, .any, .any, .any, .any, .any, .any, .any, .any, .any, .any, .any, .any, .any, .any, .any, .any, .any, .any, .any, .any, .any, .any, .any, .any, .any, .any, .any, .any, .any], [.cells [.sc (.int .i64), .sc (.int .i64), .sc (.int .i64), .sc (.int .i64), .sc (.int .i64), .sc (.int .i64), .sc (.int .i64), .sc (.int .i64), .sc (.int .i64), .sc (.int .i64), .sc (.int .i64), .sc (.int .i64)], .cells [.sc (.int .i64), .sc (.int .i64), .sc (.int .i64), .sc (.int .i64), .sc (.int .i64), .sc (.int .i64), .sc (.int .i64), .sc (.int .i64), .sc (.int .i64), .sc (.int .i64), .sc (.int .i64), .sc (.int .i64)]]⟩]
def lc_leatref44_Flow_4 (N : Nat) : LC := mkLC 0 p_leatref44_Flow_4 h_leatref44_Flow_4 x_leatref44_Flow_4 (leatref44_Flow_L4 N)
def s_leatref44_Flow (N : Nat) : List (Nat × LC) := [(4, lc_leatref44_Flow_4 N)]
noncomputable def e_leatref44_Flow (N : Nat) : Env := mkEnvX 0 [] Try.prog o_leatref01_Add (s_leatref44_Flow N) N
theorem k_leatref44_Flow_4 (N : Nat) : LCOK (e_leatref44_Flow N) 12 (loopAt Try.prog 76 0) (lc_leatref44_Flow_4 N) := mkLC_ok rfl (by kernel_rfl) (by kernel_rfl) (fun F x => by kernel_rfl)
theorem q_leatref44_Flow (N : Nat) : LoopsFor (e_leatref44_Flow N) Try.prog 76 1 := loops_mk (by kernel_rfl) (fun j hj => match j, hj with
  | 0, _ => .inl ⟨lc_leatref44_Flow_4 N, by kernel_rfl, k_leatref44_Flow_4 N⟩
  | _ + 1, h => absurd h (by omega)) (fun _ => rfl)
def c_leatref44_Flow : FC := mkF [.row 83 [.int .i64, .int .i64, .int .i64, .int .i64, .int .i64, .int .i64], .sc (.int .i64), .sc (.int .i64)] [.agg [.int .i64, .int .i64, .int .i64, .int .i64, .int .i64, .int .i64, .int .i64, .int .i64, .int .i64, .int .i64, .int .i64, .int .i64]] leatref44_Flow
theorem t_leatref44_Flow (N : Nat) : FCOK Try.prog N 76 c_leatref44_Flow := fun_ok facts (ok_leatref01_Add N) (by kernel_rfl) (by kernel_rfl) (q_leatref44_Flow N) (fun t => by kernel_rfl)
def o_leatref44_Flow : List (Nat × FC) := (76, c_leatref44_Flow) :: o_leatref01_Add
theorem ok_leatref44_Flow (N : Nat) : OrcOK Try.prog o_leatref44_Flow N := orc_cons (t_leatref44_Flow N) (ok_leatref01_Add N)
def p_leatref44_Flows_3 : List Pat := [.sl 0, .sl 1, .any, .any, .any, .sl 2, .sc (.int .i64), .any, .any, .any, .any, .any, .any, .any, .any, .any, .any, .any, .any, .any, .any, .any, .any, .any, .any, .any]
def h_leatref44_Flows_3 : List HPat := [.ext 83 [.int .i64, .int .i64, .int .i64, .int .i64, .int .i64, .int .i64], .ext 2 [.int .i64], .rows 66 [.int .i64, .int .i64, .int .i64, .int .i64, .int .i64, .int .i64, .int .i64, .int .i64, .int .i64, .int .i64, .int .i64, .int .i64]]
def x_leatref44_Flows_3 : List XP := [⟨.exit 0, [.any, .any, .any, .any, .any, .sl 0, .any, .any, .any, .any, .any, .any, .any, .any, .any, .any, .any, .any, .any, .any, .any, .any, .any, .any, .any, .any], [.rows 66 [.int .i64, .int .i64, .int .i64, .int .i64, .int .i64, .int .i64, .int .i64, .int .i64, .int .i64, .int .i64, .int .i64, .int .i64]]⟩]
def lc_leatref44_Flows_3 (N : Nat) : LC := mkLC 0 p_leatref44_Flows_3 h_leatref44_Flows_3 x_leatref44_Flows_3 (leatref44_Flows_L3 N)
def s_leatref44_Flows (N : Nat) : List (Nat × LC) := [(3, lc_leatref44_Flows_3 N)]
noncomputable def e_leatref44_Flows (N : Nat) : Env := mkEnvX 0 [] Try.prog o_leatref44_Flow (s_leatref44_Flows N) N
theorem k_leatref44_Flows_3 (N : Nat) : LCOK (e_leatref44_Flows N) 12 (loopAt Try.prog 45 0) (lc_leatref44_Flows_3 N) := mkLC_ok rfl (by kernel_rfl) (by kernel_rfl) (fun F x => by kernel_rfl)
theorem q_leatref44_Flows (N : Nat) : LoopsFor (e_leatref44_Flows N) Try.prog 45 1 := loops_mk (by kernel_rfl) (fun j hj => match j, hj with
  | 0, _ => .inl ⟨lc_leatref44_Flows_3 N, by kernel_rfl, k_leatref44_Flows_3 N⟩
  | _ + 1, h => absurd h (by omega)) (fun _ => rfl)
def c_leatref44_Flows : FC := mkF [.row 83 [.int .i64, .int .i64, .int .i64, .int .i64, .int .i64, .int .i64], .row 2 [.int .i64]] [.row 66 [.int .i64, .int .i64, .int .i64, .int .i64, .int .i64, .int .i64, .int .i64, .int .i64, .int .i64, .int .i64, .int .i64, .int .i64]] leatref44_Flows
theorem t_leatref44_Flows (N : Nat) : FCOK Try.prog N 45 c_leatref44_Flows := fun_ok facts (ok_leatref44_Flow N) (by kernel_rfl) (by kernel_rfl) (q_leatref44_Flows N) (fun t => by kernel_rfl)
def o_leatref44_Flows : List (Nat × FC) := (45, c_leatref44_Flows) :: o_leatref44_Flow
theorem ok_leatref44_Flows (N : Nat) : OrcOK Try.prog o_leatref44_Flows N := orc_cons (t_leatref44_Flows N) (ok_leatref44_Flow N)
def p_leatlaw44_same_4 : List Pat := [.sl 0, .sl 1, .any, .any, .any, .any, .any, .any, .any, .any, .any, .any, .sc (.int .i64), .sc (.int .i64), .any, .any, .any, .any, .any, .any, .any, .any, .any, .any, .any, .any]
def h_leatlaw44_same_4 : List HPat := [.ext 66 [.int .i64, .int .i64, .int .i64, .int .i64, .int .i64, .int .i64, .int .i64, .int .i64, .int .i64, .int .i64, .int .i64, .int .i64], .ext 66 [.int .i64, .int .i64, .int .i64, .int .i64, .int .i64, .int .i64, .int .i64, .int .i64, .int .i64, .int .i64, .int .i64, .int .i64]]
def x_leatlaw44_same_4 : List XP := [⟨.ret, [.any, .any, .any, .any, .sc (.bool), .any, .any, .any, .any, .any, .any, .any, .any, .any, .any, .any, .any, .any, .any, .any, .any, .any, .any, .any, .any, .any], []⟩, ⟨.exit 0, [.any, .any, .any, .any, .any, .any, .any, .any, .any, .any, .any, .any, .any, .any, .any, .any, .any, .any, .any, .any, .any, .any, .any, .any, .any, .any], []⟩]
def lc_leatlaw44_same_4 (N : Nat) : LC := mkLC 0 p_leatlaw44_same_4 h_leatlaw44_same_4 x_leatlaw44_same_4 (leatlaw44_same_L4 N)
def s_leatlaw44_same (N : Nat) : List (Nat × LC) := [(4, lc_leatlaw44_same_4 N)]
noncomputable def e_leatlaw44_same (N : Nat) : Env := mkEnvX 0 [] Try.prog o_leatref44_Flows (s_leatlaw44_same N) N
theorem k_leatlaw44_same_4 (N : Nat) : LCOK (e_leatlaw44_same N) 12 (loopAt Try.prog 43 0) (lc_leatlaw44_same_4 N) := mkLC_ok rfl (by kernel_rfl) (by kernel_rfl) (fun F x => by kernel_rfl)
theorem q_leatlaw44_same (N : Nat) : LoopsFor (e_leatlaw44_same N) Try.prog 43 1 := loops_mk (by kernel_rfl) (fun j hj => match j, hj with
  | 0, _ => .inl ⟨lc_leatlaw44_same_4 N, by kernel_rfl, k_leatlaw44_same_4 N⟩
  | _ + 1, h => absurd h (by omega)) (fun _ => rfl)
def c_leatlaw44_same : FC := mkF [.row 66 [.int .i64, .int .i64, .int .i64, .int .i64, .int .i64, .int .i64, .int .i64, .int .i64, .int .i64, .int .i64, .int .i64, .int .i64], .row 66 [.int .i64, .int .i64, .int .i64, .int .i64, .int .i64, .int .i64, .int .i64, .int .i64, .int .i64, .int .i64, .int .i64, .int .i64]] [.sc (.bool)] leatlaw44_same
theorem t_leatlaw44_same (N : Nat) : FCOK Try.prog N 43 c_leatlaw44_same := fun_ok facts (ok_leatref44_Flows N) (by kernel_rfl) (by kernel_rfl) (q_leatlaw44_same N) (fun t => by kernel_rfl)
def o_leatlaw44_same : List (Nat × FC) := (43, c_leatlaw44_same) :: o_leatref44_Flows
theorem ok_leatlaw44_same (N : Nat) : OrcOK Try.prog o_leatlaw44_same N := orc_cons (t_leatlaw44_same N) (ok_leatref44_Flows N)
def p_meter_All_6 : List Pat := [.any, .any, .ptr 0 0, .ptr 1 0, .any, .ptr 2 0, .any, .any, .sl 3, .sc (.int .i64), .sc (.int .i64), .any, .any, .any, .any, .any, .any, .any, .any, .any, .any, .any, .any, .any, .any, .any, .any, .any, .any, .any, .any, .any, .any, .any, .any, .any, .any, .any, .any, .any, .any, .any, .any, .any, .any, .any, .any, .aggp [.ptr 1 0, .ptr 2 0, .ptr 1 1, .ptr 2 1, .ptr 1 2, .ptr 2 2, .ptr 1 3, .ptr 2 3, .ptr 1 4, .ptr 2 4, .ptr 1 5, .ptr 2 5, .ptr 1 6, .ptr 2 6, .ptr 1 7, .ptr 2 7, .ptr 1 8, .ptr 2 8, .ptr 1 9, .ptr 2 9, .ptr 1 11, .ptr 2 11], .sc (.int .i64), .any, .any, .any, .any, .any, .any, .any, .any, .any, .any, .any, .any, .any, .any, .any, .any, .any, .any, .any, .any, .any, .any, .any]
def h_meter_All_6 : List HPat := [.cells [.sc (.int .i64), .sc (.int .i64), .sc (.int .i64), .sc (.int .i64), .sc (.int .i64), .sc (.int .i64), .sc (.int .i64), .sc (.int .i64), .sc (.int .i64), .sc (.int .i64), .sc (.int .i64), .sc (.int .i64)], .cells [.sc (.int .i64), .sc (.int .i64), .sc (.int .i64), .sc (.int .i64), .sc (.int .i64), .sc (.int .i64), .sc (.int .i64), .sc (.int .i64), .sc (.int .i64), .sc (.int .i64), .sc (.int .i64), .sc (.int .i64)], .cells [.sc (.int .i64), .sc (.int .i64), .sc (.int .i64), .sc (.int .i64), .sc (.int .i64), .sc (.int .i64), .sc (.int .i64), .sc (.int .i64), .sc (.int .i64), .sc (.int .i64), .sc (.int .i64), .sc (.int .i64)], .ext 66 [.int .i64, .int .i64, .int .i64, .int .i64, .int .i64, .int .i64, .int .i64, .int .i64, .int .i64, .int .i64, .int .i64, .int .i64]]
def x_meter_All_6 : List XP := [⟨.exit 2, [.any, .any, .ptr 0 0, .ptr 1 0, .any, .ptr 2 0, .any, .any, .sl 3, .sc (.int .i64), .sc (.int .i64), .any, .any, .any, .any, .any, .any, .any, .any, .any, .any, .any, .any, .any, .any, .any, .any, .any, .any, .any, .any, .any, .any, .any, .any, .any, .any, .any, .any, .any, .any, .any, .any, .any, .any, .any, .any, .any, .any, .any, .any, .any, .any, .any, .any, .any, .any, .any, .any, .any, .any, .any, .any, .any, .any, .any, .any, .any, .any, .any, .any, .any], [.cells [.sc (.int .i64), .sc (.int .i64), .sc (.int .i64), .sc (.int .i64), .sc (.int .i64), .sc (.int .i64), .sc (.int .i64), .sc (.int .i64), .sc (.int .i64), .sc (.int .i64), .sc (.int .i64), .sc (.int .i64)], .cells [.sc (.int .i64), .sc (.int .i64), .sc (.int .i64), .sc (.int .i64), .sc (.int .i64), .sc (.int .i64), .sc (.int .i64), .sc (.int .i64), .sc (.int .i64), .sc (.int .i64), .sc (.int .i64), .sc (.int .i64)], .cells [.sc (.int .i64), .sc (.int .i64), .sc (.int .i64), .sc (.int .i64), .sc (.int .i64), .sc (.int .i64), .sc (.int .i64), .sc (.int .i64), .sc (.int .i64), .sc (.int .i64), .sc (.int .i64), .sc (.int .i64)], .ext 66 [.int .i64, .int .i64, .int .i64, .int .i64, .int .i64, .int .i64, .int .i64, .int .i64, .int .i64, .int .i64, .int .i64, .int .i64]]⟩]
def lc_meter_All_6 (N : Nat) : LC := mkLC 0 p_meter_All_6 h_meter_All_6 x_meter_All_6 (meter_All_L6 N)
def p_meter_All_3 : List Pat := [.any, .any, .ptr 0 0, .ptr 1 0, .any, .any, .any, .any, .sl 2, .sc (.int .i64), .sc (.int .i64), .any, .any, .any, .any, .any, .any, .any, .any, .any, .any, .any, .any, .any, .any, .any, .any, .any, .any, .any, .any, .any, .any, .any, .any, .any, .any, .any, .any, .any, .any, .any, .any, .any, .any, .any, .any, .any, .any, .any, .any, .any, .any, .any, .any, .any, .any, .any, .any, .any, .any, .any, .any, .any, .any, .any, .any, .any, .any, .any, .any, .any]
def h_meter_All_3 : List HPat := [.cells [.sc (.int .i64), .sc (.int .i64), .sc (.int .i64), .sc (.int .i64), .sc (.int .i64), .sc (.int .i64), .sc (.int .i64), .sc (.int .i64), .sc (.int .i64), .sc (.int .i64), .sc (.int .i64), .sc (.int .i64)], .cells [.sc (.int .i64), .sc (.int .i64), .sc (.int .i64), .sc (.int .i64), .sc (.int .i64), .sc (.int .i64), .sc (.int .i64), .sc (.int .i64), .sc (.int .i64), .sc (.int .i64), .sc (.int .i64), .sc (.int .i64)], .ext 66 [.int .i64, .int .i64, .int .i64, .int .i64, .int .i64, .int .i64, .int .i64, .int .i64, .int .i64, .int .i64, .int .i64, .int .i64]]
def x_meter_All_3 : List XP := [⟨.exit 0, [.any, .any, .ptr 0 0, .ptr 1 0, .any, .any, .any, .any, .any, .any, .any, .any, .any, .any, .any, .any, .any, .any, .any, .any, .any, .any, .any, .any, .any, .any, .any, .any, .any, .any, .any, .any, .any, .any, .any, .any, .any, .any, .any, .any, .any, .any, .any, .any, .any, .any, .any, .any, .any, .any, .any, .any, .any, .any, .any, .any, .any, .any, .any, .any, .any, .any, .any, .any, .any, .any, .any, .any, .any, .any, .any, .any], [.cells [.sc (.int .i64), .sc (.int .i64), .sc (.int .i64), .sc (.int .i64), .sc (.int .i64), .sc (.int .i64), .sc (.int .i64), .sc (.int .i64), .sc (.int .i64), .sc (.int .i64), .sc (.int .i64), .sc (.int .i64)], .cells [.sc (.int .i64), .sc (.int .i64), .sc (.int .i64), .sc (.int .i64), .sc (.int .i64), .sc (.int .i64), .sc (.int .i64), .sc (.int .i64), .sc (.int .i64), .sc (.int .i64), .sc (.int .i64), .sc (.int .i64)]]⟩]
def lc_meter_All_3 (N : Nat) : LC := mkLC 0 p_meter_All_3 h_meter_All_3 x_meter_All_3 (meter_All_L3 N)
def s_meter_All (N : Nat) : List (Nat × LC) := [(6, lc_meter_All_6 N), (3, lc_meter_All_3 N)]
noncomputable def e_meter_All (N : Nat) : Env := mkEnvX 0 [] Try.prog o_leatlaw44_same (s_meter_All N) N
theorem k_meter_All_6 (N : Nat) : LCOK (e_meter_All N) 12 (loopAt Try.prog 46 1) (lc_meter_All_6 N) := mkLC_ok rfl (by kernel_rfl) (by kernel_rfl) (fun F x => by kernel_rfl)
theorem k_meter_All_3 (N : Nat) : LCOK (e_meter_All N) 12 (loopAt Try.prog 46 0) (lc_meter_All_3 N) := mkLC_ok rfl (by kernel_rfl) (by kernel_rfl) (fun F x => by kernel_rfl)
theorem q_meter_All (N : Nat) : LoopsFor (e_meter_All N) Try.prog 46 2 := loops_mk (by kernel_rfl) (fun j hj => match j, hj with
  | 0, _ => .inl ⟨lc_meter_All_3 N, by kernel_rfl, k_meter_All_3 N⟩
  | 1, _ => .inl ⟨lc_meter_All_6 N, by kernel_rfl, k_meter_All_6 N⟩
  | _ + 2, h => absurd h (by omega)) (fun _ => rfl)
def c_meter_All : FC := mkF [.row 66 [.int .i64, .int .i64, .int .i64, .int .i64, .int .i64, .int .i64, .int .i64, .int .i64, .int .i64, .int .i64, .int .i64, .int .i64]] [.agg [.int .i64, .int .i64, .int .i64, .int .i64, .int .i64, .int .i64, .int .i64, .int .i64, .int .i64, .int .i64, .int .i64, .int .i64]] meter_All
theorem t_meter_All (N : Nat) : FCOK Try.prog N 46 c_meter_All := fun_ok facts (ok_leatlaw44_same N) (by kernel_rfl) (by kernel_rfl) (q_meter_All N) (fun t => by kernel_rfl)
def o_meter_All : List (Nat × FC) := (46, c_meter_All) :: o_leatlaw44_same
theorem ok_meter_All (N : Nat) : OrcOK Try.prog o_meter_All N := orc_cons (t_meter_All N) (ok_leatlaw44_same N)
def p_leatref44_All_3 : List Pat := [.sl 0, .any, .ptr 1 0, .ptr 2 0, .sc (.int .i64), .any, .any, .any, .any, .any, .any, .any, .any, .any, .any, .any, .any, .any, .any, .any, .any, .any, .any, .any, .any, .any, .any, .any, .any, .any, .any, .any, .any, .any, .any, .any, .any, .any, .any, .any, .any, .any, .any, .any, .any, .any, .any, .any, .any, .any, .any, .any, .any, .any, .any, .any, .any, .any, .any, .any, .any, .any, .any, .any, .any, .any, .any, .any, .any, .any, .any, .any, .any, .any, .any, .any, .any, .any, .any, .any, .any, .any, .any, .any, .any, .any, .any, .any, .any]
def h_leatref44_All_3 : List HPat := [.ext 66 [.int .i64, .int .i64, .int .i64, .int .i64, .int .i64, .int .i64, .int .i64, .int .i64, .int .i64, .int .i64, .int .i64, .int .i64], .cells [.sc (.int .i64), .sc (.int .i64), .sc (.int .i64), .sc (.int .i64), .sc (.int .i64), .sc (.int .i64), .sc (.int .i64), .sc (.int .i64), .sc (.int .i64), .sc (.int .i64), .sc (.int .i64), .sc (.int .i64)], .cells [.sc (.int .i64), .sc (.int .i64), .sc (.int .i64), .sc (.int .i64), .sc (.int .i64), .sc (.int .i64), .sc (.int .i64), .sc (.int .i64), .sc (.int .i64), .sc (.int .i64), .sc (.int .i64), .sc (.int .i64)]]
def x_leatref44_All_3 : List XP := [⟨.exit 0, [.any, .any, .ptr 0 0, .ptr 1 0, .any, .any, .any, .any, .any, .any, .any, .any, .any, .any, .any, .any, .any, .any, .any, .any, .any, .any, .any, .any, .any, .any, .any, .any, .any, .any, .any, .any, .any, .any, .any, .any, .any, .any, .any, .any, .any, .any, .any, .any, .any, .any, .any, .any, .any, .any, .any, .any, .any, .any, .any, .any, .any, .any, .any, .any, .any, .any, .any, .any, .any, .any, .any, .any, .any, .any, .any, .any, .any, .any, .any, .any, .any, .any, .any, .any, .any, .any, .any, .any, .any, .any, .any, .any, .any], [.cells [.sc (.int .i64), .sc (.int .i64), .sc (.int .i64), .sc (.int .i64), .sc (.int .i64), .sc (.int .i64), .sc (.int .i64), .sc (.int .i64), .sc (.int .i64), .sc (.int .i64), .sc (.int .i64), .sc (.int .i64)], .cells [.sc (.int .i64), .sc (.int .i64), .sc (.int .i64), .sc (.int .i64), .sc (.int .i64), .sc (.int .i64), .sc (.int .i64), .sc (.int .i64), .sc (.int .i64), .sc (.int .i64), .sc (.int .i64), .sc (.int .i64)]]⟩]
def lc_leatref44_All_3 (N : Nat) : LC := mkLC 0 p_leatref44_All_3 h_leatref44_All_3 x_leatref44_All_3 (leatref44_All_L3 N)
def s_leatref44_All (N : Nat) : List (Nat × LC) := [(3, lc_leatref44_All_3 N)]
noncomputable def e_leatref44_All (N : Nat) : Env := mkEnvX 0 [] Try.prog o_meter_All (s_leatref44_All N) N
theorem k_leatref44_All_3 (N : Nat) : LCOK (e_leatref44_All N) 12 (loopAt Try.prog 47 0) (lc_leatref44_All_3 N) := mkLC_ok rfl (by kernel_rfl) (by kernel_rfl) (fun F x => by kernel_rfl)
theorem q_leatref44_All (N : Nat) : LoopsFor (e_leatref44_All N) Try.prog 47 1 := loops_mk (by kernel_rfl) (fun j hj => match j, hj with
  | 0, _ => .inl ⟨lc_leatref44_All_3 N, by kernel_rfl, k_leatref44_All_3 N⟩
  | _ + 1, h => absurd h (by omega)) (fun _ => rfl)
def c_leatref44_All : FC := mkF [.row 66 [.int .i64, .int .i64, .int .i64, .int .i64, .int .i64, .int .i64, .int .i64, .int .i64, .int .i64, .int .i64, .int .i64, .int .i64]] [.agg [.int .i64, .int .i64, .int .i64, .int .i64, .int .i64, .int .i64, .int .i64, .int .i64, .int .i64, .int .i64, .int .i64, .int .i64]] leatref44_All
theorem t_leatref44_All (N : Nat) : FCOK Try.prog N 47 c_leatref44_All := fun_ok facts (ok_meter_All N) (by kernel_rfl) (by kernel_rfl) (q_leatref44_All N) (fun t => by kernel_rfl)
def o_leatref44_All : List (Nat × FC) := (47, c_leatref44_All) :: o_meter_All
theorem ok_leatref44_All (N : Nat) : OrcOK Try.prog o_leatref44_All N := orc_cons (t_leatref44_All N) (ok_meter_All N)
def s_sat_Div (_ : Nat) : List (Nat × LC) := []
noncomputable def e_sat_Div (N : Nat) : Env := mkEnvX 0 [] Try.prog o_leatref44_All (s_sat_Div N) N
theorem q_sat_Div (N : Nat) : LoopsFor (e_sat_Div N) Try.prog 66 0 := loops_mk (by kernel_rfl) (fun j hj => match j, hj with
  | _ + 0, h => absurd h (by omega)) (fun _ => rfl)
def c_sat_Div : FC := mkF [.sc (.int .i64), .sc (.int .i64)] [.sc (.int .i64)] sat_Div
theorem t_sat_Div (N : Nat) : FCOK Try.prog N 66 c_sat_Div := fun_ok facts (ok_leatref44_All N) (by kernel_rfl) (by kernel_rfl) (q_sat_Div N) (fun t => by kernel_rfl)
def o_sat_Div : List (Nat × FC) := (66, c_sat_Div) :: o_leatref44_All
theorem ok_sat_Div (N : Nat) : OrcOK Try.prog o_sat_Div N := orc_cons (t_sat_Div N) (ok_leatref44_All N)
def s_meter_Idle (_ : Nat) : List (Nat × LC) := []
def pr_meter_Idle_5 : List Pat := [.any, .any, .any, .any, .any, .ptr 0 0, .ptr 1 0, .ptr 2 0, .any, .ptr 3 0, .ptr 4 0, .any, .any, .any, .any, .any, .any, .any, .any, .any, .any, .fn 94 [(5, 0), (6, 0)], .any, .any, .any, .any, .any, .any, .any, .any, .any, .any, .any, .any, .any, .any, .any, .any, .any, .any, .any, .any, .any, .any, .any, .any, .any, .any, .any, .any, .any, .any, .any, .any, .any, .any, .any, .any, .any]
def hr_meter_Idle_5 : List HPat := [.cells [.sl 7], .cells [.sc (.int .i64)], .cells [.sc (.int .i64)], .cells [.sc (.int .i64)], .cells [.sc (.int .i64)], .rcells [.sl 8], .rcells [.sc (.int .i64)], .ext 2 [.int .i64], .ext 83 [.int .i64, .int .i64, .int .i64, .int .i64, .int .i64, .int .i64]]
def rc_meter_Idle_5 (N : Nat) : RC := mkRC 0 94 sh6 (metDec 83) pr_meter_Idle_5 hr_meter_Idle_5 (meter_Idle_R5 N)
def sr_meter_Idle (N : Nat) : List (Nat × RC) := [(5, rc_meter_Idle_5 N)]
noncomputable def e_meter_Idle (N : Nat) : Env := mkEnvX 0 [] Try.prog o_sat_Div (s_meter_Idle N) N (sr_meter_Idle N)
theorem kr_meter_Idle_5 (N : Nat) : RCOK (e_meter_Idle N) 12 (rangeAt Try.prog 74 0).1 (rangeAt Try.prog 74 0).2.1 (rangeAt Try.prog 74 0).2.2 (rc_meter_Idle_5 N) := mkRC_ok rfl facts.names (by kernel_rfl) (by kernel_rfl) (by kernel_rfl) Pure.metSeq (fun i F x => by kernel_rfl)
theorem q_meter_Idle (N : Nat) : LoopsFor (e_meter_Idle N) Try.prog 74 0 := loops_mkR 1 (by kernel_rfl) (fun j hj => match j, hj with
  | _ + 0, h => absurd h (by omega)) (by kernel_rfl) (fun j hj => match j, hj with
  | 0, _ => ⟨rc_meter_Idle_5 N, by kernel_rfl, kr_meter_Idle_5 N⟩
  | _ + 1, h => absurd h (by omega))
def c_meter_Idle : FC := mkF [.row 83 [.int .i64, .int .i64, .int .i64, .int .i64, .int .i64, .int .i64], .row 2 [.int .i64], .sc (.int .i64), .sc (.int .i64)] [.sc (.int .i64)] meter_Idle
theorem t_meter_Idle (N : Nat) : FCOK Try.prog N 74 c_meter_Idle := fun_ok facts (ok_sat_Div N) (by kernel_rfl) (by kernel_rfl) (q_meter_Idle N) (fun t => by kernel_rfl)
def o_meter_Idle : List (Nat × FC) := (74, c_meter_Idle) :: o_sat_Div
theorem ok_meter_Idle (N : Nat) : OrcOK Try.prog o_meter_Idle N := orc_cons (t_meter_Idle N) (ok_sat_Div N)
def s_leatlaw44_works (_ : Nat) : List (Nat × LC) := []
noncomputable def e_leatlaw44_works (N : Nat) : Env := mkEnvX 0 [] Try.prog o_meter_Idle (s_leatlaw44_works N) N
theorem q_leatlaw44_works (N : Nat) : LoopsFor (e_leatlaw44_works N) Try.prog 42 0 := loops_mk (by kernel_rfl) (fun j hj => match j, hj with
  | _ + 0, h => absurd h (by omega)) (fun _ => rfl)
def c_leatlaw44_works : FC := mkF [] [.sc (.bool)] leatlaw44_works
theorem t_leatlaw44_works (N : Nat) : FCOK Try.prog N 42 c_leatlaw44_works := fun_ok facts (ok_meter_Idle N) (by kernel_rfl) (by kernel_rfl) (q_leatlaw44_works N) (fun t => by kernel_rfl)
def o_leatlaw44_works : List (Nat × FC) := (42, c_leatlaw44_works) :: o_meter_Idle
theorem ok_leatlaw44_works (N : Nat) : OrcOK Try.prog o_leatlaw44_works N := orc_cons (t_leatlaw44_works N) (ok_meter_Idle N)
def s_leatlaw44_MeterFlows (_ : Nat) : List (Nat × LC) := []
noncomputable def e_leatlaw44_MeterFlows (N : Nat) : Env := mkEnvX 0 [] Try.prog o_leatlaw44_works (s_leatlaw44_MeterFlows N) N
theorem q_leatlaw44_MeterFlows (N : Nat) : LoopsFor (e_leatlaw44_MeterFlows N) Try.prog 11 0 := loops_mk (by kernel_rfl) (fun j hj => match j, hj with
  | _ + 0, h => absurd h (by omega)) (fun _ => rfl)
theorem okL_leatlaw44_MeterFlows (N : Nat) : OrcOK Try.prog o_leatlaw44_works N := ok_leatlaw44_works N
theorem w_leatlaw44_MeterFlows (N : Nat) (x : RT [.row 83 [.int .i64, .int .i64, .int .i64, .int .i64, .int .i64, .int .i64], .row 2 [.int .i64], .row 66 [.int .i64, .int .i64, .int .i64, .int .i64, .int .i64, .int .i64, .int .i64, .int .i64, .int .i64, .int .i64, .int .i64, .int .i64]]) : uncR [.row 83 [.int .i64, .int .i64, .int .i64, .int .i64, .int .i64, .int .i64], .row 2 [.int .i64], .row 66 [.int .i64, .int .i64, .int .i64, .int .i64, .int .i64, .int .i64, .int .i64, .int .i64, .int .i64, .int .i64, .int .i64, .int .i64]] (leatlaw44_MeterFlows N) x = evFn (e_leatlaw44_MeterFlows N) 13 11 (encA 0 [.row 83 [.int .i64, .int .i64, .int .i64, .int .i64, .int .i64, .int .i64], .row 2 [.int .i64], .row 66 [.int .i64, .int .i64, .int .i64, .int .i64, .int .i64, .int .i64, .int .i64, .int .i64, .int .i64, .int .i64, .int .i64, .int .i64]] x).1 (encA 0 [.row 83 [.int .i64, .int .i64, .int .i64, .int .i64, .int .i64, .int .i64], .row 2 [.int .i64], .row 66 [.int .i64, .int .i64, .int .i64, .int .i64, .int .i64, .int .i64, .int .i64, .int .i64, .int .i64, .int .i64, .int .i64, .int .i64]] x).2 (decR [.sc .bool]) := by kernel_rfl
end Go.Proofs.Ytakjmminaolfnaa.W
