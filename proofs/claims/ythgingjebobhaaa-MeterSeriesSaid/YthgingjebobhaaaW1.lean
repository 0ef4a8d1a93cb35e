/- The functions of the seat, as the evaluator tells them, each with its contract. Printed by genW.py. -/
import Derived.Test.YthgingjebobhaaaW0
import Derived.Test.YthgingjebobhaaaRows
import Derived.Test.YthgingjebobhaaaPSeq
set_option maxRecDepth 100000
namespace Go.Proofs.Ythgingjebobhaaa.W
open Go.Ev Go.RowKit
theorem facts : Facts Try.prog := ⟨by kernel_rfl, names_of (by kernel_rfl)⟩
def o_0 : List (Nat × FC) := []
theorem ok_0 (N : Nat) : OrcOK Try.prog o_0 N := orc_nil
def c_meter_Series : FC := seriesC
theorem t_meter_Series (N : Nat) : FCOK Try.prog N 4 c_meter_Series := seriesC_ok N
def o_meter_Series : List (Nat × FC) := (4, c_meter_Series) :: o_0
theorem ok_meter_Series (N : Nat) : OrcOK Try.prog o_meter_Series N := orc_cons (t_meter_Series N) (ok_0 N)
def s_sat_Clamp (_ : Nat) : List (Nat × LC) := []
noncomputable def e_sat_Clamp (N : Nat) : Env := mkEnvX 0 [] Try.prog o_meter_Series (s_sat_Clamp N) N
theorem q_sat_Clamp (N : Nat) : LoopsFor (e_sat_Clamp N) Try.prog 8 0 := loops_mk (by kernel_rfl) (fun j hj => match j, hj with
  | _ + 0, h => absurd h (by omega)) (fun _ => rfl)
def c_sat_Clamp : FC := mkF [.sc (.int .i64), .sc (.int .i64), .sc (.int .i64)] [.sc (.int .i64)] sat_Clamp
theorem t_sat_Clamp (N : Nat) : FCOK Try.prog N 8 c_sat_Clamp := fun_ok facts (ok_meter_Series N) (by kernel_rfl) (by kernel_rfl) (q_sat_Clamp N) (fun t => by kernel_rfl)
def o_sat_Clamp : List (Nat × FC) := (8, c_sat_Clamp) :: o_meter_Series
theorem ok_sat_Clamp (N : Nat) : OrcOK Try.prog o_sat_Clamp N := orc_cons (t_sat_Clamp N) (ok_meter_Series N)
def s_meter_size (_ : Nat) : List (Nat × LC) := []
noncomputable def e_meter_size (N : Nat) : Env := mkEnvX 0 [] Try.prog o_sat_Clamp (s_meter_size N) N
theorem q_meter_size (N : Nat) : LoopsFor (e_meter_size N) Try.prog 10 0 := loops_mk (by kernel_rfl) (fun j hj => match j, hj with
  | _ + 0, h => absurd h (by omega)) (fun _ => rfl)
def c_meter_size : FC := mkF [.row 2 [.int .i64], .sc (.int .i64)] [.sc (.int .i64)] meter_size
theorem t_meter_size (N : Nat) : FCOK Try.prog N 10 c_meter_size := fun_ok facts (ok_sat_Clamp N) (by kernel_rfl) (by kernel_rfl) (q_meter_size N) (fun t => by kernel_rfl)
def o_meter_size : List (Nat × FC) := (10, c_meter_size) :: o_sat_Clamp
theorem ok_meter_size (N : Nat) : OrcOK Try.prog o_meter_size N := orc_cons (t_meter_size N) (ok_sat_Clamp N)
def p_leatref44_Of_3 : List Pat := [.sl 0, .sc (.int .i64), .any, .any, .any, .sl 1, .sc (.int .i64), .any, .any, .any, .any, .any, .any, .any, .any, .any, .any, .any, .any, .any, .any, .any, .any, .any, .any, .any, .any, .any, .any, .any, .any, .any, .any, .any, .any, .any, .any, .any, .any, .any, .any, .any, .any, .any]
def h_leatref44_Of_3 : List HPat := [.ext 37 [.int .i64, .int .i64, .int .i64, .int .i64, .int .i64, .int .i64], .rows 37 [.int .i64, .int .i64, .int .i64, .int .i64, .int .i64, .int .i64]]
def x_leatref44_Of_3 : List XP := [⟨.exit 0, [.any, .any, .any, .any, .any, .sl 0, .any, .any, .any, .any, .any, .any, .any, .any, .any, .any, .any, .any, .any, .any, .any, .any, .any, .any, .any, .any, .any, .any, .any, .any, .any, .any, .any, .any, .any, .any, .any, .any, .any, .any, .any, .any, .any, .any], [.rows 37 [.int .i64, .int .i64, .int .i64, .int .i64, .int .i64, .int .i64]]⟩]
def lc_leatref44_Of_3 (N : Nat) : LC := mkLC 0 p_leatref44_Of_3 h_leatref44_Of_3 x_leatref44_Of_3 (leatref44_Of_L3 N)
def s_leatref44_Of (N : Nat) : List (Nat × LC) := [(3, lc_leatref44_Of_3 N)]
noncomputable def e_leatref44_Of (N : Nat) : Env := mkEnvX 0 [] Try.prog o_meter_size (s_leatref44_Of N) N
theorem k_leatref44_Of_3 (N : Nat) : LCOK (e_leatref44_Of N) 12 (loopAt Try.prog 11 0) (lc_leatref44_Of_3 N) := mkLC_ok rfl (by kernel_rfl) (by kernel_rfl) (fun F x => by kernel_rfl)
theorem q_leatref44_Of (N : Nat) : LoopsFor (e_leatref44_Of N) Try.prog 11 1 := loops_mk (by kernel_rfl) (fun j hj => match j, hj with
  | 0, _ => .inl ⟨lc_leatref44_Of_3 N, by kernel_rfl, k_leatref44_Of_3 N⟩
  | _ + 1, h => absurd h (by omega)) (fun _ => rfl)
def c_leatref44_Of : FC := mkF [.row 37 [.int .i64, .int .i64, .int .i64, .int .i64, .int .i64, .int .i64], .sc (.int .i64)] [.row 37 [.int .i64, .int .i64, .int .i64, .int .i64, .int .i64, .int .i64]] leatref44_Of
theorem t_leatref44_Of (N : Nat) : FCOK Try.prog N 11 c_leatref44_Of := fun_ok facts (ok_meter_size N) (by kernel_rfl) (by kernel_rfl) (q_leatref44_Of N) (fun t => by kernel_rfl)
def o_leatref44_Of : List (Nat × FC) := (11, c_leatref44_Of) :: o_meter_size
theorem ok_leatref44_Of (N : Nat) : OrcOK Try.prog o_leatref44_Of N := orc_cons (t_leatref44_Of N) (ok_meter_size N)
def s_leatref44_Size (_ : Nat) : List (Nat × LC) := []
noncomputable def e_leatref44_Size (N : Nat) : Env := mkEnvX 0 [] Try.prog o_leatref44_Of (s_leatref44_Size N) N
theorem q_leatref44_Size (N : Nat) : LoopsFor (e_leatref44_Size N) Try.prog 12 0 := loops_mk (by kernel_rfl) (fun j hj => match j, hj with
  | _ + 0, h => absurd h (by omega)) (fun _ => rfl)
def c_leatref44_Size : FC := mkF [.row 2 [.int .i64], .sc (.int .i64)] [.sc (.int .i64)] leatref44_Size
theorem t_leatref44_Size (N : Nat) : FCOK Try.prog N 12 c_leatref44_Size := fun_ok facts (ok_leatref44_Of N) (by kernel_rfl) (by kernel_rfl) (q_leatref44_Size N) (fun t => by kernel_rfl)
def o_leatref44_Size : List (Nat × FC) := (12, c_leatref44_Size) :: o_leatref44_Of
theorem ok_leatref44_Size (N : Nat) : OrcOK Try.prog o_leatref44_Size N := orc_cons (t_leatref44_Size N) (ok_leatref44_Of N)
def p_leatref44_Told_4 : List Pat := [.any, .sl 0, .sc (.int .i64), .sc (.int .i64), .sc (.int .i64), .any, .any, .any, .any, .any, .any, .sc (.int .i64), .sl 1, .sc (.int .i64), .any, .any, .any, .any, .any, .any, .any, .any, .any, .any, .any, .any, .any, .any, .any, .any, .any, .any, .any, .any, .any, .any, .any, .any, .any, .any, .any, .any, .any, .any, .any, .any, .any, .any, .any, .any, .any, .any, .any, .any, .any, .any, .any, .any, .any, .any, .any, .any, .any]
def h_leatref44_Told_4 : List HPat := [.ext 2 [.int .i64], .rows 37 [.int .i64, .int .i64, .int .i64, .int .i64, .int .i64, .int .i64]]
def x_leatref44_Told_4 : List XP := [⟨.exit 0, [.any, .any, .any, .any, .any, .any, .any, .any, .any, .any, .any, .sc (.int .i64), .any, .any, .any, .any, .any, .any, .any, .any, .any, .any, .any, .any, .any, .any, .any, .any, .any, .any, .any, .any, .any, .any, .any, .any, .any, .any, .any, .any, .any, .any, .any, .any, .any, .any, .any, .any, .any, .any, .any, .any, .any, .any, .any, .any, .any, .any, .any, .any, .any, .any, .any], []⟩]
def lc_leatref44_Told_4 (N : Nat) : LC := mkLC 0 p_leatref44_Told_4 h_leatref44_Told_4 x_leatref44_Told_4 (leatref44_Told_L4 N)
def s_leatref44_Told (N : Nat) : List (Nat × LC) := [(4, lc_leatref44_Told_4 N)]
noncomputable def e_leatref44_Told (N : Nat) : Env := mkEnvX 0 [] Try.prog o_leatref44_Size (s_leatref44_Told N) N
theorem k_leatref44_Told_4 (N : Nat) : LCOK (e_leatref44_Told N) 12 (loopAt Try.prog 5 0) (lc_leatref44_Told_4 N) := mkLC_ok rfl (by kernel_rfl) (by kernel_rfl) (fun F x => by kernel_rfl)
theorem q_leatref44_Told (N : Nat) : LoopsFor (e_leatref44_Told N) Try.prog 5 1 := loops_mk (by kernel_rfl) (fun j hj => match j, hj with
  | 0, _ => .inl ⟨lc_leatref44_Told_4 N, by kernel_rfl, k_leatref44_Told_4 N⟩
  | _ + 1, h => absurd h (by omega)) (fun _ => rfl)
def c_leatref44_Told : FC := mkF [.row 37 [.int .i64, .int .i64, .int .i64, .int .i64, .int .i64, .int .i64], .row 2 [.int .i64], .sc (.int .i64), .sc (.int .i64), .sc (.int .i64)] [.sc (.int .i64)] leatref44_Told
theorem t_leatref44_Told (N : Nat) : FCOK Try.prog N 5 c_leatref44_Told := fun_ok facts (ok_leatref44_Size N) (by kernel_rfl) (by kernel_rfl) (q_leatref44_Told N) (fun t => by kernel_rfl)
def o_leatref44_Told : List (Nat × FC) := (5, c_leatref44_Told) :: o_leatref44_Size
theorem ok_leatref44_Told (N : Nat) : OrcOK Try.prog o_leatref44_Told N := orc_cons (t_leatref44_Told N) (ok_leatref44_Size N)
def p_meter_Peak_3 : List Pat := [.any, .any, .any, .any, .sc (.int .i64), .sc (.int .i64), .any, .any, .sl 0, .sc (.int .i64), .sc (.int .i64), .any, .any, .any, .any, .any, .any, .any, .any, .any, .any, .any, .any, .any, .any, .any, .any]
def h_meter_Peak_3 : List HPat := [.ext 2 [.int .i64]]
def x_meter_Peak_3 : List XP := [⟨.exit 0, [.any, .any, .any, .any, .sc (.int .i64), .sc (.int .i64), .any, .any, .any, .any, .any, .any, .any, .any, .any, .any, .any, .any, .any, .any, .any, .any, .any, .any, .any, .any, .any], []⟩]
def lc_meter_Peak_3 (N : Nat) : LC := mkLC 0 p_meter_Peak_3 h_meter_Peak_3 x_meter_Peak_3 (meter_Peak_L3 N)
def s_meter_Peak (N : Nat) : List (Nat × LC) := [(3, lc_meter_Peak_3 N)]
noncomputable def e_meter_Peak (N : Nat) : Env := mkEnvX 0 [] Try.prog o_leatref44_Told (s_meter_Peak N) N
theorem k_meter_Peak_3 (N : Nat) : LCOK (e_meter_Peak N) 12 (loopAt Try.prog 6 0) (lc_meter_Peak_3 N) := mkLC_ok rfl (by kernel_rfl) (by kernel_rfl) (fun F x => by kernel_rfl)
theorem q_meter_Peak (N : Nat) : LoopsFor (e_meter_Peak N) Try.prog 6 1 := loops_mk (by kernel_rfl) (fun j hj => match j, hj with
  | 0, _ => .inl ⟨lc_meter_Peak_3 N, by kernel_rfl, k_meter_Peak_3 N⟩
  | _ + 1, h => absurd h (by omega)) (fun _ => rfl)
def c_meter_Peak : FC := mkF [.row 2 [.int .i64]] [.sc (.int .i64), .sc (.int .i64)] meter_Peak
theorem t_meter_Peak (N : Nat) : FCOK Try.prog N 6 c_meter_Peak := fun_ok facts (ok_leatref44_Told N) (by kernel_rfl) (by kernel_rfl) (q_meter_Peak N) (fun t => by kernel_rfl)
def o_meter_Peak : List (Nat × FC) := (6, c_meter_Peak) :: o_leatref44_Told
theorem ok_meter_Peak (N : Nat) : OrcOK Try.prog o_meter_Peak N := orc_cons (t_meter_Peak N) (ok_leatref44_Told N)
def s_sat_Div (_ : Nat) : List (Nat × LC) := []
noncomputable def e_sat_Div (N : Nat) : Env := mkEnvX 0 [] Try.prog o_meter_Peak (s_sat_Div N) N
theorem q_sat_Div (N : Nat) : LoopsFor (e_sat_Div N) Try.prog 16 0 := loops_mk (by kernel_rfl) (fun j hj => match j, hj with
  | _ + 0, h => absurd h (by omega)) (fun _ => rfl)
def c_sat_Div : FC := mkF [.sc (.int .i64), .sc (.int .i64)] [.sc (.int .i64)] sat_Div
theorem t_sat_Div (N : Nat) : FCOK Try.prog N 16 c_sat_Div := fun_ok facts (ok_meter_Peak N) (by kernel_rfl) (by kernel_rfl) (q_sat_Div N) (fun t => by kernel_rfl)
def o_sat_Div : List (Nat × FC) := (16, c_sat_Div) :: o_meter_Peak
theorem ok_sat_Div (N : Nat) : OrcOK Try.prog o_sat_Div N := orc_cons (t_sat_Div N) (ok_meter_Peak N)
def s_sat_end (_ : Nat) : List (Nat × LC) := []
noncomputable def e_sat_end (N : Nat) : Env := mkEnvX 0 [] Try.prog o_sat_Div (s_sat_end N) N
theorem q_sat_end (N : Nat) : LoopsFor (e_sat_end N) Try.prog 17 0 := loops_mk (by kernel_rfl) (fun j hj => match j, hj with
  | _ + 0, h => absurd h (by omega)) (fun _ => rfl)
def c_sat_end : FC := mkF [.sc (.bool)] [.sc (.int .i64)] sat_end
theorem t_sat_end (N : Nat) : FCOK Try.prog N 17 c_sat_end := fun_ok facts (ok_sat_Div N) (by kernel_rfl) (by kernel_rfl) (q_sat_end N) (fun t => by kernel_rfl)
def o_sat_end : List (Nat × FC) := (17, c_sat_end) :: o_sat_Div
theorem ok_sat_end (N : Nat) : OrcOK Try.prog o_sat_end N := orc_cons (t_sat_end N) (ok_sat_Div N)
def s_sat_Add (_ : Nat) : List (Nat × LC) := []
noncomputable def e_sat_Add (N : Nat) : Env := mkEnvX 0 [] Try.prog o_sat_end (s_sat_Add N) N
theorem q_sat_Add (N : Nat) : LoopsFor (e_sat_Add N) Try.prog 15 0 := loops_mk (by kernel_rfl) (fun j hj => match j, hj with
  | _ + 0, h => absurd h (by omega)) (fun _ => rfl)
def c_sat_Add : FC := mkF [.sc (.int .i64), .sc (.int .i64)] [.sc (.int .i64)] sat_Add
theorem t_sat_Add (N : Nat) : FCOK Try.prog N 15 c_sat_Add := fun_ok facts (ok_sat_end N) (by kernel_rfl) (by kernel_rfl) (q_sat_Add N) (fun t => by kernel_rfl)
def o_sat_Add : List (Nat × FC) := (15, c_sat_Add) :: o_sat_end
theorem ok_sat_Add (N : Nat) : OrcOK Try.prog o_sat_Add N := orc_cons (t_sat_Add N) (ok_sat_end N)
def s_meter_Idle (_ : Nat) : List (Nat × LC) := []
def pr_meter_Idle_5 : List Pat := [.any, .any, .any, .any, .any, .ptr 0 0, .ptr 1 0, .ptr 2 0, .any, .ptr 3 0, .ptr 4 0, .any, .any, .any, .any, .any, .any, .any, .any, .any, .any, .fn 14 [(5, 0), (6, 0)], .any, .any, .any, .any, .any, .any, .any, .any, .any, .any, .any, .any, .any, .any, .any, .any, .any, .any, .any, .any, .any, .any, .any, .any, .any, .any, .any, .any, .any, .any, .any, .any, .any, .any, .any, .any, .any]
def hr_meter_Idle_5 : List HPat := [.cells [.sl 7], .cells [.sc (.int .i64)], .cells [.sc (.int .i64)], .cells [.sc (.int .i64)], .cells [.sc (.int .i64)], .rcells [.sl 8], .rcells [.sc (.int .i64)], .ext 2 [.int .i64], .ext 37 [.int .i64, .int .i64, .int .i64, .int .i64, .int .i64, .int .i64]]
def rc_meter_Idle_5 (N : Nat) : RC := mkRC 0 14 sh6 (metDec 37) pr_meter_Idle_5 hr_meter_Idle_5 (meter_Idle_R5 N)
def sr_meter_Idle (N : Nat) : List (Nat × RC) := [(5, rc_meter_Idle_5 N)]
noncomputable def e_meter_Idle (N : Nat) : Env := mkEnvX 0 [] Try.prog o_sat_Add (s_meter_Idle N) N (sr_meter_Idle N)
theorem kr_meter_Idle_5 (N : Nat) : RCOK (e_meter_Idle N) 12 (rangeAt Try.prog 13 0).1 (rangeAt Try.prog 13 0).2.1 (rangeAt Try.prog 13 0).2.2 (rc_meter_Idle_5 N) := mkRC_ok rfl facts.names (by kernel_rfl) (by kernel_rfl) (by kernel_rfl) Pure.metSeq (fun i F x => by kernel_rfl)
theorem q_meter_Idle (N : Nat) : LoopsFor (e_meter_Idle N) Try.prog 13 0 := loops_mkR 1 (by kernel_rfl) (fun j hj => match j, hj with
  | _ + 0, h => absurd h (by omega)) (by kernel_rfl) (fun j hj => match j, hj with
  | 0, _ => ⟨rc_meter_Idle_5 N, by kernel_rfl, kr_meter_Idle_5 N⟩
  | _ + 1, h => absurd h (by omega))
def c_meter_Idle : FC := mkF [.row 37 [.int .i64, .int .i64, .int .i64, .int .i64, .int .i64, .int .i64], .row 2 [.int .i64], .sc (.int .i64), .sc (.int .i64)] [.sc (.int .i64)] meter_Idle
theorem t_meter_Idle (N : Nat) : FCOK Try.prog N 13 c_meter_Idle := fun_ok facts (ok_sat_Add N) (by kernel_rfl) (by kernel_rfl) (q_meter_Idle N) (fun t => by kernel_rfl)
def o_meter_Idle : List (Nat × FC) := (13, c_meter_Idle) :: o_sat_Add
theorem ok_meter_Idle (N : Nat) : OrcOK Try.prog o_meter_Idle N := orc_cons (t_meter_Idle N) (ok_sat_Add N)
def s_leatlaw44_works (_ : Nat) : List (Nat × LC) := []
noncomputable def e_leatlaw44_works (N : Nat) : Env := mkEnvX 0 [] Try.prog o_meter_Idle (s_leatlaw44_works N) N
theorem q_leatlaw44_works (N : Nat) : LoopsFor (e_leatlaw44_works N) Try.prog 7 0 := loops_mk (by kernel_rfl) (fun j hj => match j, hj with
  | _ + 0, h => absurd h (by omega)) (fun _ => rfl)
def c_leatlaw44_works : FC := mkF [] [.sc (.bool)] leatlaw44_works
theorem t_leatlaw44_works (N : Nat) : FCOK Try.prog N 7 c_leatlaw44_works := fun_ok facts (ok_meter_Idle N) (by kernel_rfl) (by kernel_rfl) (q_leatlaw44_works N) (fun t => by kernel_rfl)
def o_leatlaw44_works : List (Nat × FC) := (7, c_leatlaw44_works) :: o_meter_Idle
theorem ok_leatlaw44_works (N : Nat) : OrcOK Try.prog o_leatlaw44_works N := orc_cons (t_leatlaw44_works N) (ok_meter_Idle N)
def p_leatlaw44_MeterSeries_14 : List Pat := [.sl 0, .sl 1, .any, .any, .any, .any, .any, .sc (.int .i64), .sc (.int .i64), .sl 2, .sc (.int .i64), .sc (.int .i64), .sc (.int .i64), .any, .any, .any, .any, .any, .any, .any, .any, .any, .any, .any, .any, .any, .any, .any, .any, .any, .any, .any, .any, .any, .any, .any, .any, .any, .any, .any, .any, .any, .any, .any, .any, .any, .any, .any, .any, .any, .any, .any, .any, .any, .sc (.int .i64), .sc (.int .i64), .any, .any, .any, .any, .any, .any, .any, .any, .any, .any, .any, .any, .any, .any, .sc (.int .i64), .sc (.int .i64), .any, .any, .any, .any, .any, .any, .any, .any, .any, .any, .any, .any, .any, .any, .any, .any, .any, .any, .any, .any, .any, .any, .any, .any, .any, .any, .any, .any, .any, .any, .any, .any, .any, .any, .any, .any, .any, .any, .any, .any, .any, .any, .any, .any, .any, .any, .any, .any, .any, .any, .any, .any, .any, .any, .any, .any, .any, .any, .any, .any, .any, .any]
def h_leatlaw44_MeterSeries_14 : List HPat := [.ext 37 [.int .i64, .int .i64, .int .i64, .int .i64, .int .i64, .int .i64], .ext 2 [.int .i64], .nest 23 2 [.int .i64]]
def x_leatlaw44_MeterSeries_14 : List XP := [⟨.ret, [.any, .any, .any, .any, .any, .any, .sc (.bool), .any, .any, .any, .any, .any, .any, .any, .any, .any, .any, .any, .any, .any, .any, .any, .any, .any, .any, .any, .any, .any, .any, .any, .any, .any, .any, .any, .any, .any, .any, .any, .any, .any, .any, .any, .any, .any, .any, .any, .any, .any, .any, .any, .any, .any, .any, .any, .any, .any, .any, .any, .any, .any, .any, .any, .any, .any, .any, .any, .any, .any, .any, .any, .any, .any, .any, .any, .any, .any, .any, .any, .any, .any, .any, .any, .any, .any, .any, .any, .any, .any, .any, .any, .any, .any, .any, .any, .any, .any, .any, .any, .any, .any, .any, .any, .any, .any, .any, .any, .any, .any, .any, .any, .any, .any, .any, .any, .any, .any, .any, .any, .any, .any, .any, .any, .any, .any, .any, .any, .any, .any, .any, .any, .any, .any, .any, .any], []⟩, ⟨.exit 2, [.sl 0, .sl 1, .any, .any, .any, .any, .any, .sc (.int .i64), .sc (.int .i64), .sl 2, .sc (.int .i64), .sc (.int .i64), .sc (.int .i64), .any, .any, .any, .any, .any, .any, .any, .any, .any, .any, .any, .any, .any, .any, .any, .any, .any, .any, .any, .any, .any, .any, .any, .any, .any, .any, .any, .any, .any, .any, .any, .any, .any, .any, .any, .any, .any, .any, .any, .any, .any, .sc (.int .i64), .sc (.int .i64), .any, .any, .any, .any, .any, .any, .any, .any, .any, .any, .any, .any, .any, .any, .any, .any, .any, .any, .any, .any, .any, .any, .any, .any, .any, .any, .any, .any, .any, .any, .any, .any, .any, .any, .any, .any, .any, .any, .any, .any, .any, .any, .any, .any, .any, .any, .any, .any, .any, .any, .any, .any, .any, .any, .any, .any, .any, .any, .any, .any, .any, .any, .any, .any, .any, .any, .any, .any, .any, .any, .any, .any, .any, .any, .any, .any, .any, .any], [.ext 37 [.int .i64, .int .i64, .int .i64, .int .i64, .int .i64, .int .i64], .ext 2 [.int .i64], .nest 23 2 [.int .i64]]⟩]
def lc_leatlaw44_MeterSeries_14 (N : Nat) : LC := mkLC 0 p_leatlaw44_MeterSeries_14 h_leatlaw44_MeterSeries_14 x_leatlaw44_MeterSeries_14 (leatlaw44_MeterSeries_L14 N)
def p_leatlaw44_MeterSeries_8 : List Pat := [.sl 0, .sl 1, .any, .any, .any, .any, .any, .sc (.int .i64), .sc (.int .i64), .sl 2, .any, .any, .any, .any, .any, .any, .any, .any, .any, .any, .any, .any, .any, .any, .any, .any, .any, .any, .any, .any, .any, .any, .any, .any, .any, .any, .any, .any, .any, .any, .any, .any, .any, .any, .any, .any, .any, .any, .any, .any, .any, .any, .any, .any, .sc (.int .i64), .sc (.int .i64), .any, .any, .any, .any, .any, .any, .any, .any, .any, .any, .any, .any, .any, .any, .any, .any, .any, .any, .any, .any, .any, .any, .any, .any, .any, .any, .any, .any, .any, .any, .any, .any, .any, .any, .any, .any, .any, .any, .any, .any, .any, .any, .any, .any, .any, .any, .any, .any, .any, .any, .any, .any, .any, .any, .any, .any, .any, .any, .any, .any, .any, .any, .any, .any, .any, .any, .any, .any, .any, .any, .any, .any, .any, .any, .any, .any, .any, .any]
def h_leatlaw44_MeterSeries_8 : List HPat := [.ext 37 [.int .i64, .int .i64, .int .i64, .int .i64, .int .i64, .int .i64], .ext 2 [.int .i64], .nest 23 2 [.int .i64]]
def x_leatlaw44_MeterSeries_8 : List XP := [⟨.ret, [.any, .any, .any, .any, .any, .any, .sc (.bool), .any, .any, .any, .any, .any, .any, .any, .any, .any, .any, .any, .any, .any, .any, .any, .any, .any, .any, .any, .any, .any, .any, .any, .any, .any, .any, .any, .any, .any, .any, .any, .any, .any, .any, .any, .any, .any, .any, .any, .any, .any, .any, .any, .any, .any, .any, .any, .any, .any, .any, .any, .any, .any, .any, .any, .any, .any, .any, .any, .any, .any, .any, .any, .any, .any, .any, .any, .any, .any, .any, .any, .any, .any, .any, .any, .any, .any, .any, .any, .any, .any, .any, .any, .any, .any, .any, .any, .any, .any, .any, .any, .any, .any, .any, .any, .any, .any, .any, .any, .any, .any, .any, .any, .any, .any, .any, .any, .any, .any, .any, .any, .any, .any, .any, .any, .any, .any, .any, .any, .any, .any, .any, .any, .any, .any, .any, .any], []⟩, ⟨.exit 0, [.any, .any, .any, .any, .any, .any, .any, .any, .any, .any, .any, .any, .any, .any, .any, .any, .any, .any, .any, .any, .any, .any, .any, .any, .any, .any, .any, .any, .any, .any, .any, .any, .any, .any, .any, .any, .any, .any, .any, .any, .any, .any, .any, .any, .any, .any, .any, .any, .any, .any, .any, .any, .any, .any, .any, .any, .any, .any, .any, .any, .any, .any, .any, .any, .any, .any, .any, .any, .any, .any, .any, .any, .any, .any, .any, .any, .any, .any, .any, .any, .any, .any, .any, .any, .any, .any, .any, .any, .any, .any, .any, .any, .any, .any, .any, .any, .any, .any, .any, .any, .any, .any, .any, .any, .any, .any, .any, .any, .any, .any, .any, .any, .any, .any, .any, .any, .any, .any, .any, .any, .any, .any, .any, .any, .any, .any, .any, .any, .any, .any, .any, .any, .any, .any], []⟩]
def lc_leatlaw44_MeterSeries_8 (N : Nat) : LC := mkLC 0 p_leatlaw44_MeterSeries_8 h_leatlaw44_MeterSeries_8 x_leatlaw44_MeterSeries_8 (leatlaw44_MeterSeries_L8 N)
def s_leatlaw44_MeterSeries (N : Nat) : List (Nat × LC) := [(14, lc_leatlaw44_MeterSeries_14 N), (8, lc_leatlaw44_MeterSeries_8 N)]
noncomputable def e_leatlaw44_MeterSeries (N : Nat) : Env := mkEnvX 0 [] Try.prog o_leatlaw44_works (s_leatlaw44_MeterSeries N) N
theorem k_leatlaw44_MeterSeries_14 (N : Nat) : LCOK (e_leatlaw44_MeterSeries N) 12 (loopAt Try.prog 3 1) (lc_leatlaw44_MeterSeries_14 N) := mkLC_ok rfl (by kernel_rfl) (by kernel_rfl) (fun F x => by kernel_rfl)
theorem k_leatlaw44_MeterSeries_8 (N : Nat) : LCOK (e_leatlaw44_MeterSeries N) 12 (loopAt Try.prog 3 0) (lc_leatlaw44_MeterSeries_8 N) := mkLC_ok rfl (by kernel_rfl) (by kernel_rfl) (fun F x => by kernel_rfl)
theorem q_leatlaw44_MeterSeries (N : Nat) : LoopsFor (e_leatlaw44_MeterSeries N) Try.prog 3 2 := loops_mk (by kernel_rfl) (fun j hj => match j, hj with
  | 0, _ => .inl ⟨lc_leatlaw44_MeterSeries_8 N, by kernel_rfl, k_leatlaw44_MeterSeries_8 N⟩
  | 1, _ => .inl ⟨lc_leatlaw44_MeterSeries_14 N, by kernel_rfl, k_leatlaw44_MeterSeries_14 N⟩
  | _ + 2, h => absurd h (by omega)) (fun _ => rfl)
theorem okL_leatlaw44_MeterSeries (N : Nat) : OrcOK Try.prog o_leatlaw44_works N := ok_leatlaw44_works N
theorem w_leatlaw44_MeterSeries (N : Nat) (x : RT [.row 37 [.int .i64, .int .i64, .int .i64, .int .i64, .int .i64, .int .i64], .row 2 [.int .i64], .agg [.int .i64, .int .i64]]) : uncR [.row 37 [.int .i64, .int .i64, .int .i64, .int .i64, .int .i64, .int .i64], .row 2 [.int .i64], .agg [.int .i64, .int .i64]] (leatlaw44_MeterSeries N) x = evFn (e_leatlaw44_MeterSeries N) 13 3 (encA 0 [.row 37 [.int .i64, .int .i64, .int .i64, .int .i64, .int .i64, .int .i64], .row 2 [.int .i64], .agg [.int .i64, .int .i64]] x).1 (encA 0 [.row 37 [.int .i64, .int .i64, .int .i64, .int .i64, .int .i64, .int .i64], .row 2 [.int .i64], .agg [.int .i64, .int .i64]] x).2 (decR [.sc .bool]) := by kernel_rfl
end Go.Proofs.Ythgingjebobhaaa.W
