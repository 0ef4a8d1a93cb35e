/- The functions of the seat, as the evaluator tells them, each with its contract. Printed by genW.py. -/
import Derived.Test.YtdoiofdepmiejaaW0
import Derived.Test.YtdoiofdepmiejaaRows
set_option maxRecDepth 100000
namespace Go.Proofs.Ytdoiofdepmiejaa.W
open Go.Ev Go.RowKit
theorem facts : Facts Try.prog := ⟨by kernel_rfl, names_of (by kernel_rfl)⟩
def o_0 : List (Nat × FC) := []
theorem ok_0 (N : Nat) : OrcOK Try.prog o_0 N := orc_nil
def c_audit_Most : FC := mostC
theorem t_audit_Most (N : Nat) : FCOK Try.prog N 6 c_audit_Most := mostC_ok N
def o_audit_Most : List (Nat × FC) := (6, c_audit_Most) :: o_0
theorem ok_audit_Most (N : Nat) : OrcOK Try.prog o_audit_Most N := orc_cons (t_audit_Most N) (ok_0 N)
def s_audit_names (_ : Nat) : List (Nat × LC) := []
noncomputable def e_audit_names (N : Nat) : Env := mkEnvX 0 [] Try.prog o_audit_Most (s_audit_names N) N
theorem q_audit_names (N : Nat) : LoopsFor (e_audit_names N) Try.prog 9 0 := loops_mk (by kernel_rfl) (fun j hj => match j, hj with
  | _ + 0, h => absurd h (by omega)) (fun _ => rfl)
def c_audit_names : FC := mkF [] [.agg [.str, .str, .str, .str, .str, .str, .str, .str, .str, .str, .str, .str]] audit_names
theorem t_audit_names (N : Nat) : FCOK Try.prog N 9 c_audit_names := fun_ok facts (ok_audit_Most N) (by kernel_rfl) (by kernel_rfl) (q_audit_names N) (fun t => by kernel_rfl)
def o_audit_names : List (Nat × FC) := (9, c_audit_names) :: o_audit_Most
theorem ok_audit_names (N : Nat) : OrcOK Try.prog o_audit_names N := orc_cons (t_audit_names N) (ok_audit_Most N)
def s_audit_Name (_ : Nat) : List (Nat × LC) := []
noncomputable def e_audit_Name (N : Nat) : Env := mkEnvX 0 [] Try.prog o_audit_names (s_audit_Name N) N
theorem q_audit_Name (N : Nat) : LoopsFor (e_audit_Name N) Try.prog 4 0 := loops_mk (by kernel_rfl) (fun j hj => match j, hj with
  | _ + 0, h => absurd h (by omega)) (fun _ => rfl)
def c_audit_Name : FC := mkF [.sc (.int .i64)] [.sc (.str)] audit_Name
theorem t_audit_Name (N : Nat) : FCOK Try.prog N 4 c_audit_Name := fun_ok facts (ok_audit_names N) (by kernel_rfl) (by kernel_rfl) (q_audit_Name N) (fun t => by kernel_rfl)
def o_audit_Name : List (Nat × FC) := (4, c_audit_Name) :: o_audit_names
theorem ok_audit_Name (N : Nat) : OrcOK Try.prog o_audit_Name N := orc_cons (t_audit_Name N) (ok_audit_names N)
def s_leatref51_Name (_ : Nat) : List (Nat × LC) := []
noncomputable def e_leatref51_Name (N : Nat) : Env := mkEnvX 0 [] Try.prog o_audit_Name (s_leatref51_Name N) N
theorem q_leatref51_Name (N : Nat) : LoopsFor (e_leatref51_Name N) Try.prog 5 0 := loops_mk (by kernel_rfl) (fun j hj => match j, hj with
  | _ + 0, h => absurd h (by omega)) (fun _ => rfl)
def c_leatref51_Name : FC := mkF [.sc (.int .i64)] [.sc (.str)] leatref51_Name
theorem t_leatref51_Name (N : Nat) : FCOK Try.prog N 5 c_leatref51_Name := fun_ok facts (ok_audit_Name N) (by kernel_rfl) (by kernel_rfl) (q_leatref51_Name N) (fun t => by kernel_rfl)
def o_leatref51_Name : List (Nat × FC) := (5, c_leatref51_Name) :: o_audit_Name
theorem ok_leatref51_Name (N : Nat) : OrcOK Try.prog o_leatref51_Name N := orc_cons (t_leatref51_Name N) (ok_audit_Name N)
def p_leatref51_Most_7 : List Pat := [.sl 0, .any, .any, .sc (.int .i64), .sc (.int .i64), .sc (.int .i64), .sc (.int .i64), .sc (.int .i64), .any, .any, .any, .any, .any, .any, .any, .any, .any, .any, .any, .any, .any, .any, .any, .any, .any, .any, .any, .any, .any, .any, .any, .any, .any, .any, .any, .any, .any, .any, .any, .any, .any, .any, .any, .any, .any, .any, .any, .any, .any, .any, .any, .any, .any, .any, .any, .any, .any]
def h_leatref51_Most_7 : List HPat := [.ext 32 [.int .i64, .int .i64]]
def x_leatref51_Most_7 : List XP := [⟨.exit 2, [.sl 0, .any, .any, .sc (.int .i64), .sc (.int .i64), .sc (.int .i64), .sc (.int .i64), .any, .any, .any, .any, .any, .any, .any, .any, .any, .any, .any, .any, .any, .any, .any, .any, .any, .any, .any, .any, .any, .any, .any, .any, .any, .any, .any, .any, .any, .any, .any, .any, .any, .any, .any, .any, .any, .any, .any, .any, .any, .any, .any, .any, .any, .any, .any, .any, .any, .any], [.ext 32 [.int .i64, .int .i64]]⟩]
def lc_leatref51_Most_7 (N : Nat) : LC := mkLC 0 p_leatref51_Most_7 h_leatref51_Most_7 x_leatref51_Most_7 (leatref51_Most_L7 N)
def p_leatref51_Most_3 : List Pat := [.sl 0, .any, .any, .sc (.int .i64), .sc (.int .i64), .sc (.int .i64), .any, .any, .any, .any, .any, .any, .any, .any, .any, .any, .any, .any, .any, .any, .any, .any, .any, .any, .any, .any, .any, .any, .any, .any, .any, .any, .any, .any, .any, .any, .any, .any, .any, .any, .any, .any, .any, .any, .any, .any, .any, .any, .any, .any, .any, .any, .any, .any, .any, .any, .any]
def h_leatref51_Most_3 : List HPat := [.ext 32 [.int .i64, .int .i64]]
def x_leatref51_Most_3 : List XP := [⟨.exit 0, [.any, .any, .any, .sc (.int .i64), .any, .any, .any, .any, .any, .any, .any, .any, .any, .any, .any, .any, .any, .any, .any, .any, .any, .any, .any, .any, .any, .any, .any, .any, .any, .any, .any, .any, .any, .any, .any, .any, .any, .any, .any, .any, .any, .any, .any, .any, .any, .any, .any, .any, .any, .any, .any, .any, .any, .any, .any, .any, .any], []⟩]
def lc_leatref51_Most_3 (N : Nat) : LC := mkLC 0 p_leatref51_Most_3 h_leatref51_Most_3 x_leatref51_Most_3 (leatref51_Most_L3 N)
def s_leatref51_Most (N : Nat) : List (Nat × LC) := [(7, lc_leatref51_Most_7 N), (3, lc_leatref51_Most_3 N)]
noncomputable def e_leatref51_Most (N : Nat) : Env := mkEnvX 0 [] Try.prog o_leatref51_Name (s_leatref51_Most N) N
theorem k_leatref51_Most_7 (N : Nat) : LCOK (e_leatref51_Most N) 12 (loopAt Try.prog 7 1) (lc_leatref51_Most_7 N) := mkLC_ok rfl (by kernel_rfl) (by kernel_rfl) (fun F x => by kernel_rfl)
theorem k_leatref51_Most_3 (N : Nat) : LCOK (e_leatref51_Most N) 12 (loopAt Try.prog 7 0) (lc_leatref51_Most_3 N) := mkLC_ok rfl (by kernel_rfl) (by kernel_rfl) (fun F x => by kernel_rfl)
theorem q_leatref51_Most (N : Nat) : LoopsFor (e_leatref51_Most N) Try.prog 7 2 := loops_mk (by kernel_rfl) (fun j hj => match j, hj with
  | 0, _ => .inl ⟨lc_leatref51_Most_3 N, by kernel_rfl, k_leatref51_Most_3 N⟩
  | 1, _ => .inl ⟨lc_leatref51_Most_7 N, by kernel_rfl, k_leatref51_Most_7 N⟩
  | _ + 2, h => absurd h (by omega)) (fun _ => rfl)
def c_leatref51_Most : FC := mkF [.row 32 [.int .i64, .int .i64]] [.sc (.int .i64)] leatref51_Most
theorem t_leatref51_Most (N : Nat) : FCOK Try.prog N 7 c_leatref51_Most := fun_ok facts (ok_leatref51_Name N) (by kernel_rfl) (by kernel_rfl) (q_leatref51_Most N) (fun t => by kernel_rfl)
def o_leatref51_Most : List (Nat × FC) := (7, c_leatref51_Most) :: o_leatref51_Name
theorem ok_leatref51_Most (N : Nat) : OrcOK Try.prog o_leatref51_Most N := orc_cons (t_leatref51_Most N) (ok_leatref51_Name N)
def s_leatref39_keep (_ : Nat) : List (Nat × LC) := []
noncomputable def e_leatref39_keep (N : Nat) : Env := mkEnvX 0 [] Try.prog o_leatref51_Most (s_leatref39_keep N) N
theorem q_leatref39_keep (N : Nat) : LoopsFor (e_leatref39_keep N) Try.prog 16 0 := loops_mk (by kernel_rfl) (fun j hj => match j, hj with
  | _ + 0, h => absurd h (by omega)) (fun _ => rfl)
def c_leatref39_keep : FC := mkF [.sc (.int .i64), .sc (.int .i64), .sc (.int .i64)] [.sc (.int .i64)] leatref39_keep
theorem t_leatref39_keep (N : Nat) : FCOK Try.prog N 16 c_leatref39_keep := fun_ok facts (ok_leatref51_Most N) (by kernel_rfl) (by kernel_rfl) (q_leatref39_keep N) (fun t => by kernel_rfl)
def o_leatref39_keep : List (Nat × FC) := (16, c_leatref39_keep) :: o_leatref51_Most
theorem ok_leatref39_keep (N : Nat) : OrcOK Try.prog o_leatref39_keep N := orc_cons (t_leatref39_keep N) (ok_leatref51_Most N)
def s_leatref36_keep (_ : Nat) : List (Nat × LC) := []
noncomputable def e_leatref36_keep (N : Nat) : Env := mkEnvX 0 [] Try.prog o_leatref39_keep (s_leatref36_keep N) N
theorem q_leatref36_keep (N : Nat) : LoopsFor (e_leatref36_keep N) Try.prog 31 0 := loops_mk (by kernel_rfl) (fun j hj => match j, hj with
  | _ + 0, h => absurd h (by omega)) (fun _ => rfl)
def c_leatref36_keep : FC := mkF [.sc (.int .i64), .sc (.int .i64), .sc (.int .i64)] [.sc (.int .i64)] leatref36_keep
theorem t_leatref36_keep (N : Nat) : FCOK Try.prog N 31 c_leatref36_keep := fun_ok facts (ok_leatref39_keep N) (by kernel_rfl) (by kernel_rfl) (q_leatref36_keep N) (fun t => by kernel_rfl)
def o_leatref36_keep : List (Nat × FC) := (31, c_leatref36_keep) :: o_leatref39_keep
theorem ok_leatref36_keep (N : Nat) : OrcOK Try.prog o_leatref36_keep N := orc_cons (t_leatref36_keep N) (ok_leatref39_keep N)
def s_leatref36_Limit (_ : Nat) : List (Nat × LC) := []
noncomputable def e_leatref36_Limit (N : Nat) : Env := mkEnvX 0 [] Try.prog o_leatref36_keep (s_leatref36_Limit N) N
theorem q_leatref36_Limit (N : Nat) : LoopsFor (e_leatref36_Limit N) Try.prog 17 0 := loops_mk (by kernel_rfl) (fun j hj => match j, hj with
  | _ + 0, h => absurd h (by omega)) (fun _ => rfl)
def c_leatref36_Limit : FC := mkF [.agg [.int .i64, .int .i64, .int .i64, .int .i64, .int .i64, .int .i64, .int .i64, .int .i64]] [.agg [.int .i64, .int .i64, .int .i64, .int .i64, .int .i64, .int .i64, .int .i64, .int .i64]] leatref36_Limit
theorem t_leatref36_Limit (N : Nat) : FCOK Try.prog N 17 c_leatref36_Limit := fun_ok facts (ok_leatref36_keep N) (by kernel_rfl) (by kernel_rfl) (q_leatref36_Limit N) (fun t => by kernel_rfl)
def o_leatref36_Limit : List (Nat × FC) := (17, c_leatref36_Limit) :: o_leatref36_keep
theorem ok_leatref36_Limit (N : Nat) : OrcOK Try.prog o_leatref36_Limit N := orc_cons (t_leatref36_Limit N) (ok_leatref36_keep N)
def s_leatref29_Kind (_ : Nat) : List (Nat × LC) := []
noncomputable def e_leatref29_Kind (N : Nat) : Env := mkEnvX 0 [] Try.prog o_leatref36_Limit (s_leatref29_Kind N) N
theorem q_leatref29_Kind (N : Nat) : LoopsFor (e_leatref29_Kind N) Try.prog 32 0 := loops_mk (by kernel_rfl) (fun j hj => match j, hj with
  | _ + 0, h => absurd h (by omega)) (fun _ => rfl)
def c_leatref29_Kind : FC := mkF [.sc (.int .i64)] [.sc (.int .i64)] leatref29_Kind
theorem t_leatref29_Kind (N : Nat) : FCOK Try.prog N 32 c_leatref29_Kind := fun_ok facts (ok_leatref36_Limit N) (by kernel_rfl) (by kernel_rfl) (q_leatref29_Kind N) (fun t => by kernel_rfl)
def o_leatref29_Kind : List (Nat × FC) := (32, c_leatref29_Kind) :: o_leatref36_Limit
theorem ok_leatref29_Kind (N : Nat) : OrcOK Try.prog o_leatref29_Kind N := orc_cons (t_leatref29_Kind N) (ok_leatref36_Limit N)
def s_leatref31_keep (_ : Nat) : List (Nat × LC) := []
noncomputable def e_leatref31_keep (N : Nat) : Env := mkEnvX 0 [] Try.prog o_leatref29_Kind (s_leatref31_keep N) N
theorem q_leatref31_keep (N : Nat) : LoopsFor (e_leatref31_keep N) Try.prog 33 0 := loops_mk (by kernel_rfl) (fun j hj => match j, hj with
  | _ + 0, h => absurd h (by omega)) (fun _ => rfl)
def c_leatref31_keep : FC := mkF [.sc (.int .i64), .sc (.int .i64), .sc (.int .i64)] [.sc (.int .i64)] leatref31_keep
theorem t_leatref31_keep (N : Nat) : FCOK Try.prog N 33 c_leatref31_keep := fun_ok facts (ok_leatref29_Kind N) (by kernel_rfl) (by kernel_rfl) (q_leatref31_keep N) (fun t => by kernel_rfl)
def o_leatref31_keep : List (Nat × FC) := (33, c_leatref31_keep) :: o_leatref29_Kind
theorem ok_leatref31_keep (N : Nat) : OrcOK Try.prog o_leatref31_keep N := orc_cons (t_leatref31_keep N) (ok_leatref29_Kind N)
def s_leatref31_Limit (_ : Nat) : List (Nat × LC) := []
noncomputable def e_leatref31_Limit (N : Nat) : Env := mkEnvX 0 [] Try.prog o_leatref31_keep (s_leatref31_Limit N) N
theorem q_leatref31_Limit (N : Nat) : LoopsFor (e_leatref31_Limit N) Try.prog 18 0 := loops_mk (by kernel_rfl) (fun j hj => match j, hj with
  | _ + 0, h => absurd h (by omega)) (fun _ => rfl)
def c_leatref31_Limit : FC := mkF [.agg [.int .i64, .int .i64, .int .i64, .int .i64, .int .i64, .int .i64, .int .i64, .int .i64, .int .i64, .int .i64]] [.agg [.int .i64, .int .i64, .int .i64, .int .i64, .int .i64, .int .i64, .int .i64, .int .i64, .int .i64, .int .i64]] leatref31_Limit
theorem t_leatref31_Limit (N : Nat) : FCOK Try.prog N 18 c_leatref31_Limit := fun_ok facts (ok_leatref31_keep N) (by kernel_rfl) (by kernel_rfl) (q_leatref31_Limit N) (fun t => by kernel_rfl)
def o_leatref31_Limit : List (Nat × FC) := (18, c_leatref31_Limit) :: o_leatref31_keep
theorem ok_leatref31_Limit (N : Nat) : OrcOK Try.prog o_leatref31_Limit N := orc_cons (t_leatref31_Limit N) (ok_leatref31_keep N)
def s_config_within (_ : Nat) : List (Nat × LC) := []
noncomputable def e_config_within (N : Nat) : Env := mkEnvX 0 [] Try.prog o_leatref31_Limit (s_config_within N) N
theorem q_config_within (N : Nat) : LoopsFor (e_config_within N) Try.prog 21 0 := loops_mk (by kernel_rfl) (fun j hj => match j, hj with
  | _ + 0, h => absurd h (by omega)) (fun _ => rfl)
def c_config_within : FC := mkF [.sc (.int .i64), .sc (.int .i64), .sc (.int .i64)] [.sc (.bool)] config_within
theorem t_config_within (N : Nat) : FCOK Try.prog N 21 c_config_within := fun_ok facts (ok_leatref31_Limit N) (by kernel_rfl) (by kernel_rfl) (q_config_within N) (fun t => by kernel_rfl)
def o_config_within : List (Nat × FC) := (21, c_config_within) :: o_leatref31_Limit
theorem ok_config_within (N : Nat) : OrcOK Try.prog o_config_within N := orc_cons (t_config_within N) (ok_leatref31_Limit N)
def s_sat_Clamp (_ : Nat) : List (Nat × LC) := []
noncomputable def e_sat_Clamp (N : Nat) : Env := mkEnvX 0 [] Try.prog o_config_within (s_sat_Clamp N) N
theorem q_sat_Clamp (N : Nat) : LoopsFor (e_sat_Clamp N) Try.prog 36 0 := loops_mk (by kernel_rfl) (fun j hj => match j, hj with
  | _ + 0, h => absurd h (by omega)) (fun _ => rfl)
def c_sat_Clamp : FC := mkF [.sc (.int .i64), .sc (.int .i64), .sc (.int .i64)] [.sc (.int .i64)] sat_Clamp
theorem t_sat_Clamp (N : Nat) : FCOK Try.prog N 36 c_sat_Clamp := fun_ok facts (ok_config_within N) (by kernel_rfl) (by kernel_rfl) (q_sat_Clamp N) (fun t => by kernel_rfl)
def o_sat_Clamp : List (Nat × FC) := (36, c_sat_Clamp) :: o_config_within
theorem ok_sat_Clamp (N : Nat) : OrcOK Try.prog o_sat_Clamp N := orc_cons (t_sat_Clamp N) (ok_config_within N)
def s_dual_Limit (_ : Nat) : List (Nat × LC) := []
noncomputable def e_dual_Limit (N : Nat) : Env := mkEnvX 0 [] Try.prog o_sat_Clamp (s_dual_Limit N) N
theorem q_dual_Limit (N : Nat) : LoopsFor (e_dual_Limit N) Try.prog 22 0 := loops_mk (by kernel_rfl) (fun j hj => match j, hj with
  | _ + 0, h => absurd h (by omega)) (fun _ => rfl)
def c_dual_Limit : FC := mkF [.agg [.int .i64, .int .i64, .int .i64, .int .i64, .int .i64, .int .i64, .int .i64, .int .i64]] [.agg [.int .i64, .int .i64, .int .i64, .int .i64, .int .i64, .int .i64, .int .i64, .int .i64]] dual_Limit
theorem t_dual_Limit (N : Nat) : FCOK Try.prog N 22 c_dual_Limit := fun_ok facts (ok_sat_Clamp N) (by kernel_rfl) (by kernel_rfl) (q_dual_Limit N) (fun t => by kernel_rfl)
def o_dual_Limit : List (Nat × FC) := (22, c_dual_Limit) :: o_sat_Clamp
theorem ok_dual_Limit (N : Nat) : OrcOK Try.prog o_dual_Limit N := orc_cons (t_dual_Limit N) (ok_sat_Clamp N)
def s_sender_Limit (_ : Nat) : List (Nat × LC) := []
noncomputable def e_sender_Limit (N : Nat) : Env := mkEnvX 0 [] Try.prog o_dual_Limit (s_sender_Limit N) N
theorem q_sender_Limit (N : Nat) : LoopsFor (e_sender_Limit N) Try.prog 34 0 := loops_mk (by kernel_rfl) (fun j hj => match j, hj with
  | _ + 0, h => absurd h (by omega)) (fun _ => rfl)
def c_sender_Limit : FC := mkF [.agg [.int .i64, .int .i64, .int .i64, .int .i64, .int .i64, .int .i64, .int .i64, .int .i64, .int .i64, .int .i64]] [.agg [.int .i64, .int .i64, .int .i64, .int .i64, .int .i64, .int .i64, .int .i64, .int .i64, .int .i64, .int .i64]] sender_Limit
theorem t_sender_Limit (N : Nat) : FCOK Try.prog N 34 c_sender_Limit := fun_ok facts (ok_dual_Limit N) (by kernel_rfl) (by kernel_rfl) (q_sender_Limit N) (fun t => by kernel_rfl)
def o_sender_Limit : List (Nat × FC) := (34, c_sender_Limit) :: o_dual_Limit
theorem ok_sender_Limit (N : Nat) : OrcOK Try.prog o_sender_Limit N := orc_cons (t_sender_Limit N) (ok_dual_Limit N)
def s_trace_names (_ : Nat) : List (Nat × LC) := []
noncomputable def e_trace_names (N : Nat) : Env := mkEnvX 0 [] Try.prog o_sender_Limit (s_trace_names N) N
theorem q_trace_names (N : Nat) : LoopsFor (e_trace_names N) Try.prog 46 0 := loops_mk (by kernel_rfl) (fun j hj => match j, hj with
  | _ + 0, h => absurd h (by omega)) (fun _ => rfl)
def c_trace_names : FC := mkF [] [.agg [.str, .str, .str, .str, .str, .str, .str, .str, .str]] trace_names
theorem t_trace_names (N : Nat) : FCOK Try.prog N 46 c_trace_names := fun_ok facts (ok_sender_Limit N) (by kernel_rfl) (by kernel_rfl) (q_trace_names N) (fun t => by kernel_rfl)
def o_trace_names : List (Nat × FC) := (46, c_trace_names) :: o_sender_Limit
theorem ok_trace_names (N : Nat) : OrcOK Try.prog o_trace_names N := orc_cons (t_trace_names N) (ok_sender_Limit N)
def s_trace_Name (_ : Nat) : List (Nat × LC) := []
noncomputable def e_trace_Name (N : Nat) : Env := mkEnvX 0 [] Try.prog o_trace_names (s_trace_Name N) N
theorem q_trace_Name (N : Nat) : LoopsFor (e_trace_Name N) Try.prog 38 0 := loops_mk (by kernel_rfl) (fun j hj => match j, hj with
  | _ + 0, h => absurd h (by omega)) (fun _ => rfl)
def c_trace_Name : FC := mkF [.sc (.int .i64)] [.sc (.str)] trace_Name
theorem t_trace_Name (N : Nat) : FCOK Try.prog N 38 c_trace_Name := fun_ok facts (ok_trace_names N) (by kernel_rfl) (by kernel_rfl) (q_trace_Name N) (fun t => by kernel_rfl)
def o_trace_Name : List (Nat × FC) := (38, c_trace_Name) :: o_trace_names
theorem ok_trace_Name (N : Nat) : OrcOK Try.prog o_trace_Name N := orc_cons (t_trace_Name N) (ok_trace_names N)
def s_sat_size (_ : Nat) : List (Nat × LC) := []
noncomputable def e_sat_size (N : Nat) : Env := mkEnvX 0 [] Try.prog o_trace_Name (s_sat_size N) N
theorem q_sat_size (N : Nat) : LoopsFor (e_sat_size N) Try.prog 54 0 := loops_mk (by kernel_rfl) (fun j hj => match j, hj with
  | _ + 0, h => absurd h (by omega)) (fun _ => rfl)
def c_sat_size : FC := mkF [.sc (.int .i64)] [.sc (.int .u64)] sat_size
theorem t_sat_size (N : Nat) : FCOK Try.prog N 54 c_sat_size := fun_ok facts (ok_trace_Name N) (by kernel_rfl) (by kernel_rfl) (q_sat_size N) (fun t => by kernel_rfl)
def o_sat_size : List (Nat × FC) := (54, c_sat_size) :: o_trace_Name
theorem ok_sat_size (N : Nat) : OrcOK Try.prog o_sat_size N := orc_cons (t_sat_size N) (ok_trace_Name N)
def s_bits_Mul64 (_ : Nat) : List (Nat × LC) := []
noncomputable def e_bits_Mul64 (N : Nat) : Env := mkEnvX 0 [] Try.prog o_sat_size (s_bits_Mul64 N) N
theorem q_bits_Mul64 (N : Nat) : LoopsFor (e_bits_Mul64 N) Try.prog 53 0 := loops_mk (by kernel_rfl) (fun j hj => match j, hj with
  | _ + 0, h => absurd h (by omega)) (fun _ => rfl)
def c_bits_Mul64 : FC := mkF [.sc (.int .u64), .sc (.int .u64)] [.sc (.int .u64), .sc (.int .u64)] bits_Mul64
theorem t_bits_Mul64 (N : Nat) : FCOK Try.prog N 53 c_bits_Mul64 := fun_ok facts (ok_sat_size N) (by kernel_rfl) (by kernel_rfl) (q_bits_Mul64 N) (fun t => by kernel_rfl)
def o_bits_Mul64 : List (Nat × FC) := (53, c_bits_Mul64) :: o_sat_size
theorem ok_bits_Mul64 (N : Nat) : OrcOK Try.prog o_bits_Mul64 N := orc_cons (t_bits_Mul64 N) (ok_sat_size N)
def s_sat_end (_ : Nat) : List (Nat × LC) := []
noncomputable def e_sat_end (N : Nat) : Env := mkEnvX 0 [] Try.prog o_bits_Mul64 (s_sat_end N) N
theorem q_sat_end (N : Nat) : LoopsFor (e_sat_end N) Try.prog 55 0 := loops_mk (by kernel_rfl) (fun j hj => match j, hj with
  | _ + 0, h => absurd h (by omega)) (fun _ => rfl)
def c_sat_end : FC := mkF [.sc (.bool)] [.sc (.int .i64)] sat_end
theorem t_sat_end (N : Nat) : FCOK Try.prog N 55 c_sat_end := fun_ok facts (ok_bits_Mul64 N) (by kernel_rfl) (by kernel_rfl) (q_sat_end N) (fun t => by kernel_rfl)
def o_sat_end : List (Nat × FC) := (55, c_sat_end) :: o_bits_Mul64
theorem ok_sat_end (N : Nat) : OrcOK Try.prog o_sat_end N := orc_cons (t_sat_end N) (ok_bits_Mul64 N)
def s_sat_signed (_ : Nat) : List (Nat × LC) := []
noncomputable def e_sat_signed (N : Nat) : Env := mkEnvX 0 [] Try.prog o_sat_end (s_sat_signed N) N
theorem q_sat_signed (N : Nat) : LoopsFor (e_sat_signed N) Try.prog 56 0 := loops_mk (by kernel_rfl) (fun j hj => match j, hj with
  | _ + 0, h => absurd h (by omega)) (fun _ => rfl)
def c_sat_signed : FC := mkF [.sc (.int .u64), .sc (.bool)] [.sc (.int .i64)] sat_signed
theorem t_sat_signed (N : Nat) : FCOK Try.prog N 56 c_sat_signed := fun_ok facts (ok_sat_end N) (by kernel_rfl) (by kernel_rfl) (q_sat_signed N) (fun t => by kernel_rfl)
def o_sat_signed : List (Nat × FC) := (56, c_sat_signed) :: o_sat_end
theorem ok_sat_signed (N : Nat) : OrcOK Try.prog o_sat_signed N := orc_cons (t_sat_signed N) (ok_sat_end N)
def s_sat_Mul (_ : Nat) : List (Nat × LC) := []
noncomputable def e_sat_Mul (N : Nat) : Env := mkEnvX 0 [] Try.prog o_sat_signed (s_sat_Mul N) N
theorem q_sat_Mul (N : Nat) : LoopsFor (e_sat_Mul N) Try.prog 43 0 := loops_mk (by kernel_rfl) (fun j hj => match j, hj with
  | _ + 0, h => absurd h (by omega)) (fun _ => rfl)
def c_sat_Mul : FC := mkF [.sc (.int .i64), .sc (.int .i64)] [.sc (.int .i64)] sat_Mul
theorem t_sat_Mul (N : Nat) : FCOK Try.prog N 43 c_sat_Mul := fun_ok facts (ok_sat_signed N) (by kernel_rfl) (by kernel_rfl) (q_sat_Mul N) (fun t => by kernel_rfl)
def o_sat_Mul : List (Nat × FC) := (43, c_sat_Mul) :: o_sat_signed
theorem ok_sat_Mul (N : Nat) : OrcOK Try.prog o_sat_Mul N := orc_cons (t_sat_Mul N) (ok_sat_signed N)
def s_audit_look_bytes (_ : Nat) : List (Nat × LC) := []
noncomputable def e_audit_look_bytes (N : Nat) : Env := mkEnvX 0 [] Try.prog o_sat_Mul (s_audit_look_bytes N) N
theorem q_audit_look_bytes (N : Nat) : LoopsFor (e_audit_look_bytes N) Try.prog 30 1 := loops_mk (by kernel_rfl) (fun j hj => match j, hj with
  | 0, _ => .inr (by kernel_rfl)
  | _ + 1, h => absurd h (by omega)) (fun _ => rfl)
def a_audit_look_bytes : List Pat := [.ptr 0 0, .sc (.int .i64)]
def b_audit_look_bytes : List HPat := [.rcells [.any, .any, .any, .any, .any, .any, .any, .any, .any, .any, .any, .any, .any, .any, .any, .nils, .nils, .any, .any, .any, .any, .any, .any, .any, .any, .any, .any, .any, .any, .any, .any]]
def c_audit_look_bytes : FC := mkFC a_audit_look_bytes b_audit_look_bytes [.sc (.int .i64)] audit_look_bytes
theorem t_audit_look_bytes (N : Nat) : FCOK Try.prog N 30 c_audit_look_bytes := ro_ok facts (ok_sat_Mul N) (by kernel_rfl) (by kernel_rfl) (q_audit_look_bytes N) (fun t => by kernel_rfl)
def o_audit_look_bytes : List (Nat × FC) := (30, c_audit_look_bytes) :: o_sat_Mul
theorem ok_audit_look_bytes (N : Nat) : OrcOK Try.prog o_audit_look_bytes N := orc_cons (t_audit_look_bytes N) (ok_sat_Mul N)
def s_audit_look_tally (_ : Nat) : List (Nat × LC) := []
noncomputable def e_audit_look_tally (N : Nat) : Env := mkEnvX 0 [] Try.prog o_audit_look_bytes (s_audit_look_tally N) N
theorem q_audit_look_tally (N : Nat) : LoopsFor (e_audit_look_tally N) Try.prog 14 0 := loops_mk (by kernel_rfl) (fun j hj => match j, hj with
  | _ + 0, h => absurd h (by omega)) (fun _ => rfl)
def a_audit_look_tally : List Pat := [.ptr 0 0, .agg [.int .i64, .int .i64, .int .i64, .int .i64, .int .i64, .int .i64, .int .i64, .int .i64, .int .i64], .sc (.int .i64)]
def b_audit_look_tally : List HPat := [.rcells [.any, .any, .any, .any, .any, .any, .any, .any, .any, .any, .any, .any, .any, .any, .any, .nils, .nils, .any, .sc (.int .i64), .sc (.int .i64), .any, .any, .any, .any, .any, .any, .any, .any, .any, .any, .any]]
def c_audit_look_tally : FC := mkFC a_audit_look_tally b_audit_look_tally [.sc (.bool)] audit_look_tally
theorem t_audit_look_tally (N : Nat) : FCOK Try.prog N 14 c_audit_look_tally := ro_ok facts (ok_audit_look_bytes N) (by kernel_rfl) (by kernel_rfl) (q_audit_look_tally N) (fun t => by kernel_rfl)
def o_audit_look_tally : List (Nat × FC) := (14, c_audit_look_tally) :: o_audit_look_bytes
theorem ok_audit_look_tally (N : Nat) : OrcOK Try.prog o_audit_look_tally N := orc_cons (t_audit_look_tally N) (ok_audit_look_bytes N)
def s_audit_look_waits (_ : Nat) : List (Nat × LC) := []
noncomputable def e_audit_look_waits (N : Nat) : Env := mkEnvX 0 [] Try.prog o_audit_look_tally (s_audit_look_waits N) N
theorem q_audit_look_waits (N : Nat) : LoopsFor (e_audit_look_waits N) Try.prog 25 0 := loops_mk (by kernel_rfl) (fun j hj => match j, hj with
  | _ + 0, h => absurd h (by omega)) (fun _ => rfl)
def a_audit_look_waits : List Pat := [.ptr 0 0]
def b_audit_look_waits : List HPat := [.rcells [.any, .any, .any, .any, .any, .any, .any, .any, .any, .any, .any, .any, .any, .any, .any, .nils, .nils, .any, .any, .any, .any, .any, .any, .any, .any, .any, .any, .any, .any, .any, .any]]
def c_audit_look_waits : FC := mkFC a_audit_look_waits b_audit_look_waits [.sc (.int .i64)] audit_look_waits
theorem t_audit_look_waits (N : Nat) : FCOK Try.prog N 25 c_audit_look_waits := ro_ok facts (ok_audit_look_tally N) (by kernel_rfl) (by kernel_rfl) (q_audit_look_waits N) (fun t => by kernel_rfl)
def o_audit_look_waits : List (Nat × FC) := (25, c_audit_look_waits) :: o_audit_look_tally
theorem ok_audit_look_waits (N : Nat) : OrcOK Try.prog o_audit_look_waits N := orc_cons (t_audit_look_waits N) (ok_audit_look_tally N)
def s_leatlaw51_works (_ : Nat) : List (Nat × LC) := []
noncomputable def e_leatlaw51_works (N : Nat) : Env := mkEnvX 0 [] Try.prog o_audit_look_waits (s_leatlaw51_works N) N
theorem q_leatlaw51_works (N : Nat) : LoopsFor (e_leatlaw51_works N) Try.prog 8 0 := loops_mk (by kernel_rfl) (fun j hj => match j, hj with
  | _ + 0, h => absurd h (by omega)) (fun _ => rfl)
def c_leatlaw51_works : FC := mkF [] [.sc (.bool)] leatlaw51_works
theorem t_leatlaw51_works (N : Nat) : FCOK Try.prog N 8 c_leatlaw51_works := fun_ok facts (ok_audit_look_waits N) (by kernel_rfl) (by kernel_rfl) (q_leatlaw51_works N) (fun t => by kernel_rfl)
def o_leatlaw51_works : List (Nat × FC) := (8, c_leatlaw51_works) :: o_audit_look_waits
theorem ok_leatlaw51_works (N : Nat) : OrcOK Try.prog o_leatlaw51_works N := orc_cons (t_leatlaw51_works N) (ok_audit_look_waits N)
def s_leatlaw51_AuditNames (_ : Nat) : List (Nat × LC) := []
noncomputable def e_leatlaw51_AuditNames (N : Nat) : Env := mkEnvX 0 [] Try.prog o_leatlaw51_works (s_leatlaw51_AuditNames N) N
theorem q_leatlaw51_AuditNames (N : Nat) : LoopsFor (e_leatlaw51_AuditNames N) Try.prog 3 0 := loops_mk (by kernel_rfl) (fun j hj => match j, hj with
  | _ + 0, h => absurd h (by omega)) (fun _ => rfl)
theorem okL_leatlaw51_AuditNames (N : Nat) : OrcOK Try.prog o_leatlaw51_works N := ok_leatlaw51_works N
theorem w_leatlaw51_AuditNames (N : Nat) (x : RT [.sc (.int .i64), .row 32 [.int .i64, .int .i64]]) : uncR [.sc (.int .i64), .row 32 [.int .i64, .int .i64]] (leatlaw51_AuditNames N) x = evFn (e_leatlaw51_AuditNames N) 13 3 (encA 0 [.sc (.int .i64), .row 32 [.int .i64, .int .i64]] x).1 (encA 0 [.sc (.int .i64), .row 32 [.int .i64, .int .i64]] x).2 (decR [.sc .bool]) := by kernel_rfl
end Go.Proofs.Ytdoiofdepmiejaa.W
