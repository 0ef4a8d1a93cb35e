/- The functions of the seat, as the evaluator tells them, each with its contract. Printed by genW.py. -/
import Derived.Test.YtfiiifogplhppaaW0
import Derived.Test.YtfiiifogplhppaaRows
namespace Go.Proofs.Ytfiiifogplhppaa.W
open Go.Ev Go.RowKit
theorem facts : Facts Try.prog := ⟨by kernel_rfl, names_of (by kernel_rfl)⟩
def o_0 : List (Nat × FC) := []
theorem ok_0 (N : Nat) : OrcOK Try.prog o_0 N := orc_nil
def s_sat_Clamp (_ : Nat) : List (Nat × LC) := []
noncomputable def e_sat_Clamp (N : Nat) : Env := mkEnv Try.prog o_0 (s_sat_Clamp N) N
theorem q_sat_Clamp (N : Nat) : LoopsFor (e_sat_Clamp N) Try.prog 44 0 := ⟨by kernel_rfl, fun j hj => match j, hj with
  | _ + 0, h => absurd h (by omega)⟩
def c_sat_Clamp : FC := mkF [.sc (.int .i64), .sc (.int .i64), .sc (.int .i64)] [.sc (.int .i64)] sat_Clamp
theorem t_sat_Clamp (N : Nat) : FCOK Try.prog N 44 c_sat_Clamp := fun_ok facts (ok_0 N) (by kernel_rfl) (by kernel_rfl) (q_sat_Clamp N) (fun t => by kernel_rfl)
def o_sat_Clamp : List (Nat × FC) := (44, c_sat_Clamp) :: o_0
theorem ok_sat_Clamp (N : Nat) : OrcOK Try.prog o_sat_Clamp N := orc_cons (t_sat_Clamp N) (ok_0 N)
def s_timer_within (_ : Nat) : List (Nat × LC) := []
noncomputable def e_timer_within (N : Nat) : Env := mkEnv Try.prog o_sat_Clamp (s_timer_within N) N
theorem q_timer_within (N : Nat) : LoopsFor (e_timer_within N) Try.prog 43 0 := ⟨by kernel_rfl, fun j hj => match j, hj with
  | _ + 0, h => absurd h (by omega)⟩
def c_timer_within : FC := mkF [.agg [.int .i64, .int .i64, .int .i64, .int .i64]] [.agg [.int .i64, .int .i64, .int .i64, .int .i64]] timer_within
theorem t_timer_within (N : Nat) : FCOK Try.prog N 43 c_timer_within := fun_ok facts (ok_sat_Clamp N) (by kernel_rfl) (by kernel_rfl) (q_timer_within N) (fun t => by kernel_rfl)
def o_timer_within : List (Nat × FC) := (43, c_timer_within) :: o_sat_Clamp
theorem ok_timer_within (N : Nat) : OrcOK Try.prog o_timer_within N := orc_cons (t_timer_within N) (ok_sat_Clamp N)
def s_timer_Wait (_ : Nat) : List (Nat × LC) := []
noncomputable def e_timer_Wait (N : Nat) : Env := mkEnv Try.prog o_timer_within (s_timer_Wait N) N
theorem q_timer_Wait (N : Nat) : LoopsFor (e_timer_Wait N) Try.prog 18 0 := ⟨by kernel_rfl, fun j hj => match j, hj with
  | _ + 0, h => absurd h (by omega)⟩
def c_timer_Wait : FC := mkF [.agg [.int .i64, .int .i64, .int .i64, .int .i64]] [.sc (.int .i64)] timer_Wait
theorem t_timer_Wait (N : Nat) : FCOK Try.prog N 18 c_timer_Wait := fun_ok facts (ok_timer_within N) (by kernel_rfl) (by kernel_rfl) (q_timer_Wait N) (fun t => by kernel_rfl)
def o_timer_Wait : List (Nat × FC) := (18, c_timer_Wait) :: o_timer_within
theorem ok_timer_Wait (N : Nat) : OrcOK Try.prog o_timer_Wait N := orc_cons (t_timer_Wait N) (ok_timer_within N)
def s_timer_Arm (_ : Nat) : List (Nat × LC) := []
noncomputable def e_timer_Arm (N : Nat) : Env := mkEnv Try.prog o_timer_Wait (s_timer_Arm N) N
theorem q_timer_Arm (N : Nat) : LoopsFor (e_timer_Arm N) Try.prog 17 0 := ⟨by kernel_rfl, fun j hj => match j, hj with
  | _ + 0, h => absurd h (by omega)⟩
def c_timer_Arm : FC := mkF [.agg [.int .i64, .int .i64, .int .i64, .int .i64], .sc (.int .i64)] [.agg [.int .i64, .int .i64, .int .i64, .int .i64]] timer_Arm
theorem t_timer_Arm (N : Nat) : FCOK Try.prog N 17 c_timer_Arm := fun_ok facts (ok_timer_Wait N) (by kernel_rfl) (by kernel_rfl) (q_timer_Arm N) (fun t => by kernel_rfl)
def o_timer_Arm : List (Nat × FC) := (17, c_timer_Arm) :: o_timer_Wait
theorem ok_timer_Arm (N : Nat) : OrcOK Try.prog o_timer_Arm N := orc_cons (t_timer_Arm N) (ok_timer_Wait N)
def s_timer_Fire (_ : Nat) : List (Nat × LC) := []
noncomputable def e_timer_Fire (N : Nat) : Env := mkEnv Try.prog o_timer_Arm (s_timer_Fire N) N
theorem q_timer_Fire (N : Nat) : LoopsFor (e_timer_Fire N) Try.prog 14 0 := ⟨by kernel_rfl, fun j hj => match j, hj with
  | _ + 0, h => absurd h (by omega)⟩
def c_timer_Fire : FC := mkF [.agg [.int .i64, .int .i64, .int .i64, .int .i64], .sc (.int .i64)] [.agg [.int .i64, .int .i64, .int .i64, .int .i64], .sc (.bool)] timer_Fire
theorem t_timer_Fire (N : Nat) : FCOK Try.prog N 14 c_timer_Fire := fun_ok facts (ok_timer_Arm N) (by kernel_rfl) (by kernel_rfl) (q_timer_Fire N) (fun t => by kernel_rfl)
def o_timer_Fire : List (Nat × FC) := (14, c_timer_Fire) :: o_timer_Arm
theorem ok_timer_Fire (N : Nat) : OrcOK Try.prog o_timer_Fire N := orc_cons (t_timer_Fire N) (ok_timer_Arm N)
def s_leatref22_Within (_ : Nat) : List (Nat × LC) := []
noncomputable def e_leatref22_Within (N : Nat) : Env := mkEnv Try.prog o_timer_Fire (s_leatref22_Within N) N
theorem q_leatref22_Within (N : Nat) : LoopsFor (e_leatref22_Within N) Try.prog 45 0 := ⟨by kernel_rfl, fun j hj => match j, hj with
  | _ + 0, h => absurd h (by omega)⟩
def c_leatref22_Within : FC := mkF [.agg [.int .i64, .int .i64, .int .i64, .int .i64]] [.agg [.int .i64, .int .i64, .int .i64, .int .i64]] leatref22_Within
theorem t_leatref22_Within (N : Nat) : FCOK Try.prog N 45 c_leatref22_Within := fun_ok facts (ok_timer_Fire N) (by kernel_rfl) (by kernel_rfl) (q_leatref22_Within N) (fun t => by kernel_rfl)
def o_leatref22_Within : List (Nat × FC) := (45, c_leatref22_Within) :: o_timer_Fire
theorem ok_leatref22_Within (N : Nat) : OrcOK Try.prog o_leatref22_Within N := orc_cons (t_leatref22_Within N) (ok_timer_Fire N)
def s_leatref22_near (_ : Nat) : List (Nat × LC) := []
noncomputable def e_leatref22_near (N : Nat) : Env := mkEnv Try.prog o_leatref22_Within (s_leatref22_near N) N
theorem q_leatref22_near (N : Nat) : LoopsFor (e_leatref22_near N) Try.prog 46 0 := ⟨by kernel_rfl, fun j hj => match j, hj with
  | _ + 0, h => absurd h (by omega)⟩
def c_leatref22_near : FC := mkF [.sc (.int .i64)] [.sc (.int .i64)] leatref22_near
theorem t_leatref22_near (N : Nat) : FCOK Try.prog N 46 c_leatref22_near := fun_ok facts (ok_leatref22_Within N) (by kernel_rfl) (by kernel_rfl) (q_leatref22_near N) (fun t => by kernel_rfl)
def o_leatref22_near : List (Nat × FC) := (46, c_leatref22_near) :: o_leatref22_Within
theorem ok_leatref22_near (N : Nat) : OrcOK Try.prog o_leatref22_near N := orc_cons (t_leatref22_near N) (ok_leatref22_Within N)
def p_leatref22_Wait_4 : List Pat := [.any, .ptr 0 0, .any, .sc (.int .i64), .sc (.int .i64), .any, .any, .any, .any, .any, .any, .any, .any, .any, .any, .any, .any, .any, .any, .any, .any, .any, .any, .any, .any, .any, .any]
def h_leatref22_Wait_4 : List HPat := [.cells [.sc (.int .i64), .sc (.int .i64), .sc (.int .i64), .sc (.int .i64)]]
def x_leatref22_Wait_4 : List XP := [⟨.exit 0, [.any, .ptr 0 0, .any, .sc (.int .i64), .any, .any, .any, .any, .any, .any, .any, .any, .any, .any, .any, .any, .any, .any, .any, .any, .any, .any, .any, .any, .any, .any, .any], [.cells [.sc (.int .i64), .sc (.int .i64), .sc (.int .i64), .sc (.int .i64)]]⟩]
def lc_leatref22_Wait_4 (N : Nat) : LC := mkLC p_leatref22_Wait_4 h_leatref22_Wait_4 x_leatref22_Wait_4 (leatref22_Wait_L4 N)
def s_leatref22_Wait (N : Nat) : List (Nat × LC) := [(4, lc_leatref22_Wait_4 N)]
noncomputable def e_leatref22_Wait (N : Nat) : Env := mkEnv Try.prog o_leatref22_near (s_leatref22_Wait N) N
theorem k_leatref22_Wait_4 (N : Nat) : LCOK (e_leatref22_Wait N) 12 (loopAt Try.prog 47 0) (lc_leatref22_Wait_4 N) := mkLC_ok (by kernel_rfl) (by kernel_rfl) (fun F x => by kernel_rfl)
theorem q_leatref22_Wait (N : Nat) : LoopsFor (e_leatref22_Wait N) Try.prog 47 1 := ⟨by kernel_rfl, fun j hj => match j, hj with
  | 0, _ => ⟨lc_leatref22_Wait_4 N, by kernel_rfl, k_leatref22_Wait_4 N⟩
  | _ + 1, h => absurd h (by omega)⟩
def c_leatref22_Wait : FC := mkF [.agg [.int .i64, .int .i64, .int .i64, .int .i64]] [.sc (.int .i64)] leatref22_Wait
theorem t_leatref22_Wait (N : Nat) : FCOK Try.prog N 47 c_leatref22_Wait := fun_ok facts (ok_leatref22_near N) (by kernel_rfl) (by kernel_rfl) (q_leatref22_Wait N) (fun t => by kernel_rfl)
def o_leatref22_Wait : List (Nat × FC) := (47, c_leatref22_Wait) :: o_leatref22_near
theorem ok_leatref22_Wait (N : Nat) : OrcOK Try.prog o_leatref22_Wait N := orc_cons (t_leatref22_Wait N) (ok_leatref22_near N)
def s_leatref22_Fire (_ : Nat) : List (Nat × LC) := []
noncomputable def e_leatref22_Fire (N : Nat) : Env := mkEnv Try.prog o_leatref22_Wait (s_leatref22_Fire N) N
theorem q_leatref22_Fire (N : Nat) : LoopsFor (e_leatref22_Fire N) Try.prog 15 0 := ⟨by kernel_rfl, fun j hj => match j, hj with
  | _ + 0, h => absurd h (by omega)⟩
def c_leatref22_Fire : FC := mkF [.agg [.int .i64, .int .i64, .int .i64, .int .i64], .sc (.int .i64)] [.agg [.int .i64, .int .i64, .int .i64, .int .i64], .sc (.bool)] leatref22_Fire
theorem t_leatref22_Fire (N : Nat) : FCOK Try.prog N 15 c_leatref22_Fire := fun_ok facts (ok_leatref22_Wait N) (by kernel_rfl) (by kernel_rfl) (q_leatref22_Fire N) (fun t => by kernel_rfl)
def o_leatref22_Fire : List (Nat × FC) := (15, c_leatref22_Fire) :: o_leatref22_Wait
theorem ok_leatref22_Fire (N : Nat) : OrcOK Try.prog o_leatref22_Fire N := orc_cons (t_leatref22_Fire N) (ok_leatref22_Wait N)
def s_leatlaw22_works (_ : Nat) : List (Nat × LC) := []
noncomputable def e_leatlaw22_works (N : Nat) : Env := mkEnv Try.prog o_leatref22_Fire (s_leatlaw22_works N) N
theorem q_leatlaw22_works (N : Nat) : LoopsFor (e_leatlaw22_works N) Try.prog 16 0 := ⟨by kernel_rfl, fun j hj => match j, hj with
  | _ + 0, h => absurd h (by omega)⟩
def c_leatlaw22_works : FC := mkF [] [.sc (.bool)] leatlaw22_works
theorem t_leatlaw22_works (N : Nat) : FCOK Try.prog N 16 c_leatlaw22_works := fun_ok facts (ok_leatref22_Fire N) (by kernel_rfl) (by kernel_rfl) (q_leatlaw22_works N) (fun t => by kernel_rfl)
def o_leatlaw22_works : List (Nat × FC) := (16, c_leatlaw22_works) :: o_leatref22_Fire
theorem ok_leatlaw22_works (N : Nat) : OrcOK Try.prog o_leatlaw22_works N := orc_cons (t_leatlaw22_works N) (ok_leatref22_Fire N)
def s_leatlaw22_TimerFires (_ : Nat) : List (Nat × LC) := []
noncomputable def e_leatlaw22_TimerFires (N : Nat) : Env := mkEnv Try.prog o_leatlaw22_works (s_leatlaw22_TimerFires N) N
theorem q_leatlaw22_TimerFires (N : Nat) : LoopsFor (e_leatlaw22_TimerFires N) Try.prog 3 0 := ⟨by kernel_rfl, fun j hj => match j, hj with
  | _ + 0, h => absurd h (by omega)⟩
theorem okL_leatlaw22_TimerFires (N : Nat) : OrcOK Try.prog o_leatlaw22_works N := ok_leatlaw22_works N
theorem w_leatlaw22_TimerFires (N : Nat) (x : RT [.agg [.int .i64, .int .i64, .int .i64, .int .i64], .sc (.int .i64)]) : uncR [.agg [.int .i64, .int .i64, .int .i64, .int .i64], .sc (.int .i64)] (leatlaw22_TimerFires N) x = evFn (e_leatlaw22_TimerFires N) 13 3 (encA 0 [.agg [.int .i64, .int .i64, .int .i64, .int .i64], .sc (.int .i64)] x).1 (encA 0 [.agg [.int .i64, .int .i64, .int .i64, .int .i64], .sc (.int .i64)] x).2 (decR [.sc .bool]) := by kernel_rfl
def s_timer_Off (_ : Nat) : List (Nat × LC) := []
noncomputable def e_timer_Off (N : Nat) : Env := mkEnv Try.prog o_leatlaw22_works (s_timer_Off N) N
theorem q_timer_Off (N : Nat) : LoopsFor (e_timer_Off N) Try.prog 19 0 := ⟨by kernel_rfl, fun j hj => match j, hj with
  | _ + 0, h => absurd h (by omega)⟩
def c_timer_Off : FC := mkF [.agg [.int .i64, .int .i64, .int .i64, .int .i64]] [.agg [.int .i64, .int .i64, .int .i64, .int .i64]] timer_Off
theorem t_timer_Off (N : Nat) : FCOK Try.prog N 19 c_timer_Off := fun_ok facts (ok_leatlaw22_works N) (by kernel_rfl) (by kernel_rfl) (q_timer_Off N) (fun t => by kernel_rfl)
def o_timer_Off : List (Nat × FC) := (19, c_timer_Off) :: o_leatlaw22_works
theorem ok_timer_Off (N : Nat) : OrcOK Try.prog o_timer_Off N := orc_cons (t_timer_Off N) (ok_leatlaw22_works N)
def p_leatlaw22_TimerBacks_3 : List Pat := [.any, .any, .any, .any, .any, .any, .any, .ptr 0 0, .any, .any, .any, .any, .any, .any, .any, .any, .any, .any, .any, .any, .any, .sc (.int .i64), .any, .any, .any, .any, .any, .any, .any, .any, .any, .any, .any, .any, .any, .any, .any, .any, .any, .any, .any, .any, .any, .any, .any, .any, .any, .any, .any, .any, .any, .any, .any, .any, .any, .any, .any, .any, .any, .any, .any, .any, .any, .any, .any, .any, .any, .any, .any, .any, .any, .any, .any, .any, .any, .any, .any, .any, .any, .any, .any, .any]
def h_leatlaw22_TimerBacks_3 : List HPat := [.cells [.sc (.int .i64), .sc (.int .i64), .sc (.int .i64), .sc (.int .i64)]]
def x_leatlaw22_TimerBacks_3 : List XP := [⟨.ret, [.any, .any, .any, .any, .any, .any, .sc (.bool), .any, .any, .any, .any, .any, .any, .any, .any, .any, .any, .any, .any, .any, .any, .any, .any, .any, .any, .any, .any, .any, .any, .any, .any, .any, .any, .any, .any, .any, .any, .any, .any, .any, .any, .any, .any, .any, .any, .any, .any, .any, .any, .any, .any, .any, .any, .any, .any, .any, .any, .any, .any, .any, .any, .any, .any, .any, .any, .any, .any, .any, .any, .any, .any, .any, .any, .any, .any, .any, .any, .any, .any, .any, .any, .any], []⟩, ⟨.exit 0, [.any, .any, .any, .any, .any, .any, .any, .ptr 0 0, .any, .any, .any, .any, .any, .any, .any, .any, .any, .any, .any, .any, .any, .any, .any, .any, .any, .any, .any, .any, .any, .any, .any, .any, .any, .any, .any, .any, .any, .any, .any, .any, .any, .any, .any, .any, .any, .any, .any, .any, .any, .any, .any, .any, .any, .any, .any, .any, .any, .any, .any, .any, .any, .any, .any, .any, .any, .any, .any, .any, .any, .any, .any, .any, .any, .any, .any, .any, .any, .any, .any, .any, .any, .any], [.cells [.sc (.int .i64), .sc (.int .i64), .sc (.int .i64), .sc (.int .i64)]]⟩]
def lc_leatlaw22_TimerBacks_3 (N : Nat) : LC := mkLC p_leatlaw22_TimerBacks_3 h_leatlaw22_TimerBacks_3 x_leatlaw22_TimerBacks_3 (leatlaw22_TimerBacks_L3 N)
def s_leatlaw22_TimerBacks (N : Nat) : List (Nat × LC) := [(3, lc_leatlaw22_TimerBacks_3 N)]
noncomputable def e_leatlaw22_TimerBacks (N : Nat) : Env := mkEnv Try.prog o_timer_Off (s_leatlaw22_TimerBacks N) N
theorem k_leatlaw22_TimerBacks_3 (N : Nat) : LCOK (e_leatlaw22_TimerBacks N) 12 (loopAt Try.prog 4 0) (lc_leatlaw22_TimerBacks_3 N) := mkLC_ok (by kernel_rfl) (by kernel_rfl) (fun F x => by kernel_rfl)
theorem q_leatlaw22_TimerBacks (N : Nat) : LoopsFor (e_leatlaw22_TimerBacks N) Try.prog 4 1 := ⟨by kernel_rfl, fun j hj => match j, hj with
  | 0, _ => ⟨lc_leatlaw22_TimerBacks_3 N, by kernel_rfl, k_leatlaw22_TimerBacks_3 N⟩
  | _ + 1, h => absurd h (by omega)⟩
theorem okL_leatlaw22_TimerBacks (N : Nat) : OrcOK Try.prog o_timer_Off N := ok_timer_Off N
theorem w_leatlaw22_TimerBacks (N : Nat) (x : RT [.sc (.int .i64), .sc (.int .i64), .sc (.int .u32)]) : uncR [.sc (.int .i64), .sc (.int .i64), .sc (.int .u32)] (leatlaw22_TimerBacks N) x = evFn (e_leatlaw22_TimerBacks N) 13 4 (encA 0 [.sc (.int .i64), .sc (.int .i64), .sc (.int .u32)] x).1 (encA 0 [.sc (.int .i64), .sc (.int .i64), .sc (.int .u32)] x).2 (decR [.sc .bool]) := by kernel_rfl
def s_turn_size (_ : Nat) : List (Nat × LC) := []
noncomputable def e_turn_size (N : Nat) : Env := mkEnv Try.prog o_timer_Off (s_turn_size N) N
theorem q_turn_size (N : Nat) : LoopsFor (e_turn_size N) Try.prog 48 0 := ⟨by kernel_rfl, fun j hj => match j, hj with
  | _ + 0, h => absurd h (by omega)⟩
def c_turn_size : FC := mkF [.sc (.int .i64)] [.sc (.int .i64)] turn_size
theorem t_turn_size (N : Nat) : FCOK Try.prog N 48 c_turn_size := fun_ok facts (ok_timer_Off N) (by kernel_rfl) (by kernel_rfl) (q_turn_size N) (fun t => by kernel_rfl)
def o_turn_size : List (Nat × FC) := (48, c_turn_size) :: o_timer_Off
theorem ok_turn_size (N : Nat) : OrcOK Try.prog o_turn_size N := orc_cons (t_turn_size N) (ok_timer_Off N)
def s_turn_owed (_ : Nat) : List (Nat × LC) := []
noncomputable def e_turn_owed (N : Nat) : Env := mkEnv Try.prog o_turn_size (s_turn_owed N) N
theorem q_turn_owed (N : Nat) : LoopsFor (e_turn_owed N) Try.prog 49 0 := ⟨by kernel_rfl, fun j hj => match j, hj with
  | _ + 0, h => absurd h (by omega)⟩
def c_turn_owed : FC := mkF [.agg [.int .i64]] [.sc (.int .i64)] turn_owed
theorem t_turn_owed (N : Nat) : FCOK Try.prog N 49 c_turn_owed := fun_ok facts (ok_turn_size N) (by kernel_rfl) (by kernel_rfl) (q_turn_owed N) (fun t => by kernel_rfl)
def o_turn_owed : List (Nat × FC) := (49, c_turn_owed) :: o_turn_size
theorem ok_turn_owed (N : Nat) : OrcOK Try.prog o_turn_owed N := orc_cons (t_turn_owed N) (ok_turn_size N)
def s_turn_Pick (_ : Nat) : List (Nat × LC) := []
noncomputable def e_turn_Pick (N : Nat) : Env := mkEnv Try.prog o_turn_owed (s_turn_Pick N) N
theorem q_turn_Pick (N : Nat) : LoopsFor (e_turn_Pick N) Try.prog 20 0 := ⟨by kernel_rfl, fun j hj => match j, hj with
  | _ + 0, h => absurd h (by omega)⟩
def c_turn_Pick : FC := mkF [.agg [.int .i64], .sc (.int .i64), .sc (.int .i64)] [.sc (.int .i64)] turn_Pick
theorem t_turn_Pick (N : Nat) : FCOK Try.prog N 20 c_turn_Pick := fun_ok facts (ok_turn_owed N) (by kernel_rfl) (by kernel_rfl) (q_turn_Pick N) (fun t => by kernel_rfl)
def o_turn_Pick : List (Nat × FC) := (20, c_turn_Pick) :: o_turn_owed
theorem ok_turn_Pick (N : Nat) : OrcOK Try.prog o_turn_Pick N := orc_cons (t_turn_Pick N) (ok_turn_owed N)
def s_leatref35_within (_ : Nat) : List (Nat × LC) := []
noncomputable def e_leatref35_within (N : Nat) : Env := mkEnv Try.prog o_turn_Pick (s_leatref35_within N) N
theorem q_leatref35_within (N : Nat) : LoopsFor (e_leatref35_within N) Try.prog 50 0 := ⟨by kernel_rfl, fun j hj => match j, hj with
  | _ + 0, h => absurd h (by omega)⟩
def c_leatref35_within : FC := mkF [.sc (.int .i64), .sc (.int .i64)] [.sc (.int .i64)] leatref35_within
theorem t_leatref35_within (N : Nat) : FCOK Try.prog N 50 c_leatref35_within := fun_ok facts (ok_turn_Pick N) (by kernel_rfl) (by kernel_rfl) (q_leatref35_within N) (fun t => by kernel_rfl)
def o_leatref35_within : List (Nat × FC) := (50, c_leatref35_within) :: o_turn_Pick
theorem ok_leatref35_within (N : Nat) : OrcOK Try.prog o_leatref35_within N := orc_cons (t_leatref35_within N) (ok_turn_Pick N)
def s_leatref35_Pick (_ : Nat) : List (Nat × LC) := []
noncomputable def e_leatref35_Pick (N : Nat) : Env := mkEnv Try.prog o_leatref35_within (s_leatref35_Pick N) N
theorem q_leatref35_Pick (N : Nat) : LoopsFor (e_leatref35_Pick N) Try.prog 21 0 := ⟨by kernel_rfl, fun j hj => match j, hj with
  | _ + 0, h => absurd h (by omega)⟩
def c_leatref35_Pick : FC := mkF [.agg [.int .i64], .sc (.int .i64), .sc (.int .i64)] [.sc (.int .i64)] leatref35_Pick
theorem t_leatref35_Pick (N : Nat) : FCOK Try.prog N 21 c_leatref35_Pick := fun_ok facts (ok_leatref35_within N) (by kernel_rfl) (by kernel_rfl) (q_leatref35_Pick N) (fun t => by kernel_rfl)
def o_leatref35_Pick : List (Nat × FC) := (21, c_leatref35_Pick) :: o_leatref35_within
theorem ok_leatref35_Pick (N : Nat) : OrcOK Try.prog o_leatref35_Pick N := orc_cons (t_leatref35_Pick N) (ok_leatref35_within N)
def s_turn_Serve (_ : Nat) : List (Nat × LC) := []
noncomputable def e_turn_Serve (N : Nat) : Env := mkEnv Try.prog o_leatref35_Pick (s_turn_Serve N) N
theorem q_turn_Serve (N : Nat) : LoopsFor (e_turn_Serve N) Try.prog 22 0 := ⟨by kernel_rfl, fun j hj => match j, hj with
  | _ + 0, h => absurd h (by omega)⟩
def c_turn_Serve : FC := mkF [.agg [.int .i64], .sc (.int .i64), .sc (.int .i64), .sc (.bool)] [.agg [.int .i64]] turn_Serve
theorem t_turn_Serve (N : Nat) : FCOK Try.prog N 22 c_turn_Serve := fun_ok facts (ok_leatref35_Pick N) (by kernel_rfl) (by kernel_rfl) (q_turn_Serve N) (fun t => by kernel_rfl)
def o_turn_Serve : List (Nat × FC) := (22, c_turn_Serve) :: o_leatref35_Pick
theorem ok_turn_Serve (N : Nat) : OrcOK Try.prog o_turn_Serve N := orc_cons (t_turn_Serve N) (ok_leatref35_Pick N)
def s_leatref35_Serve (_ : Nat) : List (Nat × LC) := []
noncomputable def e_leatref35_Serve (N : Nat) : Env := mkEnv Try.prog o_turn_Serve (s_leatref35_Serve N) N
theorem q_leatref35_Serve (N : Nat) : LoopsFor (e_leatref35_Serve N) Try.prog 23 0 := ⟨by kernel_rfl, fun j hj => match j, hj with
  | _ + 0, h => absurd h (by omega)⟩
def c_leatref35_Serve : FC := mkF [.agg [.int .i64], .sc (.int .i64), .sc (.int .i64), .sc (.bool)] [.agg [.int .i64]] leatref35_Serve
theorem t_leatref35_Serve (N : Nat) : FCOK Try.prog N 23 c_leatref35_Serve := fun_ok facts (ok_turn_Serve N) (by kernel_rfl) (by kernel_rfl) (q_leatref35_Serve N) (fun t => by kernel_rfl)
def o_leatref35_Serve : List (Nat × FC) := (23, c_leatref35_Serve) :: o_turn_Serve
theorem ok_leatref35_Serve (N : Nat) : OrcOK Try.prog o_leatref35_Serve N := orc_cons (t_leatref35_Serve N) (ok_turn_Serve N)
def p_leatlaw35_works_3 : List Pat := [.any, .ptr 0 0, .any, .sc (.int .i64), .any, .any, .any, .any, .any, .any, .any, .any, .any, .any, .any, .any, .any, .any, .any, .any]
def h_leatlaw35_works_3 : List HPat := [.cells [.sc (.int .i64)]]
def x_leatlaw35_works_3 : List XP := [⟨.ret, [.sc (.bool), .any, .any, .any, .any, .any, .any, .any, .any, .any, .any, .any, .any, .any, .any, .any, .any, .any, .any, .any], []⟩, ⟨.exit 0, [.any, .ptr 0 0, .any, .any, .any, .any, .any, .any, .any, .any, .any, .any, .any, .any, .any, .any, .any, .any, .any, .any], [.cells [.sc (.int .i64)]]⟩]
def lc_leatlaw35_works_3 (N : Nat) : LC := mkLC p_leatlaw35_works_3 h_leatlaw35_works_3 x_leatlaw35_works_3 (leatlaw35_works_L3 N)
def s_leatlaw35_works (N : Nat) : List (Nat × LC) := [(3, lc_leatlaw35_works_3 N)]
noncomputable def e_leatlaw35_works (N : Nat) : Env := mkEnv Try.prog o_leatref35_Serve (s_leatlaw35_works N) N
theorem k_leatlaw35_works_3 (N : Nat) : LCOK (e_leatlaw35_works N) 12 (loopAt Try.prog 24 0) (lc_leatlaw35_works_3 N) := mkLC_ok (by kernel_rfl) (by kernel_rfl) (fun F x => by kernel_rfl)
theorem q_leatlaw35_works (N : Nat) : LoopsFor (e_leatlaw35_works N) Try.prog 24 1 := ⟨by kernel_rfl, fun j hj => match j, hj with
  | 0, _ => ⟨lc_leatlaw35_works_3 N, by kernel_rfl, k_leatlaw35_works_3 N⟩
  | _ + 1, h => absurd h (by omega)⟩
def c_leatlaw35_works : FC := mkF [] [.sc (.bool)] leatlaw35_works
theorem t_leatlaw35_works (N : Nat) : FCOK Try.prog N 24 c_leatlaw35_works := fun_ok facts (ok_leatref35_Serve N) (by kernel_rfl) (by kernel_rfl) (q_leatlaw35_works N) (fun t => by kernel_rfl)
def o_leatlaw35_works : List (Nat × FC) := (24, c_leatlaw35_works) :: o_leatref35_Serve
theorem ok_leatlaw35_works (N : Nat) : OrcOK Try.prog o_leatlaw35_works N := orc_cons (t_leatlaw35_works N) (ok_leatref35_Serve N)
def s_leatlaw35_TurnPicks (_ : Nat) : List (Nat × LC) := []
noncomputable def e_leatlaw35_TurnPicks (N : Nat) : Env := mkEnv Try.prog o_leatlaw35_works (s_leatlaw35_TurnPicks N) N
theorem q_leatlaw35_TurnPicks (N : Nat) : LoopsFor (e_leatlaw35_TurnPicks N) Try.prog 5 0 := ⟨by kernel_rfl, fun j hj => match j, hj with
  | _ + 0, h => absurd h (by omega)⟩
theorem okL_leatlaw35_TurnPicks (N : Nat) : OrcOK Try.prog o_leatlaw35_works N := ok_leatlaw35_works N
theorem w_leatlaw35_TurnPicks (N : Nat) (x : RT [.agg [.int .i64], .agg [.int .i64, .int .i64, .int .i64], .sc (.bool)]) : uncR [.agg [.int .i64], .agg [.int .i64, .int .i64, .int .i64], .sc (.bool)] (leatlaw35_TurnPicks N) x = evFn (e_leatlaw35_TurnPicks N) 13 5 (encA 0 [.agg [.int .i64], .agg [.int .i64, .int .i64, .int .i64], .sc (.bool)] x).1 (encA 0 [.agg [.int .i64], .agg [.int .i64, .int .i64, .int .i64], .sc (.bool)] x).2 (decR [.sc .bool]) := by kernel_rfl
def p_leatlaw35_TurnShares_5 : List Pat := [.sl 0, .sl 1, .any, .any, .any, .ptr 2 0, .sl 3, .sl 4, .sc (.int .i64), .sc (.int .i64), .any, .any, .any, .any, .any, .any, .any, .any, .any, .any, .any, .any, .any, .any, .any, .any, .any, .any, .any, .any, .any, .any, .any, .any, .any, .any, .any, .any, .any, .any, .any, .any, .any, .any, .any, .any, .any, .any, .any, .any, .any, .any, .any, .any, .any, .any, .any, .any, .any, .any, .any, .any, .any, .any, .any, .any, .any, .any, .any, .any, .any, .any, .any, .any, .any, .any, .any, .any, .any, .any, .any, .any, .any, .any, .any, .any, .any, .any, .any, .any, .any, .any, .any, .any, .any, .any, .any, .any, .any, .any, .any, .any, .any, .any, .any, .any, .any, .any, .any, .any, .any, .any, .any, .any, .any, .any, .any, .any, .any, .any]
def h_leatlaw35_TurnShares_5 : List HPat := [.ext 43 [.int .u16, .int .u16], .ext 42 [.int .u16], .cells [.sc (.int .i64)], .rows 2 [.int .i64], .rows 2 [.int .i64]]
def x_leatlaw35_TurnShares_5 : List XP := [⟨.ret, [.any, .any, .any, .any, .sc (.bool), .any, .any, .any, .any, .any, .any, .any, .any, .any, .any, .any, .any, .any, .any, .any, .any, .any, .any, .any, .any, .any, .any, .any, .any, .any, .any, .any, .any, .any, .any, .any, .any, .any, .any, .any, .any, .any, .any, .any, .any, .any, .any, .any, .any, .any, .any, .any, .any, .any, .any, .any, .any, .any, .any, .any, .any, .any, .any, .any, .any, .any, .any, .any, .any, .any, .any, .any, .any, .any, .any, .any, .any, .any, .any, .any, .any, .any, .any, .any, .any, .any, .any, .any, .any, .any, .any, .any, .any, .any, .any, .any, .any, .any, .any, .any, .any, .any, .any, .any, .any, .any, .any, .any, .any, .any, .any, .any, .any, .any, .any, .any, .any, .any, .any, .any], []⟩, ⟨.exit 0, [.any, .any, .any, .any, .any, .any, .sl 0, .sl 1, .any, .any, .any, .any, .any, .any, .any, .any, .any, .any, .any, .any, .any, .any, .any, .any, .any, .any, .any, .any, .any, .any, .any, .any, .any, .any, .any, .any, .any, .any, .any, .any, .any, .any, .any, .any, .any, .any, .any, .any, .any, .any, .any, .any, .any, .any, .any, .any, .any, .any, .any, .any, .any, .any, .any, .any, .any, .any, .any, .any, .any, .any, .any, .any, .any, .any, .any, .any, .any, .any, .any, .any, .any, .any, .any, .any, .any, .any, .any, .any, .any, .any, .any, .any, .any, .any, .any, .any, .any, .any, .any, .any, .any, .any, .any, .any, .any, .any, .any, .any, .any, .any, .any, .any, .any, .any, .any, .any, .any, .any, .any, .any], [.rows 2 [.int .i64], .rows 2 [.int .i64]]⟩]
def lc_leatlaw35_TurnShares_5 (N : Nat) : LC := mkLC p_leatlaw35_TurnShares_5 h_leatlaw35_TurnShares_5 x_leatlaw35_TurnShares_5 (leatlaw35_TurnShares_L5 N)
def p_leatlaw35_TurnShares_28 : List Pat := [.any, .any, .any, .any, .any, .any, .sl 0, .sl 1, .any, .any, .any, .any, .any, .any, .sc (.int .i64), .sc (.int .i64), .sc (.int .i64), .any, .any, .any, .any, .any, .any, .any, .any, .any, .any, .any, .any, .any, .any, .any, .any, .any, .any, .any, .any, .any, .any, .any, .any, .any, .any, .any, .any, .any, .any, .any, .any, .any, .any, .any, .any, .any, .any, .any, .any, .any, .any, .any, .any, .any, .any, .any, .any, .any, .any, .any, .any, .any, .any, .any, .any, .any, .any, .any, .any, .any, .any, .any, .any, .any, .any, .any, .any, .any, .any, .any, .sc (.int .i64), .sc (.int .i64), .any, .any, .any, .any, .any, .any, .any, .any, .any, .any, .any, .any, .any, .any, .any, .any, .any, .any, .any, .any, .any, .any, .any, .any, .any, .any, .any, .any, .any, .any]
def h_leatlaw35_TurnShares_28 : List HPat := [.rows 2 [.int .i64], .rows 2 [.int .i64]]
def x_leatlaw35_TurnShares_28 : List XP := [⟨.ret, [.any, .any, .any, .any, .sc (.bool), .any, .any, .any, .any, .any, .any, .any, .any, .any, .any, .any, .any, .any, .any, .any, .any, .any, .any, .any, .any, .any, .any, .any, .any, .any, .any, .any, .any, .any, .any, .any, .any, .any, .any, .any, .any, .any, .any, .any, .any, .any, .any, .any, .any, .any, .any, .any, .any, .any, .any, .any, .any, .any, .any, .any, .any, .any, .any, .any, .any, .any, .any, .any, .any, .any, .any, .any, .any, .any, .any, .any, .any, .any, .any, .any, .any, .any, .any, .any, .any, .any, .any, .any, .any, .any, .any, .any, .any, .any, .any, .any, .any, .any, .any, .any, .any, .any, .any, .any, .any, .any, .any, .any, .any, .any, .any, .any, .any, .any, .any, .any, .any, .any, .any, .any], []⟩, ⟨.exit 5, [.any, .any, .any, .any, .any, .any, .sl 0, .sl 1, .any, .any, .any, .any, .any, .any, .any, .any, .any, .any, .any, .any, .any, .any, .any, .any, .any, .any, .any, .any, .any, .any, .any, .any, .any, .any, .any, .any, .any, .any, .any, .any, .any, .any, .any, .any, .any, .any, .any, .any, .any, .any, .any, .any, .any, .any, .any, .any, .any, .any, .any, .any, .any, .any, .any, .any, .any, .any, .any, .any, .any, .any, .any, .any, .any, .any, .any, .any, .any, .any, .any, .any, .any, .any, .any, .any, .any, .any, .any, .any, .sc (.int .i64), .sc (.int .i64), .any, .any, .any, .any, .any, .any, .any, .any, .any, .any, .any, .any, .any, .any, .any, .any, .any, .any, .any, .any, .any, .any, .any, .any, .any, .any, .any, .any, .any, .any], [.rows 2 [.int .i64], .rows 2 [.int .i64]]⟩]
def lc_leatlaw35_TurnShares_28 (N : Nat) : LC := mkLC p_leatlaw35_TurnShares_28 h_leatlaw35_TurnShares_28 x_leatlaw35_TurnShares_28 (leatlaw35_TurnShares_L28 N)
def p_leatlaw35_TurnShares_24 : List Pat := [.any, .any, .any, .any, .any, .any, .sl 0, .sl 1, .any, .any, .any, .any, .any, .any, .any, .any, .any, .any, .any, .any, .any, .any, .any, .any, .any, .any, .any, .any, .any, .any, .any, .any, .any, .any, .any, .any, .any, .any, .any, .any, .any, .any, .any, .any, .any, .any, .any, .any, .any, .any, .any, .any, .any, .any, .any, .any, .any, .any, .any, .any, .any, .any, .any, .any, .any, .any, .any, .any, .any, .any, .any, .any, .any, .any, .any, .any, .any, .any, .any, .any, .any, .any, .any, .any, .any, .any, .any, .any, .sc (.int .i64), .sc (.int .i64), .any, .any, .any, .any, .any, .any, .any, .any, .any, .any, .any, .any, .any, .any, .any, .any, .any, .any, .any, .any, .any, .any, .any, .any, .any, .any, .any, .any, .any, .any]
def h_leatlaw35_TurnShares_24 : List HPat := [.rows 2 [.int .i64], .rows 2 [.int .i64]]
def x_leatlaw35_TurnShares_24 : List XP := [⟨.ret, [.any, .any, .any, .any, .sc (.bool), .any, .any, .any, .any, .any, .any, .any, .any, .any, .any, .any, .any, .any, .any, .any, .any, .any, .any, .any, .any, .any, .any, .any, .any, .any, .any, .any, .any, .any, .any, .any, .any, .any, .any, .any, .any, .any, .any, .any, .any, .any, .any, .any, .any, .any, .any, .any, .any, .any, .any, .any, .any, .any, .any, .any, .any, .any, .any, .any, .any, .any, .any, .any, .any, .any, .any, .any, .any, .any, .any, .any, .any, .any, .any, .any, .any, .any, .any, .any, .any, .any, .any, .any, .any, .any, .any, .any, .any, .any, .any, .any, .any, .any, .any, .any, .any, .any, .any, .any, .any, .any, .any, .any, .any, .any, .any, .any, .any, .any, .any, .any, .any, .any, .any, .any], []⟩, ⟨.exit 3, [.any, .any, .any, .any, .any, .any, .any, .any, .any, .any, .any, .any, .any, .any, .any, .any, .any, .any, .any, .any, .any, .any, .any, .any, .any, .any, .any, .any, .any, .any, .any, .any, .any, .any, .any, .any, .any, .any, .any, .any, .any, .any, .any, .any, .any, .any, .any, .any, .any, .any, .any, .any, .any, .any, .any, .any, .any, .any, .any, .any, .any, .any, .any, .any, .any, .any, .any, .any, .any, .any, .any, .any, .any, .any, .any, .any, .any, .any, .any, .any, .any, .any, .any, .any, .any, .any, .any, .any, .any, .any, .any, .any, .any, .any, .any, .any, .any, .any, .any, .any, .any, .any, .any, .any, .any, .any, .any, .any, .any, .any, .any, .any, .any, .any, .any, .any, .any, .any, .any, .any], []⟩]
def lc_leatlaw35_TurnShares_24 (N : Nat) : LC := mkLC p_leatlaw35_TurnShares_24 h_leatlaw35_TurnShares_24 x_leatlaw35_TurnShares_24 (leatlaw35_TurnShares_L24 N)
def s_leatlaw35_TurnShares (N : Nat) : List (Nat × LC) := [(5, lc_leatlaw35_TurnShares_5 N), (28, lc_leatlaw35_TurnShares_28 N), (24, lc_leatlaw35_TurnShares_24 N)]
noncomputable def e_leatlaw35_TurnShares (N : Nat) : Env := mkEnv Try.prog o_leatlaw35_works (s_leatlaw35_TurnShares N) N
theorem k_leatlaw35_TurnShares_5 (N : Nat) : LCOK (e_leatlaw35_TurnShares N) 12 (loopAt Try.prog 6 0) (lc_leatlaw35_TurnShares_5 N) := mkLC_ok (by kernel_rfl) (by kernel_rfl) (fun F x => by kernel_rfl)
theorem k_leatlaw35_TurnShares_28 (N : Nat) : LCOK (e_leatlaw35_TurnShares N) 12 (loopAt Try.prog 6 2) (lc_leatlaw35_TurnShares_28 N) := mkLC_ok (by kernel_rfl) (by kernel_rfl) (fun F x => by kernel_rfl)
theorem k_leatlaw35_TurnShares_24 (N : Nat) : LCOK (e_leatlaw35_TurnShares N) 12 (loopAt Try.prog 6 1) (lc_leatlaw35_TurnShares_24 N) := mkLC_ok (by kernel_rfl) (by kernel_rfl) (fun F x => by kernel_rfl)
theorem q_leatlaw35_TurnShares (N : Nat) : LoopsFor (e_leatlaw35_TurnShares N) Try.prog 6 3 := ⟨by kernel_rfl, fun j hj => match j, hj with
  | 0, _ => ⟨lc_leatlaw35_TurnShares_5 N, by kernel_rfl, k_leatlaw35_TurnShares_5 N⟩
  | 1, _ => ⟨lc_leatlaw35_TurnShares_24 N, by kernel_rfl, k_leatlaw35_TurnShares_24 N⟩
  | 2, _ => ⟨lc_leatlaw35_TurnShares_28 N, by kernel_rfl, k_leatlaw35_TurnShares_28 N⟩
  | _ + 3, h => absurd h (by omega)⟩
theorem okL_leatlaw35_TurnShares (N : Nat) : OrcOK Try.prog o_leatlaw35_works N := ok_leatlaw35_works N
theorem w_leatlaw35_TurnShares (N : Nat) (x : RT [.row 43 [.int .u16, .int .u16], .row 42 [.int .u16]]) : uncR [.row 43 [.int .u16, .int .u16], .row 42 [.int .u16]] (leatlaw35_TurnShares N) x = evFn (e_leatlaw35_TurnShares N) 13 6 (encA 0 [.row 43 [.int .u16, .int .u16], .row 42 [.int .u16]] x).1 (encA 0 [.row 43 [.int .u16, .int .u16], .row 42 [.int .u16]] x).2 (decR [.sc .bool]) := by kernel_rfl
def s_step_Ramp_1 (_ : Nat) : List (Nat × LC) := []
noncomputable def e_step_Ramp_1 (N : Nat) : Env := mkEnv Try.prog o_leatlaw35_works (s_step_Ramp_1 N) N
theorem q_step_Ramp_1 (N : Nat) : LoopsFor (e_step_Ramp_1 N) Try.prog 51 0 := ⟨by kernel_rfl, fun j hj => match j, hj with
  | _ + 0, h => absurd h (by omega)⟩
def c_step_Ramp_1 : FC := mkF [.sc (.int .i64)] [.sc (.int .i64)] step_Ramp_1
theorem t_step_Ramp_1 (N : Nat) : FCOK Try.prog N 51 c_step_Ramp_1 := fun_ok facts (ok_leatlaw35_works N) (by kernel_rfl) (by kernel_rfl) (q_step_Ramp_1 N) (fun t => by kernel_rfl)
def o_step_Ramp_1 : List (Nat × FC) := (51, c_step_Ramp_1) :: o_leatlaw35_works
theorem ok_step_Ramp_1 (N : Nat) : OrcOK Try.prog o_step_Ramp_1 N := orc_cons (t_step_Ramp_1 N) (ok_leatlaw35_works N)
def s_bits_Mul64 (_ : Nat) : List (Nat × LC) := []
noncomputable def e_bits_Mul64 (N : Nat) : Env := mkEnv Try.prog o_step_Ramp_1 (s_bits_Mul64 N) N
theorem q_bits_Mul64 (N : Nat) : LoopsFor (e_bits_Mul64 N) Try.prog 80 0 := ⟨by kernel_rfl, fun j hj => match j, hj with
  | _ + 0, h => absurd h (by omega)⟩
def c_bits_Mul64 : FC := mkF [.sc (.int .u64), .sc (.int .u64)] [.sc (.int .u64), .sc (.int .u64)] bits_Mul64
theorem t_bits_Mul64 (N : Nat) : FCOK Try.prog N 80 c_bits_Mul64 := fun_ok facts (ok_step_Ramp_1 N) (by kernel_rfl) (by kernel_rfl) (q_bits_Mul64 N) (fun t => by kernel_rfl)
def o_bits_Mul64 : List (Nat × FC) := (80, c_bits_Mul64) :: o_step_Ramp_1
theorem ok_bits_Mul64 (N : Nat) : OrcOK Try.prog o_bits_Mul64 N := orc_cons (t_bits_Mul64 N) (ok_step_Ramp_1 N)
def s_wide_Mul (_ : Nat) : List (Nat × LC) := []
noncomputable def e_wide_Mul (N : Nat) : Env := mkEnv Try.prog o_bits_Mul64 (s_wide_Mul N) N
theorem q_wide_Mul (N : Nat) : LoopsFor (e_wide_Mul N) Try.prog 75 0 := ⟨by kernel_rfl, fun j hj => match j, hj with
  | _ + 0, h => absurd h (by omega)⟩
def c_wide_Mul : FC := mkF [.sc (.int .u64), .sc (.int .u64)] [.agg [.int .u64, .int .u64]] wide_Mul
theorem t_wide_Mul (N : Nat) : FCOK Try.prog N 75 c_wide_Mul := fun_ok facts (ok_bits_Mul64 N) (by kernel_rfl) (by kernel_rfl) (q_wide_Mul N) (fun t => by kernel_rfl)
def o_wide_Mul : List (Nat × FC) := (75, c_wide_Mul) :: o_bits_Mul64
theorem ok_wide_Mul (N : Nat) : OrcOK Try.prog o_wide_Mul N := orc_cons (t_wide_Mul N) (ok_bits_Mul64 N)
def s_bits_Len64 (_ : Nat) : List (Nat × LC) := []
noncomputable def e_bits_Len64 (N : Nat) : Env := mkEnv Try.prog o_wide_Mul (s_bits_Len64 N) N
theorem q_bits_Len64 (N : Nat) : LoopsFor (e_bits_Len64 N) Try.prog 92 0 := ⟨by kernel_rfl, fun j hj => match j, hj with
  | _ + 0, h => absurd h (by omega)⟩
def c_bits_Len64 : FC := mkF [.sc (.int .u64)] [.sc (.int .i64)] bits_Len64
theorem t_bits_Len64 (N : Nat) : FCOK Try.prog N 92 c_bits_Len64 := fun_ok facts (ok_wide_Mul N) (by kernel_rfl) (by kernel_rfl) (q_bits_Len64 N) (fun t => by kernel_rfl)
def o_bits_Len64 : List (Nat × FC) := (92, c_bits_Len64) :: o_wide_Mul
theorem ok_bits_Len64 (N : Nat) : OrcOK Try.prog o_bits_Len64 N := orc_cons (t_bits_Len64 N) (ok_wide_Mul N)
def s_bits_LeadingZeros64 (_ : Nat) : List (Nat × LC) := []
noncomputable def e_bits_LeadingZeros64 (N : Nat) : Env := mkEnv Try.prog o_bits_Len64 (s_bits_LeadingZeros64 N) N
theorem q_bits_LeadingZeros64 (N : Nat) : LoopsFor (e_bits_LeadingZeros64 N) Try.prog 89 0 := ⟨by kernel_rfl, fun j hj => match j, hj with
  | _ + 0, h => absurd h (by omega)⟩
def c_bits_LeadingZeros64 : FC := mkF [.sc (.int .u64)] [.sc (.int .i64)] bits_LeadingZeros64
theorem t_bits_LeadingZeros64 (N : Nat) : FCOK Try.prog N 89 c_bits_LeadingZeros64 := fun_ok facts (ok_bits_Len64 N) (by kernel_rfl) (by kernel_rfl) (q_bits_LeadingZeros64 N) (fun t => by kernel_rfl)
def o_bits_LeadingZeros64 : List (Nat × FC) := (89, c_bits_LeadingZeros64) :: o_bits_Len64
theorem ok_bits_LeadingZeros64 (N : Nat) : OrcOK Try.prog o_bits_LeadingZeros64 N := orc_cons (t_bits_LeadingZeros64 N) (ok_bits_Len64 N)
def p_bits_Div64_17 : List Pat := [.any, .any, .sc (.int .u64), .any, .any, .any, .any, .any, .sc (.int .u64), .sc (.int .u64), .sc (.int .u64), .sc (.int .u64), .any, .sc (.int .u64), .sc (.int .u64), .sc (.int .u64), .sc (.int .u64), .any, .any, .any, .any, .any, .any, .any, .any, .any, .any, .any, .any, .any, .any, .any, .any, .any, .any, .any, .any, .any, .any, .any, .any, .any, .any, .any, .any, .any, .any, .any, .any, .any, .any, .any, .any, .any, .any, .any, .any, .any, .any, .any, .any, .any, .any, .any, .any, .any, .any, .any, .any, .any, .any, .any, .any, .any, .any, .any, .any, .any, .any, .any, .any, .any, .any, .any, .any, .any, .any, .any, .any, .any, .any, .any, .any, .any, .any, .any, .any, .any, .any, .any, .any, .any, .any, .any, .any, .any, .any, .any, .any, .any, .any, .any, .any, .any, .any, .any, .any, .any, .any, .any, .any, .any, .any, .any, .any, .any, .any, .any, .any, .any, .any, .any, .any, .any, .any]
def h_bits_Div64_17 : List HPat := []
def x_bits_Div64_17 : List XP := [⟨.exit 0, [.any, .any, .sc (.int .u64), .any, .any, .any, .any, .any, .sc (.int .u64), .sc (.int .u64), .sc (.int .u64), .sc (.int .u64), .any, .sc (.int .u64), .sc (.int .u64), .sc (.int .u64), .any, .any, .any, .any, .any, .any, .any, .any, .any, .any, .any, .any, .any, .any, .any, .any, .any, .any, .any, .any, .any, .any, .any, .any, .any, .any, .any, .any, .any, .any, .any, .any, .any, .any, .any, .any, .any, .any, .any, .any, .any, .any, .any, .any, .any, .any, .any, .any, .any, .any, .any, .any, .any, .any, .any, .any, .any, .any, .any, .any, .any, .any, .any, .any, .any, .any, .any, .any, .any, .any, .any, .any, .any, .any, .any, .any, .any, .any, .any, .any, .any, .any, .any, .any, .any, .any, .any, .any, .any, .any, .any, .any, .any, .any, .any, .any, .any, .any, .any, .any, .any, .any, .any, .any, .any, .any, .any, .any, .any, .any, .any, .any, .any, .any, .any, .any, .any, .any, .any], []⟩]
def lc_bits_Div64_17 (N : Nat) : LC := mkLC p_bits_Div64_17 h_bits_Div64_17 x_bits_Div64_17 (bits_Div64_L17 N)
def p_bits_Div64_24 : List Pat := [.any, .any, .sc (.int .u64), .any, .any, .any, .any, .any, .sc (.int .u64), .sc (.int .u64), .sc (.int .u64), .any, .any, .any, .sc (.int .u64), .sc (.int .u64), .sc (.int .u64), .sc (.int .u64), .sc (.int .u64), .any, .any, .any, .any, .any, .any, .any, .any, .any, .any, .any, .any, .any, .any, .any, .any, .any, .any, .any, .any, .any, .any, .any, .any, .any, .any, .any, .any, .any, .any, .any, .any, .any, .any, .any, .any, .any, .any, .any, .any, .any, .any, .any, .any, .any, .any, .any, .any, .any, .any, .any, .any, .any, .any, .any, .any, .any, .any, .any, .any, .any, .any, .any, .any, .any, .any, .any, .any, .any, .any, .any, .any, .any, .any, .any, .any, .any, .any, .any, .any, .any, .any, .any, .any, .any, .any, .any, .any, .any, .any, .any, .any, .any, .any, .any, .any, .any, .any, .any, .any, .any, .any, .any, .any, .any, .any, .any, .any, .any, .any, .any, .any, .any, .any, .any, .any]
def h_bits_Div64_24 : List HPat := []
def x_bits_Div64_24 : List XP := [⟨.exit 2, [.any, .any, .sc (.int .u64), .any, .any, .any, .any, .any, .sc (.int .u64), .any, .any, .any, .any, .any, .sc (.int .u64), .sc (.int .u64), .any, .sc (.int .u64), .sc (.int .u64), .any, .any, .any, .any, .any, .any, .any, .any, .any, .any, .any, .any, .any, .any, .any, .any, .any, .any, .any, .any, .any, .any, .any, .any, .any, .any, .any, .any, .any, .any, .any, .any, .any, .any, .any, .any, .any, .any, .any, .any, .any, .any, .any, .any, .any, .any, .any, .any, .any, .any, .any, .any, .any, .any, .any, .any, .any, .any, .any, .any, .any, .any, .any, .any, .any, .any, .any, .any, .any, .any, .any, .any, .any, .any, .any, .any, .any, .any, .any, .any, .any, .any, .any, .any, .any, .any, .any, .any, .any, .any, .any, .any, .any, .any, .any, .any, .any, .any, .any, .any, .any, .any, .any, .any, .any, .any, .any, .any, .any, .any, .any, .any, .any, .any, .any, .any], []⟩]
def lc_bits_Div64_24 (N : Nat) : LC := mkLC p_bits_Div64_24 h_bits_Div64_24 x_bits_Div64_24 (bits_Div64_L24 N)
def s_bits_Div64 (N : Nat) : List (Nat × LC) := [(17, lc_bits_Div64_17 N), (24, lc_bits_Div64_24 N)]
noncomputable def e_bits_Div64 (N : Nat) : Env := mkEnv Try.prog o_bits_LeadingZeros64 (s_bits_Div64 N) N
theorem k_bits_Div64_17 (N : Nat) : LCOK (e_bits_Div64 N) 12 (loopAt Try.prog 79 0) (lc_bits_Div64_17 N) := mkLC_ok (by kernel_rfl) (by kernel_rfl) (fun F x => by kernel_rfl)
theorem k_bits_Div64_24 (N : Nat) : LCOK (e_bits_Div64 N) 12 (loopAt Try.prog 79 1) (lc_bits_Div64_24 N) := mkLC_ok (by kernel_rfl) (by kernel_rfl) (fun F x => by kernel_rfl)
theorem q_bits_Div64 (N : Nat) : LoopsFor (e_bits_Div64 N) Try.prog 79 2 := ⟨by kernel_rfl, fun j hj => match j, hj with
  | 0, _ => ⟨lc_bits_Div64_17 N, by kernel_rfl, k_bits_Div64_17 N⟩
  | 1, _ => ⟨lc_bits_Div64_24 N, by kernel_rfl, k_bits_Div64_24 N⟩
  | _ + 2, h => absurd h (by omega)⟩
def c_bits_Div64 : FC := mkF [.sc (.int .u64), .sc (.int .u64), .sc (.int .u64)] [.sc (.int .u64), .sc (.int .u64)] bits_Div64
theorem t_bits_Div64 (N : Nat) : FCOK Try.prog N 79 c_bits_Div64 := fun_ok facts (ok_bits_LeadingZeros64 N) (by kernel_rfl) (by kernel_rfl) (q_bits_Div64 N) (fun t => by kernel_rfl)
def o_bits_Div64 : List (Nat × FC) := (79, c_bits_Div64) :: o_bits_LeadingZeros64
theorem ok_bits_Div64 (N : Nat) : OrcOK Try.prog o_bits_Div64 N := orc_cons (t_bits_Div64 N) (ok_bits_LeadingZeros64 N)
def s_wide_Div (_ : Nat) : List (Nat × LC) := []
noncomputable def e_wide_Div (N : Nat) : Env := mkEnv Try.prog o_bits_Div64 (s_wide_Div N) N
theorem q_wide_Div (N : Nat) : LoopsFor (e_wide_Div N) Try.prog 74 0 := ⟨by kernel_rfl, fun j hj => match j, hj with
  | _ + 0, h => absurd h (by omega)⟩
def c_wide_Div : FC := mkF [.agg [.int .u64, .int .u64], .sc (.int .u64)] [.agg [.int .u64, .int .u64], .sc (.int .u64)] wide_Div
theorem t_wide_Div (N : Nat) : FCOK Try.prog N 74 c_wide_Div := fun_ok facts (ok_bits_Div64 N) (by kernel_rfl) (by kernel_rfl) (q_wide_Div N) (fun t => by kernel_rfl)
def o_wide_Div : List (Nat × FC) := (74, c_wide_Div) :: o_bits_Div64
theorem ok_wide_Div (N : Nat) : OrcOK Try.prog o_wide_Div N := orc_cons (t_wide_Div N) (ok_bits_Div64 N)
def s_wide_muldiv (_ : Nat) : List (Nat × LC) := []
noncomputable def e_wide_muldiv (N : Nat) : Env := mkEnv Try.prog o_wide_Div (s_wide_muldiv N) N
theorem q_wide_muldiv (N : Nat) : LoopsFor (e_wide_muldiv N) Try.prog 66 0 := ⟨by kernel_rfl, fun j hj => match j, hj with
  | _ + 0, h => absurd h (by omega)⟩
def c_wide_muldiv : FC := mkF [.sc (.int .i64), .sc (.int .i64), .sc (.int .i64)] [.agg [.int .u64, .int .u64], .sc (.bool), .sc (.int .i64)] wide_muldiv
theorem t_wide_muldiv (N : Nat) : FCOK Try.prog N 66 c_wide_muldiv := fun_ok facts (ok_wide_Div N) (by kernel_rfl) (by kernel_rfl) (q_wide_muldiv N) (fun t => by kernel_rfl)
def o_wide_muldiv : List (Nat × FC) := (66, c_wide_muldiv) :: o_wide_Div
theorem ok_wide_muldiv (N : Nat) : OrcOK Try.prog o_wide_muldiv N := orc_cons (t_wide_muldiv N) (ok_wide_Div N)
def s_cmp_isNaN_uint64 (_ : Nat) : List (Nat × LC) := []
noncomputable def e_cmp_isNaN_uint64 (N : Nat) : Env := mkEnv Try.prog o_wide_muldiv (s_cmp_isNaN_uint64 N) N
theorem q_cmp_isNaN_uint64 (N : Nat) : LoopsFor (e_cmp_isNaN_uint64 N) Try.prog 90 0 := ⟨by kernel_rfl, fun j hj => match j, hj with
  | _ + 0, h => absurd h (by omega)⟩
def c_cmp_isNaN_uint64 : FC := mkF [.sc (.int .u64)] [.sc (.bool)] cmp_isNaN_uint64
theorem t_cmp_isNaN_uint64 (N : Nat) : FCOK Try.prog N 90 c_cmp_isNaN_uint64 := fun_ok facts (ok_wide_muldiv N) (by kernel_rfl) (by kernel_rfl) (q_cmp_isNaN_uint64 N) (fun t => by kernel_rfl)
def o_cmp_isNaN_uint64 : List (Nat × FC) := (90, c_cmp_isNaN_uint64) :: o_wide_muldiv
theorem ok_cmp_isNaN_uint64 (N : Nat) : OrcOK Try.prog o_cmp_isNaN_uint64 N := orc_cons (t_cmp_isNaN_uint64 N) (ok_wide_muldiv N)
def s_cmp_Compare_uint64 (_ : Nat) : List (Nat × LC) := []
noncomputable def e_cmp_Compare_uint64 (N : Nat) : Env := mkEnv Try.prog o_cmp_isNaN_uint64 (s_cmp_Compare_uint64 N) N
theorem q_cmp_Compare_uint64 (N : Nat) : LoopsFor (e_cmp_Compare_uint64 N) Try.prog 82 0 := ⟨by kernel_rfl, fun j hj => match j, hj with
  | _ + 0, h => absurd h (by omega)⟩
def c_cmp_Compare_uint64 : FC := mkF [.sc (.int .u64), .sc (.int .u64)] [.sc (.int .i64)] cmp_Compare_uint64
theorem t_cmp_Compare_uint64 (N : Nat) : FCOK Try.prog N 82 c_cmp_Compare_uint64 := fun_ok facts (ok_cmp_isNaN_uint64 N) (by kernel_rfl) (by kernel_rfl) (q_cmp_Compare_uint64 N) (fun t => by kernel_rfl)
def o_cmp_Compare_uint64 : List (Nat × FC) := (82, c_cmp_Compare_uint64) :: o_cmp_isNaN_uint64
theorem ok_cmp_Compare_uint64 (N : Nat) : OrcOK Try.prog o_cmp_Compare_uint64 N := orc_cons (t_cmp_Compare_uint64 N) (ok_cmp_isNaN_uint64 N)
def p_cmp_Or_int_3 : List Pat := [.any, .any, .any, .sc (.int .i64), .any, .any, .sl 0, .sc (.int .i64), .sc (.int .i64), .any, .any, .any, .any, .any, .any, .any, .any, .any]
def h_cmp_Or_int_3 : List HPat := [.ext 3 [.int .i64]]
def x_cmp_Or_int_3 : List XP := [⟨.ret, [.any, .any, .sc (.int .i64), .any, .any, .any, .any, .any, .any, .any, .any, .any, .any, .any, .any, .any, .any, .any], []⟩, ⟨.exit 0, [.any, .any, .any, .sc (.int .i64), .any, .any, .any, .any, .any, .any, .any, .any, .any, .any, .any, .any, .any, .any], []⟩]
def lc_cmp_Or_int_3 (N : Nat) : LC := mkLC p_cmp_Or_int_3 h_cmp_Or_int_3 x_cmp_Or_int_3 (cmp_Or_int_L3 N)
def s_cmp_Or_int (N : Nat) : List (Nat × LC) := [(3, lc_cmp_Or_int_3 N)]
noncomputable def e_cmp_Or_int (N : Nat) : Env := mkEnv Try.prog o_cmp_Compare_uint64 (s_cmp_Or_int N) N
theorem k_cmp_Or_int_3 (N : Nat) : LCOK (e_cmp_Or_int N) 12 (loopAt Try.prog 81 0) (lc_cmp_Or_int_3 N) := mkLC_ok (by kernel_rfl) (by kernel_rfl) (fun F x => by kernel_rfl)
theorem q_cmp_Or_int (N : Nat) : LoopsFor (e_cmp_Or_int N) Try.prog 81 1 := ⟨by kernel_rfl, fun j hj => match j, hj with
  | 0, _ => ⟨lc_cmp_Or_int_3 N, by kernel_rfl, k_cmp_Or_int_3 N⟩
  | _ + 1, h => absurd h (by omega)⟩
def c_cmp_Or_int : FC := mkF [.row 3 [.int .i64]] [.sc (.int .i64)] cmp_Or_int
theorem t_cmp_Or_int (N : Nat) : FCOK Try.prog N 81 c_cmp_Or_int := fun_ok facts (ok_cmp_Compare_uint64 N) (by kernel_rfl) (by kernel_rfl) (q_cmp_Or_int N) (fun t => by kernel_rfl)
def o_cmp_Or_int : List (Nat × FC) := (81, c_cmp_Or_int) :: o_cmp_Compare_uint64
theorem ok_cmp_Or_int (N : Nat) : OrcOK Try.prog o_cmp_Or_int N := orc_cons (t_cmp_Or_int N) (ok_cmp_Compare_uint64 N)
def s_wide_Cmp (_ : Nat) : List (Nat × LC) := []
noncomputable def e_wide_Cmp (N : Nat) : Env := mkEnv Try.prog o_cmp_Or_int (s_wide_Cmp N) N
theorem q_wide_Cmp (N : Nat) : LoopsFor (e_wide_Cmp N) Try.prog 76 0 := ⟨by kernel_rfl, fun j hj => match j, hj with
  | _ + 0, h => absurd h (by omega)⟩
def c_wide_Cmp : FC := mkF [.agg [.int .u64, .int .u64], .agg [.int .u64, .int .u64]] [.sc (.int .i64)] wide_Cmp
theorem t_wide_Cmp (N : Nat) : FCOK Try.prog N 76 c_wide_Cmp := fun_ok facts (ok_cmp_Or_int N) (by kernel_rfl) (by kernel_rfl) (q_wide_Cmp N) (fun t => by kernel_rfl)
def o_wide_Cmp : List (Nat × FC) := (76, c_wide_Cmp) :: o_cmp_Or_int
theorem ok_wide_Cmp (N : Nat) : OrcOK Try.prog o_wide_Cmp N := orc_cons (t_wide_Cmp N) (ok_cmp_Or_int N)
def s_wide_told (_ : Nat) : List (Nat × LC) := []
noncomputable def e_wide_told (N : Nat) : Env := mkEnv Try.prog o_wide_Cmp (s_wide_told N) N
theorem q_wide_told (N : Nat) : LoopsFor (e_wide_told N) Try.prog 67 0 := ⟨by kernel_rfl, fun j hj => match j, hj with
  | _ + 0, h => absurd h (by omega)⟩
def c_wide_told : FC := mkF [.agg [.int .u64, .int .u64], .sc (.int .i64)] [.sc (.int .i64), .sc (.int .i64)] wide_told
theorem t_wide_told (N : Nat) : FCOK Try.prog N 67 c_wide_told := fun_ok facts (ok_wide_Cmp N) (by kernel_rfl) (by kernel_rfl) (q_wide_told N) (fun t => by kernel_rfl)
def o_wide_told : List (Nat × FC) := (67, c_wide_told) :: o_wide_Cmp
theorem ok_wide_told (N : Nat) : OrcOK Try.prog o_wide_told N := orc_cons (t_wide_told N) (ok_wide_Cmp N)
def s_wide_MulDiv (_ : Nat) : List (Nat × LC) := []
noncomputable def e_wide_MulDiv (N : Nat) : Env := mkEnv Try.prog o_wide_told (s_wide_MulDiv N) N
theorem q_wide_MulDiv (N : Nat) : LoopsFor (e_wide_MulDiv N) Try.prog 52 0 := ⟨by kernel_rfl, fun j hj => match j, hj with
  | _ + 0, h => absurd h (by omega)⟩
def c_wide_MulDiv : FC := mkF [.sc (.int .i64), .sc (.int .i64), .sc (.int .i64)] [.sc (.int .i64), .sc (.int .i64)] wide_MulDiv
theorem t_wide_MulDiv (N : Nat) : FCOK Try.prog N 52 c_wide_MulDiv := fun_ok facts (ok_wide_told N) (by kernel_rfl) (by kernel_rfl) (q_wide_MulDiv N) (fun t => by kernel_rfl)
def o_wide_MulDiv : List (Nat × FC) := (52, c_wide_MulDiv) :: o_wide_told
theorem ok_wide_MulDiv (N : Nat) : OrcOK Try.prog o_wide_MulDiv N := orc_cons (t_wide_MulDiv N) (ok_wide_told N)
def s_step_Ramp (_ : Nat) : List (Nat × LC) := []
noncomputable def e_step_Ramp (N : Nat) : Env := mkEnv Try.prog o_wide_MulDiv (s_step_Ramp N) N
theorem q_step_Ramp (N : Nat) : LoopsFor (e_step_Ramp N) Try.prog 25 0 := ⟨by kernel_rfl, fun j hj => match j, hj with
  | _ + 0, h => absurd h (by omega)⟩
def c_step_Ramp : FC := mkF [.sc (.int .i64), .sc (.int .i64), .sc (.int .i64)] [.sc (.int .i64)] step_Ramp
theorem t_step_Ramp (N : Nat) : FCOK Try.prog N 25 c_step_Ramp := fun_ok facts (ok_wide_MulDiv N) (by kernel_rfl) (by kernel_rfl) (q_step_Ramp N) (fun t => by kernel_rfl)
def o_step_Ramp : List (Nat × FC) := (25, c_step_Ramp) :: o_wide_MulDiv
theorem ok_step_Ramp (N : Nat) : OrcOK Try.prog o_step_Ramp N := orc_cons (t_step_Ramp N) (ok_wide_MulDiv N)
def s_leatlaw34_works (_ : Nat) : List (Nat × LC) := []
noncomputable def e_leatlaw34_works (N : Nat) : Env := mkEnv Try.prog o_step_Ramp (s_leatlaw34_works N) N
theorem q_leatlaw34_works (N : Nat) : LoopsFor (e_leatlaw34_works N) Try.prog 26 0 := ⟨by kernel_rfl, fun j hj => match j, hj with
  | _ + 0, h => absurd h (by omega)⟩
def c_leatlaw34_works : FC := mkF [] [.sc (.bool)] leatlaw34_works
theorem t_leatlaw34_works (N : Nat) : FCOK Try.prog N 26 c_leatlaw34_works := fun_ok facts (ok_step_Ramp N) (by kernel_rfl) (by kernel_rfl) (q_leatlaw34_works N) (fun t => by kernel_rfl)
def o_leatlaw34_works : List (Nat × FC) := (26, c_leatlaw34_works) :: o_step_Ramp
theorem ok_leatlaw34_works (N : Nat) : OrcOK Try.prog o_leatlaw34_works N := orc_cons (t_leatlaw34_works N) (ok_step_Ramp N)
def s_leatlaw34_StepRises (_ : Nat) : List (Nat × LC) := []
noncomputable def e_leatlaw34_StepRises (N : Nat) : Env := mkEnv Try.prog o_leatlaw34_works (s_leatlaw34_StepRises N) N
theorem q_leatlaw34_StepRises (N : Nat) : LoopsFor (e_leatlaw34_StepRises N) Try.prog 7 0 := ⟨by kernel_rfl, fun j hj => match j, hj with
  | _ + 0, h => absurd h (by omega)⟩
theorem okL_leatlaw34_StepRises (N : Nat) : OrcOK Try.prog o_leatlaw34_works N := ok_leatlaw34_works N
theorem w_leatlaw34_StepRises (N : Nat) (x : RT [.agg [.int .i64, .int .i64], .sc (.int .i64), .sc (.int .i64)]) : uncR [.agg [.int .i64, .int .i64], .sc (.int .i64), .sc (.int .i64)] (leatlaw34_StepRises N) x = evFn (e_leatlaw34_StepRises N) 13 7 (encA 0 [.agg [.int .i64, .int .i64], .sc (.int .i64), .sc (.int .i64)] x).1 (encA 0 [.agg [.int .i64, .int .i64], .sc (.int .i64), .sc (.int .i64)] x).2 (decR [.sc .bool]) := by kernel_rfl
def s_leatref34_within (_ : Nat) : List (Nat × LC) := []
noncomputable def e_leatref34_within (N : Nat) : Env := mkEnv Try.prog o_leatlaw34_works (s_leatref34_within N) N
theorem q_leatref34_within (N : Nat) : LoopsFor (e_leatref34_within N) Try.prog 53 0 := ⟨by kernel_rfl, fun j hj => match j, hj with
  | _ + 0, h => absurd h (by omega)⟩
def c_leatref34_within : FC := mkF [.sc (.int .i64)] [.sc (.int .i64)] leatref34_within
theorem t_leatref34_within (N : Nat) : FCOK Try.prog N 53 c_leatref34_within := fun_ok facts (ok_leatlaw34_works N) (by kernel_rfl) (by kernel_rfl) (q_leatref34_within N) (fun t => by kernel_rfl)
def o_leatref34_within : List (Nat × FC) := (53, c_leatref34_within) :: o_leatlaw34_works
theorem ok_leatref34_within (N : Nat) : OrcOK Try.prog o_leatref34_within N := orc_cons (t_leatref34_within N) (ok_leatlaw34_works N)
def s_leatref34_Ramp (_ : Nat) : List (Nat × LC) := []
noncomputable def e_leatref34_Ramp (N : Nat) : Env := mkEnv Try.prog o_leatref34_within (s_leatref34_Ramp N) N
theorem q_leatref34_Ramp (N : Nat) : LoopsFor (e_leatref34_Ramp N) Try.prog 27 0 := ⟨by kernel_rfl, fun j hj => match j, hj with
  | _ + 0, h => absurd h (by omega)⟩
def c_leatref34_Ramp : FC := mkF [.sc (.int .i64), .sc (.int .i64), .sc (.int .i64)] [.sc (.int .i64)] leatref34_Ramp
theorem t_leatref34_Ramp (N : Nat) : FCOK Try.prog N 27 c_leatref34_Ramp := fun_ok facts (ok_leatref34_within N) (by kernel_rfl) (by kernel_rfl) (q_leatref34_Ramp N) (fun t => by kernel_rfl)
def o_leatref34_Ramp : List (Nat × FC) := (27, c_leatref34_Ramp) :: o_leatref34_within
theorem ok_leatref34_Ramp (N : Nat) : OrcOK Try.prog o_leatref34_Ramp N := orc_cons (t_leatref34_Ramp N) (ok_leatref34_within N)
def s_step_Mark (_ : Nat) : List (Nat × LC) := []
noncomputable def e_step_Mark (N : Nat) : Env := mkEnv Try.prog o_leatref34_Ramp (s_step_Mark N) N
theorem q_step_Mark (N : Nat) : LoopsFor (e_step_Mark N) Try.prog 28 0 := ⟨by kernel_rfl, fun j hj => match j, hj with
  | _ + 0, h => absurd h (by omega)⟩
def c_step_Mark : FC := mkF [.sc (.int .i64), .agg [.int .i64, .int .i64, .int .i64, .int .i64, .int .i64, .int .i64, .int .i64, .int .i64], .sc (.int .i64)] [.sc (.int .i64)] step_Mark
theorem t_step_Mark (N : Nat) : FCOK Try.prog N 28 c_step_Mark := fun_ok facts (ok_leatref34_Ramp N) (by kernel_rfl) (by kernel_rfl) (q_step_Mark N) (fun t => by kernel_rfl)
def o_step_Mark : List (Nat × FC) := (28, c_step_Mark) :: o_leatref34_Ramp
theorem ok_step_Mark (N : Nat) : OrcOK Try.prog o_step_Mark N := orc_cons (t_step_Mark N) (ok_leatref34_Ramp N)
def s_leatref34_Mark (_ : Nat) : List (Nat × LC) := []
noncomputable def e_leatref34_Mark (N : Nat) : Env := mkEnv Try.prog o_step_Mark (s_leatref34_Mark N) N
theorem q_leatref34_Mark (N : Nat) : LoopsFor (e_leatref34_Mark N) Try.prog 29 0 := ⟨by kernel_rfl, fun j hj => match j, hj with
  | _ + 0, h => absurd h (by omega)⟩
def c_leatref34_Mark : FC := mkF [.sc (.int .i64), .agg [.int .i64, .int .i64, .int .i64, .int .i64, .int .i64, .int .i64, .int .i64, .int .i64], .sc (.int .i64)] [.sc (.int .i64)] leatref34_Mark
theorem t_leatref34_Mark (N : Nat) : FCOK Try.prog N 29 c_leatref34_Mark := fun_ok facts (ok_step_Mark N) (by kernel_rfl) (by kernel_rfl) (q_leatref34_Mark N) (fun t => by kernel_rfl)
def o_leatref34_Mark : List (Nat × FC) := (29, c_leatref34_Mark) :: o_step_Mark
theorem ok_leatref34_Mark (N : Nat) : OrcOK Try.prog o_leatref34_Mark N := orc_cons (t_leatref34_Mark N) (ok_step_Mark N)
def s_leatlaw34_StepRamps (_ : Nat) : List (Nat × LC) := []
noncomputable def e_leatlaw34_StepRamps (N : Nat) : Env := mkEnv Try.prog o_leatref34_Mark (s_leatlaw34_StepRamps N) N
theorem q_leatlaw34_StepRamps (N : Nat) : LoopsFor (e_leatlaw34_StepRamps N) Try.prog 8 0 := ⟨by kernel_rfl, fun j hj => match j, hj with
  | _ + 0, h => absurd h (by omega)⟩
theorem okL_leatlaw34_StepRamps (N : Nat) : OrcOK Try.prog o_leatref34_Mark N := ok_leatref34_Mark N
theorem w_leatlaw34_StepRamps (N : Nat) (x : RT [.sc (.int .i64), .agg [.int .i64, .int .i64, .int .i64, .int .i64, .int .i64, .int .i64, .int .i64, .int .i64], .sc (.int .i64)]) : uncR [.sc (.int .i64), .agg [.int .i64, .int .i64, .int .i64, .int .i64, .int .i64, .int .i64, .int .i64, .int .i64], .sc (.int .i64)] (leatlaw34_StepRamps N) x = evFn (e_leatlaw34_StepRamps N) 13 8 (encA 0 [.sc (.int .i64), .agg [.int .i64, .int .i64, .int .i64, .int .i64, .int .i64, .int .i64, .int .i64, .int .i64], .sc (.int .i64)] x).1 (encA 0 [.sc (.int .i64), .agg [.int .i64, .int .i64, .int .i64, .int .i64, .int .i64, .int .i64, .int .i64, .int .i64], .sc (.int .i64)] x).2 (decR [.sc .bool]) := by kernel_rfl
def s_couple_within_1 (_ : Nat) : List (Nat × LC) := []
noncomputable def e_couple_within_1 (N : Nat) : Env := mkEnv Try.prog o_leatref34_Mark (s_couple_within_1 N) N
theorem q_couple_within_1 (N : Nat) : LoopsFor (e_couple_within_1 N) Try.prog 68 0 := ⟨by kernel_rfl, fun j hj => match j, hj with
  | _ + 0, h => absurd h (by omega)⟩
def c_couple_within_1 : FC := mkF [.sc (.int .i64), .sc (.int .i64)] [.sc (.int .i64)] couple_within_1
theorem t_couple_within_1 (N : Nat) : FCOK Try.prog N 68 c_couple_within_1 := fun_ok facts (ok_leatref34_Mark N) (by kernel_rfl) (by kernel_rfl) (q_couple_within_1 N) (fun t => by kernel_rfl)
def o_couple_within_1 : List (Nat × FC) := (68, c_couple_within_1) :: o_leatref34_Mark
theorem ok_couple_within_1 (N : Nat) : OrcOK Try.prog o_couple_within_1 N := orc_cons (t_couple_within_1 N) (ok_leatref34_Mark N)
def s_couple_within (_ : Nat) : List (Nat × LC) := []
noncomputable def e_couple_within (N : Nat) : Env := mkEnv Try.prog o_couple_within_1 (s_couple_within N) N
theorem q_couple_within (N : Nat) : LoopsFor (e_couple_within N) Try.prog 54 0 := ⟨by kernel_rfl, fun j hj => match j, hj with
  | _ + 0, h => absurd h (by omega)⟩
def c_couple_within : FC := mkF [.sc (.int .i64), .sc (.int .i64)] [.sc (.int .i64), .sc (.int .i64)] couple_within
theorem t_couple_within (N : Nat) : FCOK Try.prog N 54 c_couple_within := fun_ok facts (ok_couple_within_1 N) (by kernel_rfl) (by kernel_rfl) (q_couple_within N) (fun t => by kernel_rfl)
def o_couple_within : List (Nat × FC) := (54, c_couple_within) :: o_couple_within_1
theorem ok_couple_within (N : Nat) : OrcOK Try.prog o_couple_within N := orc_cons (t_couple_within N) (ok_couple_within_1 N)
def s_couple_Classic (_ : Nat) : List (Nat × LC) := []
noncomputable def e_couple_Classic (N : Nat) : Env := mkEnv Try.prog o_couple_within (s_couple_Classic N) N
theorem q_couple_Classic (N : Nat) : LoopsFor (e_couple_Classic N) Try.prog 30 0 := ⟨by kernel_rfl, fun j hj => match j, hj with
  | _ + 0, h => absurd h (by omega)⟩
def c_couple_Classic : FC := mkF [.sc (.int .i64)] [.sc (.int .i64)] couple_Classic
theorem t_couple_Classic (N : Nat) : FCOK Try.prog N 30 c_couple_Classic := fun_ok facts (ok_couple_within N) (by kernel_rfl) (by kernel_rfl) (q_couple_Classic N) (fun t => by kernel_rfl)
def o_couple_Classic : List (Nat × FC) := (30, c_couple_Classic) :: o_couple_within
theorem ok_couple_Classic (N : Nat) : OrcOK Try.prog o_couple_Classic N := orc_cons (t_couple_Classic N) (ok_couple_within N)
def s_couple_Low (_ : Nat) : List (Nat × LC) := []
noncomputable def e_couple_Low (N : Nat) : Env := mkEnv Try.prog o_couple_Classic (s_couple_Low N) N
theorem q_couple_Low (N : Nat) : LoopsFor (e_couple_Low N) Try.prog 31 0 := ⟨by kernel_rfl, fun j hj => match j, hj with
  | _ + 0, h => absurd h (by omega)⟩
def c_couple_Low : FC := mkF [.sc (.int .i64), .sc (.int .i64)] [.sc (.int .i64)] couple_Low
theorem t_couple_Low (N : Nat) : FCOK Try.prog N 31 c_couple_Low := fun_ok facts (ok_couple_Classic N) (by kernel_rfl) (by kernel_rfl) (q_couple_Low N) (fun t => by kernel_rfl)
def o_couple_Low : List (Nat × FC) := (31, c_couple_Low) :: o_couple_Classic
theorem ok_couple_Low (N : Nat) : OrcOK Try.prog o_couple_Low N := orc_cons (t_couple_Low N) (ok_couple_Classic N)
def s_couple_Hit (_ : Nat) : List (Nat × LC) := []
noncomputable def e_couple_Hit (N : Nat) : Env := mkEnv Try.prog o_couple_Low (s_couple_Hit N) N
theorem q_couple_Hit (N : Nat) : LoopsFor (e_couple_Hit N) Try.prog 37 0 := ⟨by kernel_rfl, fun j hj => match j, hj with
  | _ + 0, h => absurd h (by omega)⟩
def c_couple_Hit : FC := mkF [.sc (.int .u32), .sc (.int .i64)] [.sc (.bool)] couple_Hit
theorem t_couple_Hit (N : Nat) : FCOK Try.prog N 37 c_couple_Hit := fun_ok facts (ok_couple_Low N) (by kernel_rfl) (by kernel_rfl) (q_couple_Hit N) (fun t => by kernel_rfl)
def o_couple_Hit : List (Nat × FC) := (37, c_couple_Hit) :: o_couple_Low
theorem ok_couple_Hit (N : Nat) : OrcOK Try.prog o_couple_Hit N := orc_cons (t_couple_Hit N) (ok_couple_Low N)
def s_leatlaw33_works (_ : Nat) : List (Nat × LC) := []
noncomputable def e_leatlaw33_works (N : Nat) : Env := mkEnv Try.prog o_couple_Hit (s_leatlaw33_works N) N
theorem q_leatlaw33_works (N : Nat) : LoopsFor (e_leatlaw33_works N) Try.prog 32 0 := ⟨by kernel_rfl, fun j hj => match j, hj with
  | _ + 0, h => absurd h (by omega)⟩
def c_leatlaw33_works : FC := mkF [] [.sc (.bool)] leatlaw33_works
theorem t_leatlaw33_works (N : Nat) : FCOK Try.prog N 32 c_leatlaw33_works := fun_ok facts (ok_couple_Hit N) (by kernel_rfl) (by kernel_rfl) (q_leatlaw33_works N) (fun t => by kernel_rfl)
def o_leatlaw33_works : List (Nat × FC) := (32, c_leatlaw33_works) :: o_couple_Hit
theorem ok_leatlaw33_works (N : Nat) : OrcOK Try.prog o_leatlaw33_works N := orc_cons (t_leatlaw33_works N) (ok_couple_Hit N)
def s_leatlaw33_CoupleRises (_ : Nat) : List (Nat × LC) := []
noncomputable def e_leatlaw33_CoupleRises (N : Nat) : Env := mkEnv Try.prog o_leatlaw33_works (s_leatlaw33_CoupleRises N) N
theorem q_leatlaw33_CoupleRises (N : Nat) : LoopsFor (e_leatlaw33_CoupleRises N) Try.prog 9 0 := ⟨by kernel_rfl, fun j hj => match j, hj with
  | _ + 0, h => absurd h (by omega)⟩
theorem okL_leatlaw33_CoupleRises (N : Nat) : OrcOK Try.prog o_leatlaw33_works N := ok_leatlaw33_works N
theorem w_leatlaw33_CoupleRises (N : Nat) (x : RT [.agg [.int .i64, .int .i64], .agg [.int .i64, .int .i64]]) : uncR [.agg [.int .i64, .int .i64], .agg [.int .i64, .int .i64]] (leatlaw33_CoupleRises N) x = evFn (e_leatlaw33_CoupleRises N) 13 9 (encA 0 [.agg [.int .i64, .int .i64], .agg [.int .i64, .int .i64]] x).1 (encA 0 [.agg [.int .i64, .int .i64], .agg [.int .i64, .int .i64]] x).2 (decR [.sc .bool]) := by kernel_rfl
def s_leatlaw33_CoupleSquares (_ : Nat) : List (Nat × LC) := []
noncomputable def e_leatlaw33_CoupleSquares (N : Nat) : Env := mkEnv Try.prog o_leatlaw33_works (s_leatlaw33_CoupleSquares N) N
theorem q_leatlaw33_CoupleSquares (N : Nat) : LoopsFor (e_leatlaw33_CoupleSquares N) Try.prog 10 0 := ⟨by kernel_rfl, fun j hj => match j, hj with
  | _ + 0, h => absurd h (by omega)⟩
theorem okL_leatlaw33_CoupleSquares (N : Nat) : OrcOK Try.prog o_leatlaw33_works N := ok_leatlaw33_works N
theorem w_leatlaw33_CoupleSquares (N : Nat) (x : RT [.sc (.int .u32)]) : uncR [.sc (.int .u32)] (leatlaw33_CoupleSquares N) x = evFn (e_leatlaw33_CoupleSquares N) 13 10 (encA 0 [.sc (.int .u32)] x).1 (encA 0 [.sc (.int .u32)] x).2 (decR [.sc .bool]) := by kernel_rfl
def s_leatref33_within (_ : Nat) : List (Nat × LC) := []
noncomputable def e_leatref33_within (N : Nat) : Env := mkEnv Try.prog o_leatlaw33_works (s_leatref33_within N) N
theorem q_leatref33_within (N : Nat) : LoopsFor (e_leatref33_within N) Try.prog 55 0 := ⟨by kernel_rfl, fun j hj => match j, hj with
  | _ + 0, h => absurd h (by omega)⟩
def c_leatref33_within : FC := mkF [.sc (.int .i64), .sc (.int .i64)] [.sc (.int .i64)] leatref33_within
theorem t_leatref33_within (N : Nat) : FCOK Try.prog N 55 c_leatref33_within := fun_ok facts (ok_leatlaw33_works N) (by kernel_rfl) (by kernel_rfl) (q_leatref33_within N) (fun t => by kernel_rfl)
def o_leatref33_within : List (Nat × FC) := (55, c_leatref33_within) :: o_leatlaw33_works
theorem ok_leatref33_within (N : Nat) : OrcOK Try.prog o_leatref33_within N := orc_cons (t_leatref33_within N) (ok_leatlaw33_works N)
def s_leatref33_Classic (_ : Nat) : List (Nat × LC) := []
noncomputable def e_leatref33_Classic (N : Nat) : Env := mkEnv Try.prog o_leatref33_within (s_leatref33_Classic N) N
theorem q_leatref33_Classic (N : Nat) : LoopsFor (e_leatref33_Classic N) Try.prog 33 0 := ⟨by kernel_rfl, fun j hj => match j, hj with
  | _ + 0, h => absurd h (by omega)⟩
def c_leatref33_Classic : FC := mkF [.sc (.int .i64)] [.sc (.int .i64)] leatref33_Classic
theorem t_leatref33_Classic (N : Nat) : FCOK Try.prog N 33 c_leatref33_Classic := fun_ok facts (ok_leatref33_within N) (by kernel_rfl) (by kernel_rfl) (q_leatref33_Classic N) (fun t => by kernel_rfl)
def o_leatref33_Classic : List (Nat × FC) := (33, c_leatref33_Classic) :: o_leatref33_within
theorem ok_leatref33_Classic (N : Nat) : OrcOK Try.prog o_leatref33_Classic N := orc_cons (t_leatref33_Classic N) (ok_leatref33_within N)
def s_leatref33_Low (_ : Nat) : List (Nat × LC) := []
noncomputable def e_leatref33_Low (N : Nat) : Env := mkEnv Try.prog o_leatref33_Classic (s_leatref33_Low N) N
theorem q_leatref33_Low (N : Nat) : LoopsFor (e_leatref33_Low N) Try.prog 34 0 := ⟨by kernel_rfl, fun j hj => match j, hj with
  | _ + 0, h => absurd h (by omega)⟩
def c_leatref33_Low : FC := mkF [.sc (.int .i64), .sc (.int .i64)] [.sc (.int .i64)] leatref33_Low
theorem t_leatref33_Low (N : Nat) : FCOK Try.prog N 34 c_leatref33_Low := fun_ok facts (ok_leatref33_Classic N) (by kernel_rfl) (by kernel_rfl) (q_leatref33_Low N) (fun t => by kernel_rfl)
def o_leatref33_Low : List (Nat × FC) := (34, c_leatref33_Low) :: o_leatref33_Classic
theorem ok_leatref33_Low (N : Nat) : OrcOK Try.prog o_leatref33_Low N := orc_cons (t_leatref33_Low N) (ok_leatref33_Classic N)
def s_couple_Over (_ : Nat) : List (Nat × LC) := []
noncomputable def e_couple_Over (N : Nat) : Env := mkEnv Try.prog o_leatref33_Low (s_couple_Over N) N
theorem q_couple_Over (N : Nat) : LoopsFor (e_couple_Over N) Try.prog 35 0 := ⟨by kernel_rfl, fun j hj => match j, hj with
  | _ + 0, h => absurd h (by omega)⟩
def c_couple_Over : FC := mkF [.sc (.int .i64), .sc (.int .i64)] [.sc (.bool)] couple_Over
theorem t_couple_Over (N : Nat) : FCOK Try.prog N 35 c_couple_Over := fun_ok facts (ok_leatref33_Low N) (by kernel_rfl) (by kernel_rfl) (q_couple_Over N) (fun t => by kernel_rfl)
def o_couple_Over : List (Nat × FC) := (35, c_couple_Over) :: o_leatref33_Low
theorem ok_couple_Over (N : Nat) : OrcOK Try.prog o_couple_Over N := orc_cons (t_couple_Over N) (ok_leatref33_Low N)
def s_leatref33_Over (_ : Nat) : List (Nat × LC) := []
noncomputable def e_leatref33_Over (N : Nat) : Env := mkEnv Try.prog o_couple_Over (s_leatref33_Over N) N
theorem q_leatref33_Over (N : Nat) : LoopsFor (e_leatref33_Over N) Try.prog 36 0 := ⟨by kernel_rfl, fun j hj => match j, hj with
  | _ + 0, h => absurd h (by omega)⟩
def c_leatref33_Over : FC := mkF [.sc (.int .i64), .sc (.int .i64)] [.sc (.bool)] leatref33_Over
theorem t_leatref33_Over (N : Nat) : FCOK Try.prog N 36 c_leatref33_Over := fun_ok facts (ok_couple_Over N) (by kernel_rfl) (by kernel_rfl) (q_leatref33_Over N) (fun t => by kernel_rfl)
def o_leatref33_Over : List (Nat × FC) := (36, c_leatref33_Over) :: o_couple_Over
theorem ok_leatref33_Over (N : Nat) : OrcOK Try.prog o_leatref33_Over N := orc_cons (t_leatref33_Over N) (ok_couple_Over N)
def s_leatref33_Hit (_ : Nat) : List (Nat × LC) := []
noncomputable def e_leatref33_Hit (N : Nat) : Env := mkEnv Try.prog o_leatref33_Over (s_leatref33_Hit N) N
theorem q_leatref33_Hit (N : Nat) : LoopsFor (e_leatref33_Hit N) Try.prog 38 0 := ⟨by kernel_rfl, fun j hj => match j, hj with
  | _ + 0, h => absurd h (by omega)⟩
def c_leatref33_Hit : FC := mkF [.sc (.int .u32), .sc (.int .i64)] [.sc (.bool)] leatref33_Hit
theorem t_leatref33_Hit (N : Nat) : FCOK Try.prog N 38 c_leatref33_Hit := fun_ok facts (ok_leatref33_Over N) (by kernel_rfl) (by kernel_rfl) (q_leatref33_Hit N) (fun t => by kernel_rfl)
def o_leatref33_Hit : List (Nat × FC) := (38, c_leatref33_Hit) :: o_leatref33_Over
theorem ok_leatref33_Hit (N : Nat) : OrcOK Try.prog o_leatref33_Hit N := orc_cons (t_leatref33_Hit N) (ok_leatref33_Over N)
def s_leatlaw33_CoupleShares (_ : Nat) : List (Nat × LC) := []
noncomputable def e_leatlaw33_CoupleShares (N : Nat) : Env := mkEnv Try.prog o_leatref33_Hit (s_leatlaw33_CoupleShares N) N
theorem q_leatlaw33_CoupleShares (N : Nat) : LoopsFor (e_leatlaw33_CoupleShares N) Try.prog 11 0 := ⟨by kernel_rfl, fun j hj => match j, hj with
  | _ + 0, h => absurd h (by omega)⟩
theorem okL_leatlaw33_CoupleShares (N : Nat) : OrcOK Try.prog o_leatref33_Hit N := ok_leatref33_Hit N
theorem w_leatlaw33_CoupleShares (N : Nat) (x : RT [.sc (.int .i64), .sc (.int .i64), .sc (.int .u32)]) : uncR [.sc (.int .i64), .sc (.int .i64), .sc (.int .u32)] (leatlaw33_CoupleShares N) x = evFn (e_leatlaw33_CoupleShares N) 13 11 (encA 0 [.sc (.int .i64), .sc (.int .i64), .sc (.int .u32)] x).1 (encA 0 [.sc (.int .i64), .sc (.int .i64), .sc (.int .u32)] x).2 (decR [.sc .bool]) := by kernel_rfl
def s_classic_within (_ : Nat) : List (Nat × LC) := []
noncomputable def e_classic_within (N : Nat) : Env := mkEnv Try.prog o_leatref33_Hit (s_classic_within N) N
theorem q_classic_within (N : Nat) : LoopsFor (e_classic_within N) Try.prog 56 0 := ⟨by kernel_rfl, fun j hj => match j, hj with
  | _ + 0, h => absurd h (by omega)⟩
def c_classic_within : FC := mkF [.agg [.int .i64]] [.agg [.int .i64]] classic_within
theorem t_classic_within (N : Nat) : FCOK Try.prog N 56 c_classic_within := fun_ok facts (ok_leatref33_Hit N) (by kernel_rfl) (by kernel_rfl) (q_classic_within N) (fun t => by kernel_rfl)
def o_classic_within : List (Nat × FC) := (56, c_classic_within) :: o_leatref33_Hit
theorem ok_classic_within (N : Nat) : OrcOK Try.prog o_classic_within N := orc_cons (t_classic_within N) (ok_leatref33_Hit N)
def s_sat_end (_ : Nat) : List (Nat × LC) := []
noncomputable def e_sat_end (N : Nat) : Env := mkEnv Try.prog o_classic_within (s_sat_end N) N
theorem q_sat_end (N : Nat) : LoopsFor (e_sat_end N) Try.prog 70 0 := ⟨by kernel_rfl, fun j hj => match j, hj with
  | _ + 0, h => absurd h (by omega)⟩
def c_sat_end : FC := mkF [.sc (.bool)] [.sc (.int .i64)] sat_end
theorem t_sat_end (N : Nat) : FCOK Try.prog N 70 c_sat_end := fun_ok facts (ok_classic_within N) (by kernel_rfl) (by kernel_rfl) (q_sat_end N) (fun t => by kernel_rfl)
def o_sat_end : List (Nat × FC) := (70, c_sat_end) :: o_classic_within
theorem ok_sat_end (N : Nat) : OrcOK Try.prog o_sat_end N := orc_cons (t_sat_end N) (ok_classic_within N)
def s_sat_Sub (_ : Nat) : List (Nat × LC) := []
noncomputable def e_sat_Sub (N : Nat) : Env := mkEnv Try.prog o_sat_end (s_sat_Sub N) N
theorem q_sat_Sub (N : Nat) : LoopsFor (e_sat_Sub N) Try.prog 61 0 := ⟨by kernel_rfl, fun j hj => match j, hj with
  | _ + 0, h => absurd h (by omega)⟩
def c_sat_Sub : FC := mkF [.sc (.int .i64), .sc (.int .i64)] [.sc (.int .i64)] sat_Sub
theorem t_sat_Sub (N : Nat) : FCOK Try.prog N 61 c_sat_Sub := fun_ok facts (ok_sat_end N) (by kernel_rfl) (by kernel_rfl) (q_sat_Sub N) (fun t => by kernel_rfl)
def o_sat_Sub : List (Nat × FC) := (61, c_sat_Sub) :: o_sat_end
theorem ok_sat_Sub (N : Nat) : OrcOK Try.prog o_sat_Sub N := orc_cons (t_sat_Sub N) (ok_sat_end N)
def s_sat_Add (_ : Nat) : List (Nat × LC) := []
noncomputable def e_sat_Add (N : Nat) : Env := mkEnv Try.prog o_sat_Sub (s_sat_Add N) N
theorem q_sat_Add (N : Nat) : LoopsFor (e_sat_Add N) Try.prog 69 0 := ⟨by kernel_rfl, fun j hj => match j, hj with
  | _ + 0, h => absurd h (by omega)⟩
def c_sat_Add : FC := mkF [.sc (.int .i64), .sc (.int .i64)] [.sc (.int .i64)] sat_Add
theorem t_sat_Add (N : Nat) : FCOK Try.prog N 69 c_sat_Add := fun_ok facts (ok_sat_Sub N) (by kernel_rfl) (by kernel_rfl) (q_sat_Add N) (fun t => by kernel_rfl)
def o_sat_Add : List (Nat × FC) := (69, c_sat_Add) :: o_sat_Sub
theorem ok_sat_Add (N : Nat) : OrcOK Try.prog o_sat_Add N := orc_cons (t_sat_Add N) (ok_sat_Sub N)
def s_fixed_Toward (_ : Nat) : List (Nat × LC) := []
noncomputable def e_fixed_Toward (N : Nat) : Env := mkEnv Try.prog o_sat_Add (s_fixed_Toward N) N
theorem q_fixed_Toward (N : Nat) : LoopsFor (e_fixed_Toward N) Try.prog 58 0 := ⟨by kernel_rfl, fun j hj => match j, hj with
  | _ + 0, h => absurd h (by omega)⟩
def c_fixed_Toward : FC := mkF [.sc (.int .i64), .sc (.int .i64), .sc (.int .i64)] [.sc (.int .i64)] fixed_Toward
theorem t_fixed_Toward (N : Nat) : FCOK Try.prog N 58 c_fixed_Toward := fun_ok facts (ok_sat_Add N) (by kernel_rfl) (by kernel_rfl) (q_fixed_Toward N) (fun t => by kernel_rfl)
def o_fixed_Toward : List (Nat × FC) := (58, c_fixed_Toward) :: o_sat_Add
theorem ok_fixed_Toward (N : Nat) : OrcOK Try.prog o_fixed_Toward N := orc_cons (t_fixed_Toward N) (ok_sat_Add N)
def s_fixed_Ratio (_ : Nat) : List (Nat × LC) := []
noncomputable def e_fixed_Ratio (N : Nat) : Env := mkEnv Try.prog o_fixed_Toward (s_fixed_Ratio N) N
theorem q_fixed_Ratio (N : Nat) : LoopsFor (e_fixed_Ratio N) Try.prog 60 0 := ⟨by kernel_rfl, fun j hj => match j, hj with
  | _ + 0, h => absurd h (by omega)⟩
def c_fixed_Ratio : FC := mkF [.sc (.int .i64), .sc (.int .i64)] [.sc (.int .i64)] fixed_Ratio
theorem t_fixed_Ratio (N : Nat) : FCOK Try.prog N 60 c_fixed_Ratio := fun_ok facts (ok_fixed_Toward N) (by kernel_rfl) (by kernel_rfl) (q_fixed_Ratio N) (fun t => by kernel_rfl)
def o_fixed_Ratio : List (Nat × FC) := (60, c_fixed_Ratio) :: o_fixed_Toward
theorem ok_fixed_Ratio (N : Nat) : OrcOK Try.prog o_fixed_Ratio N := orc_cons (t_fixed_Ratio N) (ok_fixed_Toward N)
def p_fixed_Halve_2 : List Pat := [.sc (.int .i64), .any, .any, .any, .any, .any, .any, .sc (.int .i64), .sc (.int .i64), .any, .any, .any, .any, .any]
def h_fixed_Halve_2 : List HPat := []
def x_fixed_Halve_2 : List XP := [⟨.exit 0, [.sc (.int .i64), .any, .any, .any, .any, .any, .any, .any, .any, .any, .any, .any, .any, .any], []⟩]
def lc_fixed_Halve_2 (N : Nat) : LC := mkLC p_fixed_Halve_2 h_fixed_Halve_2 x_fixed_Halve_2 (fixed_Halve_L2 N)
def s_fixed_Halve (N : Nat) : List (Nat × LC) := [(2, lc_fixed_Halve_2 N)]
noncomputable def e_fixed_Halve (N : Nat) : Env := mkEnv Try.prog o_fixed_Ratio (s_fixed_Halve N) N
theorem k_fixed_Halve_2 (N : Nat) : LCOK (e_fixed_Halve N) 12 (loopAt Try.prog 59 0) (lc_fixed_Halve_2 N) := mkLC_ok (by kernel_rfl) (by kernel_rfl) (fun F x => by kernel_rfl)
theorem q_fixed_Halve (N : Nat) : LoopsFor (e_fixed_Halve N) Try.prog 59 1 := ⟨by kernel_rfl, fun j hj => match j, hj with
  | 0, _ => ⟨lc_fixed_Halve_2 N, by kernel_rfl, k_fixed_Halve_2 N⟩
  | _ + 1, h => absurd h (by omega)⟩
def c_fixed_Halve : FC := mkF [.sc (.int .i64), .sc (.int .i64)] [.sc (.int .i64)] fixed_Halve
theorem t_fixed_Halve (N : Nat) : FCOK Try.prog N 59 c_fixed_Halve := fun_ok facts (ok_fixed_Ratio N) (by kernel_rfl) (by kernel_rfl) (q_fixed_Halve N) (fun t => by kernel_rfl)
def o_fixed_Halve : List (Nat × FC) := (59, c_fixed_Halve) :: o_fixed_Ratio
theorem ok_fixed_Halve (N : Nat) : OrcOK Try.prog o_fixed_Halve N := orc_cons (t_fixed_Halve N) (ok_fixed_Ratio N)
def s_classic_Round (_ : Nat) : List (Nat × LC) := []
noncomputable def e_classic_Round (N : Nat) : Env := mkEnv Try.prog o_fixed_Halve (s_classic_Round N) N
theorem q_classic_Round (N : Nat) : LoopsFor (e_classic_Round N) Try.prog 39 0 := ⟨by kernel_rfl, fun j hj => match j, hj with
  | _ + 0, h => absurd h (by omega)⟩
def c_classic_Round : FC := mkF [.agg [.int .i64], .sc (.bool), .sc (.int .i64), .sc (.int .i64)] [.agg [.int .i64]] classic_Round
theorem t_classic_Round (N : Nat) : FCOK Try.prog N 39 c_classic_Round := fun_ok facts (ok_fixed_Halve N) (by kernel_rfl) (by kernel_rfl) (q_classic_Round N) (fun t => by kernel_rfl)
def o_classic_Round : List (Nat × FC) := (39, c_classic_Round) :: o_fixed_Halve
theorem ok_classic_Round (N : Nat) : OrcOK Try.prog o_classic_Round N := orc_cons (t_classic_Round N) (ok_fixed_Halve N)
def s_leatref01_Add (_ : Nat) : List (Nat × LC) := []
noncomputable def e_leatref01_Add (N : Nat) : Env := mkEnv Try.prog o_classic_Round (s_leatref01_Add N) N
theorem q_leatref01_Add (N : Nat) : LoopsFor (e_leatref01_Add N) Try.prog 71 0 := ⟨by kernel_rfl, fun j hj => match j, hj with
  | _ + 0, h => absurd h (by omega)⟩
def c_leatref01_Add : FC := mkF [.sc (.int .i64), .sc (.int .i64)] [.sc (.int .i64)] leatref01_Add
theorem t_leatref01_Add (N : Nat) : FCOK Try.prog N 71 c_leatref01_Add := fun_ok facts (ok_classic_Round N) (by kernel_rfl) (by kernel_rfl) (q_leatref01_Add N) (fun t => by kernel_rfl)
def o_leatref01_Add : List (Nat × FC) := (71, c_leatref01_Add) :: o_classic_Round
theorem ok_leatref01_Add (N : Nat) : OrcOK Try.prog o_leatref01_Add N := orc_cons (t_leatref01_Add N) (ok_classic_Round N)
def s_leatref01_Sub (_ : Nat) : List (Nat × LC) := []
noncomputable def e_leatref01_Sub (N : Nat) : Env := mkEnv Try.prog o_leatref01_Add (s_leatref01_Sub N) N
theorem q_leatref01_Sub (N : Nat) : LoopsFor (e_leatref01_Sub N) Try.prog 64 0 := ⟨by kernel_rfl, fun j hj => match j, hj with
  | _ + 0, h => absurd h (by omega)⟩
def c_leatref01_Sub : FC := mkF [.sc (.int .i64), .sc (.int .i64)] [.sc (.int .i64)] leatref01_Sub
theorem t_leatref01_Sub (N : Nat) : FCOK Try.prog N 64 c_leatref01_Sub := fun_ok facts (ok_leatref01_Add N) (by kernel_rfl) (by kernel_rfl) (q_leatref01_Sub N) (fun t => by kernel_rfl)
def o_leatref01_Sub : List (Nat × FC) := (64, c_leatref01_Sub) :: o_leatref01_Add
theorem ok_leatref01_Sub (N : Nat) : OrcOK Try.prog o_leatref01_Sub N := orc_cons (t_leatref01_Sub N) (ok_leatref01_Add N)
def s_leatref01_Neg (_ : Nat) : List (Nat × LC) := []
noncomputable def e_leatref01_Neg (N : Nat) : Env := mkEnv Try.prog o_leatref01_Sub (s_leatref01_Neg N) N
theorem q_leatref01_Neg (N : Nat) : LoopsFor (e_leatref01_Neg N) Try.prog 77 0 := ⟨by kernel_rfl, fun j hj => match j, hj with
  | _ + 0, h => absurd h (by omega)⟩
def c_leatref01_Neg : FC := mkF [.sc (.int .i64)] [.sc (.int .i64)] leatref01_Neg
theorem t_leatref01_Neg (N : Nat) : FCOK Try.prog N 77 c_leatref01_Neg := fun_ok facts (ok_leatref01_Sub N) (by kernel_rfl) (by kernel_rfl) (q_leatref01_Neg N) (fun t => by kernel_rfl)
def o_leatref01_Neg : List (Nat × FC) := (77, c_leatref01_Neg) :: o_leatref01_Sub
theorem ok_leatref01_Neg (N : Nat) : OrcOK Try.prog o_leatref01_Neg N := orc_cons (t_leatref01_Neg N) (ok_leatref01_Sub N)
def s_leatref01_Div (_ : Nat) : List (Nat × LC) := []
noncomputable def e_leatref01_Div (N : Nat) : Env := mkEnv Try.prog o_leatref01_Neg (s_leatref01_Div N) N
theorem q_leatref01_Div (N : Nat) : LoopsFor (e_leatref01_Div N) Try.prog 72 0 := ⟨by kernel_rfl, fun j hj => match j, hj with
  | _ + 0, h => absurd h (by omega)⟩
def c_leatref01_Div : FC := mkF [.sc (.int .i64), .sc (.int .i64)] [.sc (.int .i64)] leatref01_Div
theorem t_leatref01_Div (N : Nat) : FCOK Try.prog N 72 c_leatref01_Div := fun_ok facts (ok_leatref01_Neg N) (by kernel_rfl) (by kernel_rfl) (q_leatref01_Div N) (fun t => by kernel_rfl)
def o_leatref01_Div : List (Nat × FC) := (72, c_leatref01_Div) :: o_leatref01_Neg
theorem ok_leatref01_Div (N : Nat) : OrcOK Try.prog o_leatref01_Div N := orc_cons (t_leatref01_Div N) (ok_leatref01_Neg N)
def p_leatref04_Toward_3 : List Pat := [.sc (.int .i64), .sc (.int .i64), .sc (.int .i64), .any, .any, .any, .any, .sc (.int .i64), .sc (.int .i64), .any, .any, .any, .any, .any, .any, .any, .any, .any, .any, .any, .any, .any, .any, .any, .any]
def h_leatref04_Toward_3 : List HPat := []
def x_leatref04_Toward_3 : List XP := [⟨.exit 0, [.sc (.int .i64), .sc (.int .i64), .any, .any, .any, .any, .any, .sc (.int .i64), .any, .any, .any, .any, .any, .any, .any, .any, .any, .any, .any, .any, .any, .any, .any, .any, .any], []⟩]
def lc_leatref04_Toward_3 (N : Nat) : LC := mkLC p_leatref04_Toward_3 h_leatref04_Toward_3 x_leatref04_Toward_3 (leatref04_Toward_L3 N)
def s_leatref04_Toward (N : Nat) : List (Nat × LC) := [(3, lc_leatref04_Toward_3 N)]
noncomputable def e_leatref04_Toward (N : Nat) : Env := mkEnv Try.prog o_leatref01_Div (s_leatref04_Toward N) N
theorem k_leatref04_Toward_3 (N : Nat) : LCOK (e_leatref04_Toward N) 12 (loopAt Try.prog 62 0) (lc_leatref04_Toward_3 N) := mkLC_ok (by kernel_rfl) (by kernel_rfl) (fun F x => by kernel_rfl)
theorem q_leatref04_Toward (N : Nat) : LoopsFor (e_leatref04_Toward N) Try.prog 62 1 := ⟨by kernel_rfl, fun j hj => match j, hj with
  | 0, _ => ⟨lc_leatref04_Toward_3 N, by kernel_rfl, k_leatref04_Toward_3 N⟩
  | _ + 1, h => absurd h (by omega)⟩
def c_leatref04_Toward : FC := mkF [.sc (.int .i64), .sc (.int .i64), .sc (.int .i64)] [.sc (.int .i64)] leatref04_Toward
theorem t_leatref04_Toward (N : Nat) : FCOK Try.prog N 62 c_leatref04_Toward := fun_ok facts (ok_leatref01_Div N) (by kernel_rfl) (by kernel_rfl) (q_leatref04_Toward N) (fun t => by kernel_rfl)
def o_leatref04_Toward : List (Nat × FC) := (62, c_leatref04_Toward) :: o_leatref01_Div
theorem ok_leatref04_Toward (N : Nat) : OrcOK Try.prog o_leatref04_Toward N := orc_cons (t_leatref04_Toward N) (ok_leatref01_Div N)
def p_leatref02_Bits_3 : List Pat := [.sc (.int .u64), .sc (.int .i64), .any, .any, .any, .sl 0, .sc (.int .i64), .any, .any, .any, .any, .any, .any, .any, .any, .any, .any, .any, .any, .any, .any]
def h_leatref02_Bits_3 : List HPat := [.rows 3 [.int .i64]]
def x_leatref02_Bits_3 : List XP := [⟨.exit 0, [.any, .any, .any, .any, .any, .sl 0, .any, .any, .any, .any, .any, .any, .any, .any, .any, .any, .any, .any, .any, .any, .any], [.rows 3 [.int .i64]]⟩]
def lc_leatref02_Bits_3 (N : Nat) : LC := mkLC p_leatref02_Bits_3 h_leatref02_Bits_3 x_leatref02_Bits_3 (leatref02_Bits_L3 N)
def s_leatref02_Bits (N : Nat) : List (Nat × LC) := [(3, lc_leatref02_Bits_3 N)]
noncomputable def e_leatref02_Bits (N : Nat) : Env := mkEnv Try.prog o_leatref04_Toward (s_leatref02_Bits N) N
theorem k_leatref02_Bits_3 (N : Nat) : LCOK (e_leatref02_Bits N) 12 (loopAt Try.prog 85 0) (lc_leatref02_Bits_3 N) := mkLC_ok (by kernel_rfl) (by kernel_rfl) (fun F x => by kernel_rfl)
theorem q_leatref02_Bits (N : Nat) : LoopsFor (e_leatref02_Bits N) Try.prog 85 1 := ⟨by kernel_rfl, fun j hj => match j, hj with
  | 0, _ => ⟨lc_leatref02_Bits_3 N, by kernel_rfl, k_leatref02_Bits_3 N⟩
  | _ + 1, h => absurd h (by omega)⟩
def c_leatref02_Bits : FC := mkF [.sc (.int .u64), .sc (.int .i64)] [.row 3 [.int .i64]] leatref02_Bits
theorem t_leatref02_Bits (N : Nat) : FCOK Try.prog N 85 c_leatref02_Bits := fun_ok facts (ok_leatref04_Toward N) (by kernel_rfl) (by kernel_rfl) (q_leatref02_Bits N) (fun t => by kernel_rfl)
def o_leatref02_Bits : List (Nat × FC) := (85, c_leatref02_Bits) :: o_leatref04_Toward
theorem ok_leatref02_Bits (N : Nat) : OrcOK Try.prog o_leatref02_Bits N := orc_cons (t_leatref02_Bits N) (ok_leatref04_Toward N)
def p_leatref02_Add_4 : List Pat := [.sl 0, .sl 1, .any, .any, .any, .sl 2, .sc (.int .i64), .sc (.int .i64), .any, .any, .any, .any, .any, .any, .any, .any, .any, .any, .any, .any, .any, .any, .any, .any, .any, .any, .any, .any, .any, .any, .any, .any, .any, .any, .any, .any, .any, .any, .any, .any, .any, .any, .any, .any, .any, .any, .any, .any, .any, .any, .any, .any, .any]
def h_leatref02_Add_4 : List HPat := [.ext 3 [.int .i64], .ext 3 [.int .i64], .rows 3 [.int .i64]]
def x_leatref02_Add_4 : List XP := [⟨.exit 0, [.any, .any, .any, .any, .any, .sl 0, .sc (.int .i64), .any, .any, .any, .any, .any, .any, .any, .any, .any, .any, .any, .any, .any, .any, .any, .any, .any, .any, .any, .any, .any, .any, .any, .any, .any, .any, .any, .any, .any, .any, .any, .any, .any, .any, .any, .any, .any, .any, .any, .any, .any, .any, .any, .any, .any, .any], [.rows 3 [.int .i64]]⟩]
def lc_leatref02_Add_4 (N : Nat) : LC := mkLC p_leatref02_Add_4 h_leatref02_Add_4 x_leatref02_Add_4 (leatref02_Add_L4 N)
def s_leatref02_Add (N : Nat) : List (Nat × LC) := [(4, lc_leatref02_Add_4 N)]
noncomputable def e_leatref02_Add (N : Nat) : Env := mkEnv Try.prog o_leatref02_Bits (s_leatref02_Add N) N
theorem k_leatref02_Add_4 (N : Nat) : LCOK (e_leatref02_Add N) 12 (loopAt Try.prog 87 0) (lc_leatref02_Add_4 N) := mkLC_ok (by kernel_rfl) (by kernel_rfl) (fun F x => by kernel_rfl)
theorem q_leatref02_Add (N : Nat) : LoopsFor (e_leatref02_Add N) Try.prog 87 1 := ⟨by kernel_rfl, fun j hj => match j, hj with
  | 0, _ => ⟨lc_leatref02_Add_4 N, by kernel_rfl, k_leatref02_Add_4 N⟩
  | _ + 1, h => absurd h (by omega)⟩
def c_leatref02_Add : FC := mkF [.row 3 [.int .i64], .row 3 [.int .i64]] [.row 3 [.int .i64]] leatref02_Add
theorem t_leatref02_Add (N : Nat) : FCOK Try.prog N 87 c_leatref02_Add := fun_ok facts (ok_leatref02_Bits N) (by kernel_rfl) (by kernel_rfl) (q_leatref02_Add N) (fun t => by kernel_rfl)
def o_leatref02_Add : List (Nat × FC) := (87, c_leatref02_Add) :: o_leatref02_Bits
theorem ok_leatref02_Add (N : Nat) : OrcOK Try.prog o_leatref02_Add N := orc_cons (t_leatref02_Add N) (ok_leatref02_Bits N)
def p_leatref02_Mul_3 : List Pat := [.sl 0, .sl 1, .any, .any, .any, .sl 2, .sc (.int .i64), .any, .any, .any, .any, .any, .any, .any, .any, .any, .any, .any, .any, .any, .any, .any, .any, .any, .any, .any]
def h_leatref02_Mul_3 : List HPat := [.ext 3 [.int .i64], .ext 3 [.int .i64], .rows 3 [.int .i64]]
def x_leatref02_Mul_3 : List XP := [⟨.exit 0, [.any, .any, .any, .any, .any, .sl 0, .any, .any, .any, .any, .any, .any, .any, .any, .any, .any, .any, .any, .any, .any, .any, .any, .any, .any, .any, .any], [.rows 3 [.int .i64]]⟩]
def lc_leatref02_Mul_3 (N : Nat) : LC := mkLC p_leatref02_Mul_3 h_leatref02_Mul_3 x_leatref02_Mul_3 (leatref02_Mul_L3 N)
def s_leatref02_Mul (N : Nat) : List (Nat × LC) := [(3, lc_leatref02_Mul_3 N)]
noncomputable def e_leatref02_Mul (N : Nat) : Env := mkEnv Try.prog o_leatref02_Add (s_leatref02_Mul N) N
theorem k_leatref02_Mul_3 (N : Nat) : LCOK (e_leatref02_Mul N) 12 (loopAt Try.prog 84 0) (lc_leatref02_Mul_3 N) := mkLC_ok (by kernel_rfl) (by kernel_rfl) (fun F x => by kernel_rfl)
theorem q_leatref02_Mul (N : Nat) : LoopsFor (e_leatref02_Mul N) Try.prog 84 1 := ⟨by kernel_rfl, fun j hj => match j, hj with
  | 0, _ => ⟨lc_leatref02_Mul_3 N, by kernel_rfl, k_leatref02_Mul_3 N⟩
  | _ + 1, h => absurd h (by omega)⟩
def c_leatref02_Mul : FC := mkF [.row 3 [.int .i64], .row 3 [.int .i64]] [.row 3 [.int .i64]] leatref02_Mul
theorem t_leatref02_Mul (N : Nat) : FCOK Try.prog N 84 c_leatref02_Mul := fun_ok facts (ok_leatref02_Add N) (by kernel_rfl) (by kernel_rfl) (q_leatref02_Mul N) (fun t => by kernel_rfl)
def o_leatref02_Mul : List (Nat × FC) := (84, c_leatref02_Mul) :: o_leatref02_Add
theorem ok_leatref02_Mul (N : Nat) : OrcOK Try.prog o_leatref02_Mul N := orc_cons (t_leatref02_Mul N) (ok_leatref02_Add N)
def p_leatref02_Cmp_2 : List Pat := [.sl 0, .sl 1, .any, .any, .any, .sc (.int .i64), .any, .any, .any, .any, .any, .any, .any, .any, .any, .any, .any, .any, .any, .any, .any, .any, .any, .any, .any, .any, .any, .any, .any, .any, .any, .any, .any, .any, .any, .any, .any, .any, .any, .any]
def h_leatref02_Cmp_2 : List HPat := [.ext 3 [.int .i64], .ext 3 [.int .i64]]
def x_leatref02_Cmp_2 : List XP := [⟨.ret, [.any, .any, .any, .any, .sc (.int .i64), .any, .any, .any, .any, .any, .any, .any, .any, .any, .any, .any, .any, .any, .any, .any, .any, .any, .any, .any, .any, .any, .any, .any, .any, .any, .any, .any, .any, .any, .any, .any, .any, .any, .any, .any], []⟩, ⟨.exit 0, [.any, .any, .any, .any, .any, .any, .any, .any, .any, .any, .any, .any, .any, .any, .any, .any, .any, .any, .any, .any, .any, .any, .any, .any, .any, .any, .any, .any, .any, .any, .any, .any, .any, .any, .any, .any, .any, .any, .any, .any], []⟩]
def lc_leatref02_Cmp_2 (N : Nat) : LC := mkLC p_leatref02_Cmp_2 h_leatref02_Cmp_2 x_leatref02_Cmp_2 (leatref02_Cmp_L2 N)
def s_leatref02_Cmp (N : Nat) : List (Nat × LC) := [(2, lc_leatref02_Cmp_2 N)]
noncomputable def e_leatref02_Cmp (N : Nat) : Env := mkEnv Try.prog o_leatref02_Mul (s_leatref02_Cmp N) N
theorem k_leatref02_Cmp_2 (N : Nat) : LCOK (e_leatref02_Cmp N) 12 (loopAt Try.prog 86 0) (lc_leatref02_Cmp_2 N) := mkLC_ok (by kernel_rfl) (by kernel_rfl) (fun F x => by kernel_rfl)
theorem q_leatref02_Cmp (N : Nat) : LoopsFor (e_leatref02_Cmp N) Try.prog 86 1 := ⟨by kernel_rfl, fun j hj => match j, hj with
  | 0, _ => ⟨lc_leatref02_Cmp_2 N, by kernel_rfl, k_leatref02_Cmp_2 N⟩
  | _ + 1, h => absurd h (by omega)⟩
def c_leatref02_Cmp : FC := mkF [.row 3 [.int .i64], .row 3 [.int .i64]] [.sc (.int .i64)] leatref02_Cmp
theorem t_leatref02_Cmp (N : Nat) : FCOK Try.prog N 86 c_leatref02_Cmp := fun_ok facts (ok_leatref02_Mul N) (by kernel_rfl) (by kernel_rfl) (q_leatref02_Cmp N) (fun t => by kernel_rfl)
def o_leatref02_Cmp : List (Nat × FC) := (86, c_leatref02_Cmp) :: o_leatref02_Mul
theorem ok_leatref02_Cmp (N : Nat) : OrcOK Try.prog o_leatref02_Cmp N := orc_cons (t_leatref02_Cmp N) (ok_leatref02_Mul N)
def p_leatref02_Sub_4 : List Pat := [.sl 0, .sl 1, .any, .any, .any, .sl 2, .sc (.int .i64), .sc (.int .i64), .any, .any, .any, .any, .any, .any, .any, .any, .any, .any, .any, .any, .any, .any, .any, .any, .any, .any, .any, .any, .any, .any, .any, .any, .any, .any, .any, .any, .any, .any, .any, .any]
def h_leatref02_Sub_4 : List HPat := [.ext 3 [.int .i64], .ext 3 [.int .i64], .rows 3 [.int .i64]]
def x_leatref02_Sub_4 : List XP := [⟨.exit 0, [.any, .any, .any, .any, .any, .sl 0, .any, .any, .any, .any, .any, .any, .any, .any, .any, .any, .any, .any, .any, .any, .any, .any, .any, .any, .any, .any, .any, .any, .any, .any, .any, .any, .any, .any, .any, .any, .any, .any, .any, .any], [.rows 3 [.int .i64]]⟩]
def lc_leatref02_Sub_4 (N : Nat) : LC := mkLC p_leatref02_Sub_4 h_leatref02_Sub_4 x_leatref02_Sub_4 (leatref02_Sub_L4 N)
def s_leatref02_Sub (N : Nat) : List (Nat × LC) := [(4, lc_leatref02_Sub_4 N)]
noncomputable def e_leatref02_Sub (N : Nat) : Env := mkEnv Try.prog o_leatref02_Cmp (s_leatref02_Sub N) N
theorem k_leatref02_Sub_4 (N : Nat) : LCOK (e_leatref02_Sub N) 12 (loopAt Try.prog 91 0) (lc_leatref02_Sub_4 N) := mkLC_ok (by kernel_rfl) (by kernel_rfl) (fun F x => by kernel_rfl)
theorem q_leatref02_Sub (N : Nat) : LoopsFor (e_leatref02_Sub N) Try.prog 91 1 := ⟨by kernel_rfl, fun j hj => match j, hj with
  | 0, _ => ⟨lc_leatref02_Sub_4 N, by kernel_rfl, k_leatref02_Sub_4 N⟩
  | _ + 1, h => absurd h (by omega)⟩
def c_leatref02_Sub : FC := mkF [.row 3 [.int .i64], .row 3 [.int .i64]] [.row 3 [.int .i64]] leatref02_Sub
theorem t_leatref02_Sub (N : Nat) : FCOK Try.prog N 91 c_leatref02_Sub := fun_ok facts (ok_leatref02_Cmp N) (by kernel_rfl) (by kernel_rfl) (q_leatref02_Sub N) (fun t => by kernel_rfl)
def o_leatref02_Sub : List (Nat × FC) := (91, c_leatref02_Sub) :: o_leatref02_Cmp
theorem ok_leatref02_Sub (N : Nat) : OrcOK Try.prog o_leatref02_Sub N := orc_cons (t_leatref02_Sub N) (ok_leatref02_Cmp N)
def p_leatref02_Div_4 : List Pat := [.sl 0, .sl 1, .any, .any, .any, .any, .sl 2, .sl 3, .sc (.int .i64), .any, .any, .any, .any, .any, .any, .any, .any, .any, .any, .any, .any, .any, .any, .any, .any, .any, .any, .any, .any, .any, .any, .any, .any, .any, .any, .any, .any, .any, .any]
def h_leatref02_Div_4 : List HPat := [.ext 3 [.int .i64], .ext 3 [.int .i64], .rows 3 [.int .i64], .rows 3 [.int .i64]]
def x_leatref02_Div_4 : List XP := [⟨.exit 0, [.any, .any, .any, .any, .any, .any, .sl 0, .sl 1, .any, .any, .any, .any, .any, .any, .any, .any, .any, .any, .any, .any, .any, .any, .any, .any, .any, .any, .any, .any, .any, .any, .any, .any, .any, .any, .any, .any, .any, .any, .any], [.rows 3 [.int .i64], .rows 3 [.int .i64]]⟩]
def lc_leatref02_Div_4 (N : Nat) : LC := mkLC p_leatref02_Div_4 h_leatref02_Div_4 x_leatref02_Div_4 (leatref02_Div_L4 N)
def s_leatref02_Div (N : Nat) : List (Nat × LC) := [(4, lc_leatref02_Div_4 N)]
noncomputable def e_leatref02_Div (N : Nat) : Env := mkEnv Try.prog o_leatref02_Sub (s_leatref02_Div N) N
theorem k_leatref02_Div_4 (N : Nat) : LCOK (e_leatref02_Div N) 12 (loopAt Try.prog 83 0) (lc_leatref02_Div_4 N) := mkLC_ok (by kernel_rfl) (by kernel_rfl) (fun F x => by kernel_rfl)
theorem q_leatref02_Div (N : Nat) : LoopsFor (e_leatref02_Div N) Try.prog 83 1 := ⟨by kernel_rfl, fun j hj => match j, hj with
  | 0, _ => ⟨lc_leatref02_Div_4 N, by kernel_rfl, k_leatref02_Div_4 N⟩
  | _ + 1, h => absurd h (by omega)⟩
def c_leatref02_Div : FC := mkF [.row 3 [.int .i64], .row 3 [.int .i64]] [.row 3 [.int .i64], .row 3 [.int .i64]] leatref02_Div
theorem t_leatref02_Div (N : Nat) : FCOK Try.prog N 83 c_leatref02_Div := fun_ok facts (ok_leatref02_Sub N) (by kernel_rfl) (by kernel_rfl) (q_leatref02_Div N) (fun t => by kernel_rfl)
def o_leatref02_Div : List (Nat × FC) := (83, c_leatref02_Div) :: o_leatref02_Sub
theorem ok_leatref02_Div (N : Nat) : OrcOK Try.prog o_leatref02_Div N := orc_cons (t_leatref02_Div N) (ok_leatref02_Sub N)
def p_leatref02_Num_3 : List Pat := [.sl 0, .sc (.int .i64), .any, .any, .any, .sc (.int .u64), .sc (.int .i64), .any, .any, .any, .any, .any, .any, .any, .any, .any, .any, .any, .any, .any, .any, .any, .any, .any, .any, .any, .any, .any, .any, .any, .any]
def h_leatref02_Num_3 : List HPat := [.ext 3 [.int .i64]]
def x_leatref02_Num_3 : List XP := [⟨.exit 0, [.any, .any, .any, .any, .any, .sc (.int .u64), .any, .any, .any, .any, .any, .any, .any, .any, .any, .any, .any, .any, .any, .any, .any, .any, .any, .any, .any, .any, .any, .any, .any, .any, .any], []⟩]
def lc_leatref02_Num_3 (N : Nat) : LC := mkLC p_leatref02_Num_3 h_leatref02_Num_3 x_leatref02_Num_3 (leatref02_Num_L3 N)
def s_leatref02_Num (N : Nat) : List (Nat × LC) := [(3, lc_leatref02_Num_3 N)]
noncomputable def e_leatref02_Num (N : Nat) : Env := mkEnv Try.prog o_leatref02_Div (s_leatref02_Num N) N
theorem k_leatref02_Num_3 (N : Nat) : LCOK (e_leatref02_Num N) 12 (loopAt Try.prog 88 0) (lc_leatref02_Num_3 N) := mkLC_ok (by kernel_rfl) (by kernel_rfl) (fun F x => by kernel_rfl)
theorem q_leatref02_Num (N : Nat) : LoopsFor (e_leatref02_Num N) Try.prog 88 1 := ⟨by kernel_rfl, fun j hj => match j, hj with
  | 0, _ => ⟨lc_leatref02_Num_3 N, by kernel_rfl, k_leatref02_Num_3 N⟩
  | _ + 1, h => absurd h (by omega)⟩
def c_leatref02_Num : FC := mkF [.row 3 [.int .i64], .sc (.int .i64)] [.sc (.int .u64)] leatref02_Num
theorem t_leatref02_Num (N : Nat) : FCOK Try.prog N 88 c_leatref02_Num := fun_ok facts (ok_leatref02_Div N) (by kernel_rfl) (by kernel_rfl) (q_leatref02_Num N) (fun t => by kernel_rfl)
def o_leatref02_Num : List (Nat × FC) := (88, c_leatref02_Num) :: o_leatref02_Div
theorem ok_leatref02_Num (N : Nat) : OrcOK Try.prog o_leatref02_Num N := orc_cons (t_leatref02_Num N) (ok_leatref02_Div N)
def s_leatref02_MulDiv (_ : Nat) : List (Nat × LC) := []
noncomputable def e_leatref02_MulDiv (N : Nat) : Env := mkEnv Try.prog o_leatref02_Num (s_leatref02_MulDiv N) N
theorem q_leatref02_MulDiv (N : Nat) : LoopsFor (e_leatref02_MulDiv N) Try.prog 78 0 := ⟨by kernel_rfl, fun j hj => match j, hj with
  | _ + 0, h => absurd h (by omega)⟩
def c_leatref02_MulDiv : FC := mkF [.sc (.int .i64), .sc (.int .i64), .sc (.int .i64), .sc (.bool)] [.sc (.int .i64), .sc (.int .i64)] leatref02_MulDiv
theorem t_leatref02_MulDiv (N : Nat) : FCOK Try.prog N 78 c_leatref02_MulDiv := fun_ok facts (ok_leatref02_Num N) (by kernel_rfl) (by kernel_rfl) (q_leatref02_MulDiv N) (fun t => by kernel_rfl)
def o_leatref02_MulDiv : List (Nat × FC) := (78, c_leatref02_MulDiv) :: o_leatref02_Num
theorem ok_leatref02_MulDiv (N : Nat) : OrcOK Try.prog o_leatref02_MulDiv N := orc_cons (t_leatref02_MulDiv N) (ok_leatref02_Num N)
def s_leatref04_quo (_ : Nat) : List (Nat × LC) := []
noncomputable def e_leatref04_quo (N : Nat) : Env := mkEnv Try.prog o_leatref02_MulDiv (s_leatref04_quo N) N
theorem q_leatref04_quo (N : Nat) : LoopsFor (e_leatref04_quo N) Try.prog 73 0 := ⟨by kernel_rfl, fun j hj => match j, hj with
  | _ + 0, h => absurd h (by omega)⟩
def c_leatref04_quo : FC := mkF [.sc (.int .i64), .sc (.int .i64), .sc (.int .i64)] [.sc (.int .i64)] leatref04_quo
theorem t_leatref04_quo (N : Nat) : FCOK Try.prog N 73 c_leatref04_quo := fun_ok facts (ok_leatref02_MulDiv N) (by kernel_rfl) (by kernel_rfl) (q_leatref04_quo N) (fun t => by kernel_rfl)
def o_leatref04_quo : List (Nat × FC) := (73, c_leatref04_quo) :: o_leatref02_MulDiv
theorem ok_leatref04_quo (N : Nat) : OrcOK Try.prog o_leatref04_quo N := orc_cons (t_leatref04_quo N) (ok_leatref02_MulDiv N)
def s_leatref04_Ratio (_ : Nat) : List (Nat × LC) := []
noncomputable def e_leatref04_Ratio (N : Nat) : Env := mkEnv Try.prog o_leatref04_quo (s_leatref04_Ratio N) N
theorem q_leatref04_Ratio (N : Nat) : LoopsFor (e_leatref04_Ratio N) Try.prog 63 0 := ⟨by kernel_rfl, fun j hj => match j, hj with
  | _ + 0, h => absurd h (by omega)⟩
def c_leatref04_Ratio : FC := mkF [.sc (.int .i64), .sc (.int .i64)] [.sc (.int .i64)] leatref04_Ratio
theorem t_leatref04_Ratio (N : Nat) : FCOK Try.prog N 63 c_leatref04_Ratio := fun_ok facts (ok_leatref04_quo N) (by kernel_rfl) (by kernel_rfl) (q_leatref04_Ratio N) (fun t => by kernel_rfl)
def o_leatref04_Ratio : List (Nat × FC) := (63, c_leatref04_Ratio) :: o_leatref04_quo
theorem ok_leatref04_Ratio (N : Nat) : OrcOK Try.prog o_leatref04_Ratio N := orc_cons (t_leatref04_Ratio N) (ok_leatref04_quo N)
def s_leatref27_Round (_ : Nat) : List (Nat × LC) := []
noncomputable def e_leatref27_Round (N : Nat) : Env := mkEnv Try.prog o_leatref04_Ratio (s_leatref27_Round N) N
theorem q_leatref27_Round (N : Nat) : LoopsFor (e_leatref27_Round N) Try.prog 40 0 := ⟨by kernel_rfl, fun j hj => match j, hj with
  | _ + 0, h => absurd h (by omega)⟩
def c_leatref27_Round : FC := mkF [.agg [.int .i64], .sc (.bool), .sc (.int .i64), .sc (.int .i64)] [.agg [.int .i64]] leatref27_Round
theorem t_leatref27_Round (N : Nat) : FCOK Try.prog N 40 c_leatref27_Round := fun_ok facts (ok_leatref04_Ratio N) (by kernel_rfl) (by kernel_rfl) (q_leatref27_Round N) (fun t => by kernel_rfl)
def o_leatref27_Round : List (Nat × FC) := (40, c_leatref27_Round) :: o_leatref04_Ratio
theorem ok_leatref27_Round (N : Nat) : OrcOK Try.prog o_leatref27_Round N := orc_cons (t_leatref27_Round N) (ok_leatref04_Ratio N)
def s_classic_Old (_ : Nat) : List (Nat × LC) := []
noncomputable def e_classic_Old (N : Nat) : Env := mkEnv Try.prog o_leatref27_Round (s_classic_Old N) N
theorem q_classic_Old (N : Nat) : LoopsFor (e_classic_Old N) Try.prog 41 0 := ⟨by kernel_rfl, fun j hj => match j, hj with
  | _ + 0, h => absurd h (by omega)⟩
def c_classic_Old : FC := mkF [.agg [.int .i64]] [.sc (.bool)] classic_Old
theorem t_classic_Old (N : Nat) : FCOK Try.prog N 41 c_classic_Old := fun_ok facts (ok_leatref27_Round N) (by kernel_rfl) (by kernel_rfl) (q_classic_Old N) (fun t => by kernel_rfl)
def o_classic_Old : List (Nat × FC) := (41, c_classic_Old) :: o_leatref27_Round
theorem ok_classic_Old (N : Nat) : OrcOK Try.prog o_classic_Old N := orc_cons (t_classic_Old N) (ok_leatref27_Round N)
def s_leatlaw27_works (_ : Nat) : List (Nat × LC) := []
noncomputable def e_leatlaw27_works (N : Nat) : Env := mkEnv Try.prog o_classic_Old (s_leatlaw27_works N) N
theorem q_leatlaw27_works (N : Nat) : LoopsFor (e_leatlaw27_works N) Try.prog 42 0 := ⟨by kernel_rfl, fun j hj => match j, hj with
  | _ + 0, h => absurd h (by omega)⟩
def c_leatlaw27_works : FC := mkF [] [.sc (.bool)] leatlaw27_works
theorem t_leatlaw27_works (N : Nat) : FCOK Try.prog N 42 c_leatlaw27_works := fun_ok facts (ok_classic_Old N) (by kernel_rfl) (by kernel_rfl) (q_leatlaw27_works N) (fun t => by kernel_rfl)
def o_leatlaw27_works : List (Nat × FC) := (42, c_leatlaw27_works) :: o_classic_Old
theorem ok_leatlaw27_works (N : Nat) : OrcOK Try.prog o_leatlaw27_works N := orc_cons (t_leatlaw27_works N) (ok_classic_Old N)
def s_leatlaw27_ClassicRounds (_ : Nat) : List (Nat × LC) := []
noncomputable def e_leatlaw27_ClassicRounds (N : Nat) : Env := mkEnv Try.prog o_leatlaw27_works (s_leatlaw27_ClassicRounds N) N
theorem q_leatlaw27_ClassicRounds (N : Nat) : LoopsFor (e_leatlaw27_ClassicRounds N) Try.prog 12 0 := ⟨by kernel_rfl, fun j hj => match j, hj with
  | _ + 0, h => absurd h (by omega)⟩
theorem okL_leatlaw27_ClassicRounds (N : Nat) : OrcOK Try.prog o_leatlaw27_works N := ok_leatlaw27_works N
theorem w_leatlaw27_ClassicRounds (N : Nat) (x : RT [.agg [.int .i64], .sc (.bool), .agg [.int .i64, .int .i64]]) : uncR [.agg [.int .i64], .sc (.bool), .agg [.int .i64, .int .i64]] (leatlaw27_ClassicRounds N) x = evFn (e_leatlaw27_ClassicRounds N) 13 12 (encA 0 [.agg [.int .i64], .sc (.bool), .agg [.int .i64, .int .i64]] x).1 (encA 0 [.agg [.int .i64], .sc (.bool), .agg [.int .i64, .int .i64]] x).2 (decR [.sc .bool]) := by kernel_rfl
def p_leatlaw27_ClassicWaits_4 : List Pat := [.any, .sc (.int .i64), .any, .any, .any, .ptr 0 0, .sc (.int .i64), .any, .any, .any, .any, .sl 1, .sc (.int .i64), .sc (.int .i64), .any, .any, .any, .any, .any, .any, .any, .any, .any, .any, .any, .any, .any, .any, .any, .any, .any, .any, .any, .any, .any, .any, .any, .any, .any, .any, .any, .any, .any, .any, .any, .any, .any, .any, .any, .any, .any, .any, .any, .any, .any, .any, .any, .any, .any, .any, .any, .any, .any, .any, .any, .any, .any, .any, .any, .any, .any, .any, .any, .any, .any, .any, .any, .any, .any]
def h_leatlaw27_ClassicWaits_4 : List HPat := [.cells [.sc (.int .i64)], .ext 66 [.bool, .int .i64]]
def x_leatlaw27_ClassicWaits_4 : List XP := [⟨.exit 0, [.any, .any, .any, .any, .any, .any, .any, .any, .any, .any, .any, .any, .any, .any, .any, .any, .any, .any, .any, .any, .any, .any, .any, .any, .any, .any, .any, .any, .any, .any, .any, .any, .any, .any, .any, .any, .any, .any, .any, .any, .any, .any, .any, .any, .any, .any, .any, .any, .any, .any, .any, .any, .any, .any, .any, .any, .any, .any, .any, .any, .any, .any, .any, .any, .any, .any, .any, .any, .any, .any, .any, .any, .any, .any, .any, .any, .any, .any, .any], []⟩, ⟨.ret, [.any, .any, .any, .any, .sc (.bool), .any, .any, .any, .any, .any, .any, .any, .any, .any, .any, .any, .any, .any, .any, .any, .any, .any, .any, .any, .any, .any, .any, .any, .any, .any, .any, .any, .any, .any, .any, .any, .any, .any, .any, .any, .any, .any, .any, .any, .any, .any, .any, .any, .any, .any, .any, .any, .any, .any, .any, .any, .any, .any, .any, .any, .any, .any, .any, .any, .any, .any, .any, .any, .any, .any, .any, .any, .any, .any, .any, .any, .any, .any, .any], []⟩]
def lc_leatlaw27_ClassicWaits_4 (N : Nat) : LC := mkLC p_leatlaw27_ClassicWaits_4 h_leatlaw27_ClassicWaits_4 x_leatlaw27_ClassicWaits_4 (leatlaw27_ClassicWaits_L4 N)
def s_leatlaw27_ClassicWaits (N : Nat) : List (Nat × LC) := [(4, lc_leatlaw27_ClassicWaits_4 N)]
noncomputable def e_leatlaw27_ClassicWaits (N : Nat) : Env := mkEnv Try.prog o_leatlaw27_works (s_leatlaw27_ClassicWaits N) N
theorem k_leatlaw27_ClassicWaits_4 (N : Nat) : LCOK (e_leatlaw27_ClassicWaits N) 12 (loopAt Try.prog 13 0) (lc_leatlaw27_ClassicWaits_4 N) := mkLC_ok (by kernel_rfl) (by kernel_rfl) (fun F x => by kernel_rfl)
theorem q_leatlaw27_ClassicWaits (N : Nat) : LoopsFor (e_leatlaw27_ClassicWaits N) Try.prog 13 1 := ⟨by kernel_rfl, fun j hj => match j, hj with
  | 0, _ => ⟨lc_leatlaw27_ClassicWaits_4 N, by kernel_rfl, k_leatlaw27_ClassicWaits_4 N⟩
  | _ + 1, h => absurd h (by omega)⟩
theorem okL_leatlaw27_ClassicWaits (N : Nat) : OrcOK Try.prog o_leatlaw27_works N := ok_leatlaw27_works N
theorem w_leatlaw27_ClassicWaits (N : Nat) (x : RT [.row 66 [.bool, .int .i64], .sc (.int .i64)]) : uncR [.row 66 [.bool, .int .i64], .sc (.int .i64)] (leatlaw27_ClassicWaits N) x = evFn (e_leatlaw27_ClassicWaits N) 13 13 (encA 0 [.row 66 [.bool, .int .i64], .sc (.int .i64)] x).1 (encA 0 [.row 66 [.bool, .int .i64], .sc (.int .i64)] x).2 (decR [.sc .bool]) := by kernel_rfl
end Go.Proofs.Ytfiiifogplhppaa.W
