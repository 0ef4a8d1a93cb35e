/- The functions of the seat, as the evaluator tells them, each with its contract. Printed by genW.py. -/
import Derived.Test.YtakjmminaolfnaaW0
import Derived.Test.YtakjmminaolfnaaRows
namespace Go.Proofs.Ytakjmminaolfnaa.W
open Go.Ev Go.RowKit
theorem facts : Facts Try.prog := ⟨by kernel_rfl, names_of (by kernel_rfl)⟩
def o_0 : List (Nat × FC) := []
theorem ok_0 (N : Nat) : OrcOK Try.prog o_0 N := orc_nil
def s_leatref49_keep (_ : Nat) : List (Nat × LC) := []
noncomputable def e_leatref49_keep (N : Nat) : Env := mkEnv Try.prog o_0 (s_leatref49_keep N) N
theorem q_leatref49_keep (N : Nat) : LoopsFor (e_leatref49_keep N) Try.prog 52 0 := ⟨by kernel_rfl, fun j hj => match j, hj with
  | _ + 0, h => absurd h (by omega)⟩
def c_leatref49_keep : FC := mkF [.sc (.int .i64), .sc (.int .i64), .sc (.int .i64)] [.sc (.int .i64)] leatref49_keep
theorem t_leatref49_keep (N : Nat) : FCOK Try.prog N 52 c_leatref49_keep := fun_ok facts (ok_0 N) (by kernel_rfl) (by kernel_rfl) (q_leatref49_keep N) (fun t => by kernel_rfl)
def o_leatref49_keep : List (Nat × FC) := (52, c_leatref49_keep) :: o_0
theorem ok_leatref49_keep (N : Nat) : OrcOK Try.prog o_leatref49_keep N := orc_cons (t_leatref49_keep N) (ok_0 N)
def s_leatref49_Size (_ : Nat) : List (Nat × LC) := []
noncomputable def e_leatref49_Size (N : Nat) : Env := mkEnv Try.prog o_leatref49_keep (s_leatref49_Size N) N
theorem q_leatref49_Size (N : Nat) : LoopsFor (e_leatref49_Size N) Try.prog 13 0 := ⟨by kernel_rfl, fun j hj => match j, hj with
  | _ + 0, h => absurd h (by omega)⟩
def c_leatref49_Size : FC := mkF [.sc (.int .i64)] [.sc (.int .i64)] leatref49_Size
theorem t_leatref49_Size (N : Nat) : FCOK Try.prog N 13 c_leatref49_Size := fun_ok facts (ok_leatref49_keep N) (by kernel_rfl) (by kernel_rfl) (q_leatref49_Size N) (fun t => by kernel_rfl)
def o_leatref49_Size : List (Nat × FC) := (13, c_leatref49_Size) :: o_leatref49_keep
theorem ok_leatref49_Size (N : Nat) : OrcOK Try.prog o_leatref49_Size N := orc_cons (t_leatref49_Size N) (ok_leatref49_keep N)
def s_sat_Clamp (_ : Nat) : List (Nat × LC) := []
noncomputable def e_sat_Clamp (N : Nat) : Env := mkEnv Try.prog o_leatref49_Size (s_sat_Clamp N) N
theorem q_sat_Clamp (N : Nat) : LoopsFor (e_sat_Clamp N) Try.prog 55 0 := ⟨by kernel_rfl, fun j hj => match j, hj with
  | _ + 0, h => absurd h (by omega)⟩
def c_sat_Clamp : FC := mkF [.sc (.int .i64), .sc (.int .i64), .sc (.int .i64)] [.sc (.int .i64)] sat_Clamp
theorem t_sat_Clamp (N : Nat) : FCOK Try.prog N 55 c_sat_Clamp := fun_ok facts (ok_leatref49_Size N) (by kernel_rfl) (by kernel_rfl) (q_sat_Clamp N) (fun t => by kernel_rfl)
def o_sat_Clamp : List (Nat × FC) := (55, c_sat_Clamp) :: o_leatref49_Size
theorem ok_sat_Clamp (N : Nat) : OrcOK Try.prog o_sat_Clamp N := orc_cons (t_sat_Clamp N) (ok_leatref49_Size N)
def s_cubic_size (_ : Nat) : List (Nat × LC) := []
noncomputable def e_cubic_size (N : Nat) : Env := mkEnv Try.prog o_sat_Clamp (s_cubic_size N) N
theorem q_cubic_size (N : Nat) : LoopsFor (e_cubic_size N) Try.prog 54 0 := ⟨by kernel_rfl, fun j hj => match j, hj with
  | _ + 0, h => absurd h (by omega)⟩
def c_cubic_size : FC := mkF [.sc (.int .i64)] [.sc (.int .i64)] cubic_size
theorem t_cubic_size (N : Nat) : FCOK Try.prog N 54 c_cubic_size := fun_ok facts (ok_sat_Clamp N) (by kernel_rfl) (by kernel_rfl) (q_cubic_size N) (fun t => by kernel_rfl)
def o_cubic_size : List (Nat × FC) := (54, c_cubic_size) :: o_sat_Clamp
theorem ok_cubic_size (N : Nat) : OrcOK Try.prog o_cubic_size N := orc_cons (t_cubic_size N) (ok_sat_Clamp N)
def s_cubic_within (_ : Nat) : List (Nat × LC) := []
noncomputable def e_cubic_within (N : Nat) : Env := mkEnv Try.prog o_cubic_size (s_cubic_within N) N
theorem q_cubic_within (N : Nat) : LoopsFor (e_cubic_within N) Try.prog 53 0 := ⟨by kernel_rfl, fun j hj => match j, hj with
  | _ + 0, h => absurd h (by omega)⟩
def c_cubic_within : FC := mkF [.agg [.int .i64, .int .i64, .int .i64, .int .i64, .int .i64, .int .i64], .sc (.int .i64)] [.agg [.int .i64, .int .i64, .int .i64, .int .i64, .int .i64, .int .i64]] cubic_within
theorem t_cubic_within (N : Nat) : FCOK Try.prog N 53 c_cubic_within := fun_ok facts (ok_cubic_size N) (by kernel_rfl) (by kernel_rfl) (q_cubic_within N) (fun t => by kernel_rfl)
def o_cubic_within : List (Nat × FC) := (53, c_cubic_within) :: o_cubic_size
theorem ok_cubic_within (N : Nat) : OrcOK Try.prog o_cubic_within N := orc_cons (t_cubic_within N) (ok_cubic_size N)
def s_cubic_Cut (_ : Nat) : List (Nat × LC) := []
noncomputable def e_cubic_Cut (N : Nat) : Env := mkEnv Try.prog o_cubic_within (s_cubic_Cut N) N
theorem q_cubic_Cut (N : Nat) : LoopsFor (e_cubic_Cut N) Try.prog 14 0 := ⟨by kernel_rfl, fun j hj => match j, hj with
  | _ + 0, h => absurd h (by omega)⟩
def c_cubic_Cut : FC := mkF [.agg [.int .i64, .int .i64, .int .i64, .int .i64, .int .i64, .int .i64], .sc (.int .i64)] [.agg [.int .i64, .int .i64, .int .i64, .int .i64, .int .i64, .int .i64]] cubic_Cut
theorem t_cubic_Cut (N : Nat) : FCOK Try.prog N 14 c_cubic_Cut := fun_ok facts (ok_cubic_within N) (by kernel_rfl) (by kernel_rfl) (q_cubic_Cut N) (fun t => by kernel_rfl)
def o_cubic_Cut : List (Nat × FC) := (14, c_cubic_Cut) :: o_cubic_within
theorem ok_cubic_Cut (N : Nat) : OrcOK Try.prog o_cubic_Cut N := orc_cons (t_cubic_Cut N) (ok_cubic_within N)
def s_leatref49_Within (_ : Nat) : List (Nat × LC) := []
noncomputable def e_leatref49_Within (N : Nat) : Env := mkEnv Try.prog o_cubic_Cut (s_leatref49_Within N) N
theorem q_leatref49_Within (N : Nat) : LoopsFor (e_leatref49_Within N) Try.prog 26 0 := ⟨by kernel_rfl, fun j hj => match j, hj with
  | _ + 0, h => absurd h (by omega)⟩
def c_leatref49_Within : FC := mkF [.agg [.int .i64, .int .i64, .int .i64, .int .i64, .int .i64, .int .i64], .sc (.int .i64)] [.agg [.int .i64, .int .i64, .int .i64, .int .i64, .int .i64, .int .i64]] leatref49_Within
theorem t_leatref49_Within (N : Nat) : FCOK Try.prog N 26 c_leatref49_Within := fun_ok facts (ok_cubic_Cut N) (by kernel_rfl) (by kernel_rfl) (q_leatref49_Within N) (fun t => by kernel_rfl)
def o_leatref49_Within : List (Nat × FC) := (26, c_leatref49_Within) :: o_cubic_Cut
theorem ok_leatref49_Within (N : Nat) : OrcOK Try.prog o_leatref49_Within N := orc_cons (t_leatref49_Within N) (ok_cubic_Cut N)
def s_leatref49_Cut (_ : Nat) : List (Nat × LC) := []
noncomputable def e_leatref49_Cut (N : Nat) : Env := mkEnv Try.prog o_leatref49_Within (s_leatref49_Cut N) N
theorem q_leatref49_Cut (N : Nat) : LoopsFor (e_leatref49_Cut N) Try.prog 15 0 := ⟨by kernel_rfl, fun j hj => match j, hj with
  | _ + 0, h => absurd h (by omega)⟩
def c_leatref49_Cut : FC := mkF [.agg [.int .i64, .int .i64, .int .i64, .int .i64, .int .i64, .int .i64], .sc (.int .i64)] [.agg [.int .i64, .int .i64, .int .i64, .int .i64, .int .i64, .int .i64]] leatref49_Cut
theorem t_leatref49_Cut (N : Nat) : FCOK Try.prog N 15 c_leatref49_Cut := fun_ok facts (ok_leatref49_Within N) (by kernel_rfl) (by kernel_rfl) (q_leatref49_Cut N) (fun t => by kernel_rfl)
def o_leatref49_Cut : List (Nat × FC) := (15, c_leatref49_Cut) :: o_leatref49_Within
theorem ok_leatref49_Cut (N : Nat) : OrcOK Try.prog o_leatref49_Cut N := orc_cons (t_leatref49_Cut N) (ok_leatref49_Within N)
def s_cubic_Start (_ : Nat) : List (Nat × LC) := []
noncomputable def e_cubic_Start (N : Nat) : Env := mkEnv Try.prog o_leatref49_Cut (s_cubic_Start N) N
theorem q_cubic_Start (N : Nat) : LoopsFor (e_cubic_Start N) Try.prog 16 0 := ⟨by kernel_rfl, fun j hj => match j, hj with
  | _ + 0, h => absurd h (by omega)⟩
def c_cubic_Start : FC := mkF [.sc (.int .i64), .sc (.int .i64)] [.agg [.int .i64, .int .i64, .int .i64, .int .i64, .int .i64, .int .i64]] cubic_Start
theorem t_cubic_Start (N : Nat) : FCOK Try.prog N 16 c_cubic_Start := fun_ok facts (ok_leatref49_Cut N) (by kernel_rfl) (by kernel_rfl) (q_cubic_Start N) (fun t => by kernel_rfl)
def o_cubic_Start : List (Nat × FC) := (16, c_cubic_Start) :: o_leatref49_Cut
theorem ok_cubic_Start (N : Nat) : OrcOK Try.prog o_cubic_Start N := orc_cons (t_cubic_Start N) (ok_leatref49_Cut N)
def p_cubic_Root_3 : List Pat := [.sc (.int .i64), .any, .any, .sc (.int .i64), .sc (.int .i64), .any, .any, .any, .any, .any, .any, .any, .any, .any, .any, .any, .any, .any, .any, .any, .any, .any, .any]
def h_cubic_Root_3 : List HPat := []
def x_cubic_Root_3 : List XP := [⟨.exit 0, [.any, .any, .any, .sc (.int .i64), .any, .any, .any, .any, .any, .any, .any, .any, .any, .any, .any, .any, .any, .any, .any, .any, .any, .any, .any], []⟩]
def lc_cubic_Root_3 (N : Nat) : LC := mkLC p_cubic_Root_3 h_cubic_Root_3 x_cubic_Root_3 (cubic_Root_L3 N)
def s_cubic_Root (N : Nat) : List (Nat × LC) := [(3, lc_cubic_Root_3 N)]
noncomputable def e_cubic_Root (N : Nat) : Env := mkEnv Try.prog o_cubic_Start (s_cubic_Root N) N
theorem k_cubic_Root_3 (N : Nat) : LCOK (e_cubic_Root N) 12 (loopAt Try.prog 18 0) (lc_cubic_Root_3 N) := mkLC_ok (by kernel_rfl) (by kernel_rfl) (fun F x => by kernel_rfl)
theorem q_cubic_Root (N : Nat) : LoopsFor (e_cubic_Root N) Try.prog 18 1 := ⟨by kernel_rfl, fun j hj => match j, hj with
  | 0, _ => ⟨lc_cubic_Root_3 N, by kernel_rfl, k_cubic_Root_3 N⟩
  | _ + 1, h => absurd h (by omega)⟩
def c_cubic_Root : FC := mkF [.sc (.int .i64)] [.sc (.int .i64)] cubic_Root
theorem t_cubic_Root (N : Nat) : FCOK Try.prog N 18 c_cubic_Root := fun_ok facts (ok_cubic_Start N) (by kernel_rfl) (by kernel_rfl) (q_cubic_Root N) (fun t => by kernel_rfl)
def o_cubic_Root : List (Nat × FC) := (18, c_cubic_Root) :: o_cubic_Start
theorem ok_cubic_Root (N : Nat) : OrcOK Try.prog o_cubic_Root N := orc_cons (t_cubic_Root N) (ok_cubic_Start N)
def s_leatlaw49_works (_ : Nat) : List (Nat × LC) := []
noncomputable def e_leatlaw49_works (N : Nat) : Env := mkEnv Try.prog o_cubic_Root (s_leatlaw49_works N) N
theorem q_leatlaw49_works (N : Nat) : LoopsFor (e_leatlaw49_works N) Try.prog 17 0 := ⟨by kernel_rfl, fun j hj => match j, hj with
  | _ + 0, h => absurd h (by omega)⟩
def c_leatlaw49_works : FC := mkF [] [.sc (.bool)] leatlaw49_works
theorem t_leatlaw49_works (N : Nat) : FCOK Try.prog N 17 c_leatlaw49_works := fun_ok facts (ok_cubic_Root N) (by kernel_rfl) (by kernel_rfl) (q_leatlaw49_works N) (fun t => by kernel_rfl)
def o_leatlaw49_works : List (Nat × FC) := (17, c_leatlaw49_works) :: o_cubic_Root
theorem ok_leatlaw49_works (N : Nat) : OrcOK Try.prog o_leatlaw49_works N := orc_cons (t_leatlaw49_works N) (ok_cubic_Root N)
def s_leatlaw49_CubicCuts (_ : Nat) : List (Nat × LC) := []
noncomputable def e_leatlaw49_CubicCuts (N : Nat) : Env := mkEnv Try.prog o_leatlaw49_works (s_leatlaw49_CubicCuts N) N
theorem q_leatlaw49_CubicCuts (N : Nat) : LoopsFor (e_leatlaw49_CubicCuts N) Try.prog 3 0 := ⟨by kernel_rfl, fun j hj => match j, hj with
  | _ + 0, h => absurd h (by omega)⟩
theorem okL_leatlaw49_CubicCuts (N : Nat) : OrcOK Try.prog o_leatlaw49_works N := ok_leatlaw49_works N
theorem w_leatlaw49_CubicCuts (N : Nat) (x : RT [.agg [.int .i64, .int .i64, .int .i64, .int .i64, .int .i64, .int .i64], .sc (.int .i64), .sc (.int .i64)]) : uncR [.agg [.int .i64, .int .i64, .int .i64, .int .i64, .int .i64, .int .i64], .sc (.int .i64), .sc (.int .i64)] (leatlaw49_CubicCuts N) x = evFn (e_leatlaw49_CubicCuts N) 13 3 (encA 0 [.agg [.int .i64, .int .i64, .int .i64, .int .i64, .int .i64, .int .i64], .sc (.int .i64), .sc (.int .i64)] x).1 (encA 0 [.agg [.int .i64, .int .i64, .int .i64, .int .i64, .int .i64, .int .i64], .sc (.int .i64), .sc (.int .i64)] x).2 (decR [.sc .bool]) := by kernel_rfl
def p_leatref49_Root_2 : List Pat := [.sc (.int .i64), .any, .any, .sc (.int .i64), .sc (.int .i64), .any, .any, .any, .any, .any, .any, .any, .any, .any, .any, .any, .any, .any, .any, .any, .any, .any, .any, .any, .any]
def h_leatref49_Root_2 : List HPat := []
def x_leatref49_Root_2 : List XP := [⟨.exit 0, [.any, .any, .any, .sc (.int .i64), .any, .any, .any, .any, .any, .any, .any, .any, .any, .any, .any, .any, .any, .any, .any, .any, .any, .any, .any, .any, .any], []⟩]
def lc_leatref49_Root_2 (N : Nat) : LC := mkLC p_leatref49_Root_2 h_leatref49_Root_2 x_leatref49_Root_2 (leatref49_Root_L2 N)
def s_leatref49_Root (N : Nat) : List (Nat × LC) := [(2, lc_leatref49_Root_2 N)]
noncomputable def e_leatref49_Root (N : Nat) : Env := mkEnv Try.prog o_leatlaw49_works (s_leatref49_Root N) N
theorem k_leatref49_Root_2 (N : Nat) : LCOK (e_leatref49_Root N) 12 (loopAt Try.prog 19 0) (lc_leatref49_Root_2 N) := mkLC_ok (by kernel_rfl) (by kernel_rfl) (fun F x => by kernel_rfl)
theorem q_leatref49_Root (N : Nat) : LoopsFor (e_leatref49_Root N) Try.prog 19 1 := ⟨by kernel_rfl, fun j hj => match j, hj with
  | 0, _ => ⟨lc_leatref49_Root_2 N, by kernel_rfl, k_leatref49_Root_2 N⟩
  | _ + 1, h => absurd h (by omega)⟩
def c_leatref49_Root : FC := mkF [.sc (.int .i64)] [.sc (.int .i64)] leatref49_Root
theorem t_leatref49_Root (N : Nat) : FCOK Try.prog N 19 c_leatref49_Root := fun_ok facts (ok_leatlaw49_works N) (by kernel_rfl) (by kernel_rfl) (q_leatref49_Root N) (fun t => by kernel_rfl)
def o_leatref49_Root : List (Nat × FC) := (19, c_leatref49_Root) :: o_leatlaw49_works
theorem ok_leatref49_Root (N : Nat) : OrcOK Try.prog o_leatref49_Root N := orc_cons (t_leatref49_Root N) (ok_leatlaw49_works N)
def s_sat_end (_ : Nat) : List (Nat × LC) := []
noncomputable def e_sat_end (N : Nat) : Env := mkEnv Try.prog o_leatref49_Root (s_sat_end N) N
theorem q_sat_end (N : Nat) : LoopsFor (e_sat_end N) Try.prog 82 0 := ⟨by kernel_rfl, fun j hj => match j, hj with
  | _ + 0, h => absurd h (by omega)⟩
def c_sat_end : FC := mkF [.sc (.bool)] [.sc (.int .i64)] sat_end
theorem t_sat_end (N : Nat) : FCOK Try.prog N 82 c_sat_end := fun_ok facts (ok_leatref49_Root N) (by kernel_rfl) (by kernel_rfl) (q_sat_end N) (fun t => by kernel_rfl)
def o_sat_end : List (Nat × FC) := (82, c_sat_end) :: o_leatref49_Root
theorem ok_sat_end (N : Nat) : OrcOK Try.prog o_sat_end N := orc_cons (t_sat_end N) (ok_leatref49_Root N)
def s_sat_Sub (_ : Nat) : List (Nat × LC) := []
noncomputable def e_sat_Sub (N : Nat) : Env := mkEnv Try.prog o_sat_end (s_sat_Sub N) N
theorem q_sat_Sub (N : Nat) : LoopsFor (e_sat_Sub N) Try.prog 57 0 := ⟨by kernel_rfl, fun j hj => match j, hj with
  | _ + 0, h => absurd h (by omega)⟩
def c_sat_Sub : FC := mkF [.sc (.int .i64), .sc (.int .i64)] [.sc (.int .i64)] sat_Sub
theorem t_sat_Sub (N : Nat) : FCOK Try.prog N 57 c_sat_Sub := fun_ok facts (ok_sat_end N) (by kernel_rfl) (by kernel_rfl) (q_sat_Sub N) (fun t => by kernel_rfl)
def o_sat_Sub : List (Nat × FC) := (57, c_sat_Sub) :: o_sat_end
theorem ok_sat_Sub (N : Nat) : OrcOK Try.prog o_sat_Sub N := orc_cons (t_sat_Sub N) (ok_sat_end N)
def s_sat_size (_ : Nat) : List (Nat × LC) := []
noncomputable def e_sat_size (N : Nat) : Env := mkEnv Try.prog o_sat_Sub (s_sat_size N) N
theorem q_sat_size (N : Nat) : LoopsFor (e_sat_size N) Try.prog 81 0 := ⟨by kernel_rfl, fun j hj => match j, hj with
  | _ + 0, h => absurd h (by omega)⟩
def c_sat_size : FC := mkF [.sc (.int .i64)] [.sc (.int .u64)] sat_size
theorem t_sat_size (N : Nat) : FCOK Try.prog N 81 c_sat_size := fun_ok facts (ok_sat_Sub N) (by kernel_rfl) (by kernel_rfl) (q_sat_size N) (fun t => by kernel_rfl)
def o_sat_size : List (Nat × FC) := (81, c_sat_size) :: o_sat_Sub
theorem ok_sat_size (N : Nat) : OrcOK Try.prog o_sat_size N := orc_cons (t_sat_size N) (ok_sat_Sub N)
def s_bits_Mul64 (_ : Nat) : List (Nat × LC) := []
noncomputable def e_bits_Mul64 (N : Nat) : Env := mkEnv Try.prog o_sat_size (s_bits_Mul64 N) N
theorem q_bits_Mul64 (N : Nat) : LoopsFor (e_bits_Mul64 N) Try.prog 80 0 := ⟨by kernel_rfl, fun j hj => match j, hj with
  | _ + 0, h => absurd h (by omega)⟩
def c_bits_Mul64 : FC := mkF [.sc (.int .u64), .sc (.int .u64)] [.sc (.int .u64), .sc (.int .u64)] bits_Mul64
theorem t_bits_Mul64 (N : Nat) : FCOK Try.prog N 80 c_bits_Mul64 := fun_ok facts (ok_sat_size N) (by kernel_rfl) (by kernel_rfl) (q_bits_Mul64 N) (fun t => by kernel_rfl)
def o_bits_Mul64 : List (Nat × FC) := (80, c_bits_Mul64) :: o_sat_size
theorem ok_bits_Mul64 (N : Nat) : OrcOK Try.prog o_bits_Mul64 N := orc_cons (t_bits_Mul64 N) (ok_sat_size N)
def s_sat_signed (_ : Nat) : List (Nat × LC) := []
noncomputable def e_sat_signed (N : Nat) : Env := mkEnv Try.prog o_bits_Mul64 (s_sat_signed N) N
theorem q_sat_signed (N : Nat) : LoopsFor (e_sat_signed N) Try.prog 83 0 := ⟨by kernel_rfl, fun j hj => match j, hj with
  | _ + 0, h => absurd h (by omega)⟩
def c_sat_signed : FC := mkF [.sc (.int .u64), .sc (.bool)] [.sc (.int .i64)] sat_signed
theorem t_sat_signed (N : Nat) : FCOK Try.prog N 83 c_sat_signed := fun_ok facts (ok_bits_Mul64 N) (by kernel_rfl) (by kernel_rfl) (q_sat_signed N) (fun t => by kernel_rfl)
def o_sat_signed : List (Nat × FC) := (83, c_sat_signed) :: o_bits_Mul64
theorem ok_sat_signed (N : Nat) : OrcOK Try.prog o_sat_signed N := orc_cons (t_sat_signed N) (ok_bits_Mul64 N)
def s_sat_Mul (_ : Nat) : List (Nat × LC) := []
noncomputable def e_sat_Mul (N : Nat) : Env := mkEnv Try.prog o_sat_signed (s_sat_Mul N) N
theorem q_sat_Mul (N : Nat) : LoopsFor (e_sat_Mul N) Try.prog 56 0 := ⟨by kernel_rfl, fun j hj => match j, hj with
  | _ + 0, h => absurd h (by omega)⟩
def c_sat_Mul : FC := mkF [.sc (.int .i64), .sc (.int .i64)] [.sc (.int .i64)] sat_Mul
theorem t_sat_Mul (N : Nat) : FCOK Try.prog N 56 c_sat_Mul := fun_ok facts (ok_sat_signed N) (by kernel_rfl) (by kernel_rfl) (q_sat_Mul N) (fun t => by kernel_rfl)
def o_sat_Mul : List (Nat × FC) := (56, c_sat_Mul) :: o_sat_signed
theorem ok_sat_Mul (N : Nat) : OrcOK Try.prog o_sat_Mul N := orc_cons (t_sat_Mul N) (ok_sat_signed N)
def s_cubic_Wait (_ : Nat) : List (Nat × LC) := []
noncomputable def e_cubic_Wait (N : Nat) : Env := mkEnv Try.prog o_sat_Mul (s_cubic_Wait N) N
theorem q_cubic_Wait (N : Nat) : LoopsFor (e_cubic_Wait N) Try.prog 20 0 := ⟨by kernel_rfl, fun j hj => match j, hj with
  | _ + 0, h => absurd h (by omega)⟩
def c_cubic_Wait : FC := mkF [.sc (.int .i64), .sc (.int .i64), .sc (.int .i64)] [.sc (.int .i64)] cubic_Wait
theorem t_cubic_Wait (N : Nat) : FCOK Try.prog N 20 c_cubic_Wait := fun_ok facts (ok_sat_Mul N) (by kernel_rfl) (by kernel_rfl) (q_cubic_Wait N) (fun t => by kernel_rfl)
def o_cubic_Wait : List (Nat × FC) := (20, c_cubic_Wait) :: o_sat_Mul
theorem ok_cubic_Wait (N : Nat) : OrcOK Try.prog o_cubic_Wait N := orc_cons (t_cubic_Wait N) (ok_sat_Mul N)
def s_leatref01_Add (_ : Nat) : List (Nat × LC) := []
noncomputable def e_leatref01_Add (N : Nat) : Env := mkEnv Try.prog o_cubic_Wait (s_leatref01_Add N) N
theorem q_leatref01_Add (N : Nat) : LoopsFor (e_leatref01_Add N) Try.prog 77 0 := ⟨by kernel_rfl, fun j hj => match j, hj with
  | _ + 0, h => absurd h (by omega)⟩
def c_leatref01_Add : FC := mkF [.sc (.int .i64), .sc (.int .i64)] [.sc (.int .i64)] leatref01_Add
theorem t_leatref01_Add (N : Nat) : FCOK Try.prog N 77 c_leatref01_Add := fun_ok facts (ok_cubic_Wait N) (by kernel_rfl) (by kernel_rfl) (q_leatref01_Add N) (fun t => by kernel_rfl)
def o_leatref01_Add : List (Nat × FC) := (77, c_leatref01_Add) :: o_cubic_Wait
theorem ok_leatref01_Add (N : Nat) : OrcOK Try.prog o_leatref01_Add N := orc_cons (t_leatref01_Add N) (ok_cubic_Wait N)
def s_leatref01_Sub (_ : Nat) : List (Nat × LC) := []
noncomputable def e_leatref01_Sub (N : Nat) : Env := mkEnv Try.prog o_leatref01_Add (s_leatref01_Sub N) N
theorem q_leatref01_Sub (N : Nat) : LoopsFor (e_leatref01_Sub N) Try.prog 59 0 := ⟨by kernel_rfl, fun j hj => match j, hj with
  | _ + 0, h => absurd h (by omega)⟩
def c_leatref01_Sub : FC := mkF [.sc (.int .i64), .sc (.int .i64)] [.sc (.int .i64)] leatref01_Sub
theorem t_leatref01_Sub (N : Nat) : FCOK Try.prog N 59 c_leatref01_Sub := fun_ok facts (ok_leatref01_Add N) (by kernel_rfl) (by kernel_rfl) (q_leatref01_Sub N) (fun t => by kernel_rfl)
def o_leatref01_Sub : List (Nat × FC) := (59, c_leatref01_Sub) :: o_leatref01_Add
theorem ok_leatref01_Sub (N : Nat) : OrcOK Try.prog o_leatref01_Sub N := orc_cons (t_leatref01_Sub N) (ok_leatref01_Add N)
def s_leatref01_Neg (_ : Nat) : List (Nat × LC) := []
noncomputable def e_leatref01_Neg (N : Nat) : Env := mkEnv Try.prog o_leatref01_Sub (s_leatref01_Neg N) N
theorem q_leatref01_Neg (N : Nat) : LoopsFor (e_leatref01_Neg N) Try.prog 84 0 := ⟨by kernel_rfl, fun j hj => match j, hj with
  | _ + 0, h => absurd h (by omega)⟩
def c_leatref01_Neg : FC := mkF [.sc (.int .i64)] [.sc (.int .i64)] leatref01_Neg
theorem t_leatref01_Neg (N : Nat) : FCOK Try.prog N 84 c_leatref01_Neg := fun_ok facts (ok_leatref01_Sub N) (by kernel_rfl) (by kernel_rfl) (q_leatref01_Neg N) (fun t => by kernel_rfl)
def o_leatref01_Neg : List (Nat × FC) := (84, c_leatref01_Neg) :: o_leatref01_Sub
theorem ok_leatref01_Neg (N : Nat) : OrcOK Try.prog o_leatref01_Neg N := orc_cons (t_leatref01_Neg N) (ok_leatref01_Sub N)
def p_leatref01_Mul_11 : List Pat := [.any, .any, .any, .any, .any, .sc (.bool), .any, .sc (.int .i64), .sc (.int .i64), .sc (.int .i64), .sc (.bool), .sc (.bool), .any, .any, .any, .any, .any, .any, .any, .any, .any, .any, .any, .any, .any, .any, .any, .any, .any, .any, .any, .any, .any, .any, .any, .any, .any, .any, .any, .any, .any, .any, .any, .any, .any, .any, .any, .any, .any, .any, .any, .any, .any, .any, .any, .any, .any, .any, .any, .any, .any, .any, .any, .any, .any, .any, .any, .any, .any, .any, .any, .any, .any, .any]
def h_leatref01_Mul_11 : List HPat := []
def x_leatref01_Mul_11 : List XP := [⟨.exit 0, [.any, .any, .any, .any, .any, .sc (.bool), .any, .any, .sc (.int .i64), .any, .sc (.bool), .any, .any, .any, .any, .any, .any, .any, .any, .any, .any, .any, .any, .any, .any, .any, .any, .any, .any, .any, .any, .any, .any, .any, .any, .any, .any, .any, .any, .any, .any, .any, .any, .any, .any, .any, .any, .any, .any, .any, .any, .any, .any, .any, .any, .any, .any, .any, .any, .any, .any, .any, .any, .any, .any, .any, .any, .any, .any, .any, .any, .any, .any, .any], []⟩]
def lc_leatref01_Mul_11 (N : Nat) : LC := mkLC p_leatref01_Mul_11 h_leatref01_Mul_11 x_leatref01_Mul_11 (leatref01_Mul_L11 N)
def s_leatref01_Mul (N : Nat) : List (Nat × LC) := [(11, lc_leatref01_Mul_11 N)]
noncomputable def e_leatref01_Mul (N : Nat) : Env := mkEnv Try.prog o_leatref01_Neg (s_leatref01_Mul N) N
theorem k_leatref01_Mul_11 (N : Nat) : LCOK (e_leatref01_Mul N) 12 (loopAt Try.prog 58 0) (lc_leatref01_Mul_11 N) := mkLC_ok (by kernel_rfl) (by kernel_rfl) (fun F x => by kernel_rfl)
theorem q_leatref01_Mul (N : Nat) : LoopsFor (e_leatref01_Mul N) Try.prog 58 1 := ⟨by kernel_rfl, fun j hj => match j, hj with
  | 0, _ => ⟨lc_leatref01_Mul_11 N, by kernel_rfl, k_leatref01_Mul_11 N⟩
  | _ + 1, h => absurd h (by omega)⟩
def c_leatref01_Mul : FC := mkF [.sc (.int .i64), .sc (.int .i64)] [.sc (.int .i64)] leatref01_Mul
theorem t_leatref01_Mul (N : Nat) : FCOK Try.prog N 58 c_leatref01_Mul := fun_ok facts (ok_leatref01_Neg N) (by kernel_rfl) (by kernel_rfl) (q_leatref01_Mul N) (fun t => by kernel_rfl)
def o_leatref01_Mul : List (Nat × FC) := (58, c_leatref01_Mul) :: o_leatref01_Neg
theorem ok_leatref01_Mul (N : Nat) : OrcOK Try.prog o_leatref01_Mul N := orc_cons (t_leatref01_Mul N) (ok_leatref01_Neg N)
def s_leatref49_Wait (_ : Nat) : List (Nat × LC) := []
noncomputable def e_leatref49_Wait (N : Nat) : Env := mkEnv Try.prog o_leatref01_Mul (s_leatref49_Wait N) N
theorem q_leatref49_Wait (N : Nat) : LoopsFor (e_leatref49_Wait N) Try.prog 21 0 := ⟨by kernel_rfl, fun j hj => match j, hj with
  | _ + 0, h => absurd h (by omega)⟩
def c_leatref49_Wait : FC := mkF [.sc (.int .i64), .sc (.int .i64), .sc (.int .i64)] [.sc (.int .i64)] leatref49_Wait
theorem t_leatref49_Wait (N : Nat) : FCOK Try.prog N 21 c_leatref49_Wait := fun_ok facts (ok_leatref01_Mul N) (by kernel_rfl) (by kernel_rfl) (q_leatref49_Wait N) (fun t => by kernel_rfl)
def o_leatref49_Wait : List (Nat × FC) := (21, c_leatref49_Wait) :: o_leatref01_Mul
theorem ok_leatref49_Wait (N : Nat) : OrcOK Try.prog o_leatref49_Wait N := orc_cons (t_leatref49_Wait N) (ok_leatref01_Mul N)
def s_leatlaw49_CubicRoots (_ : Nat) : List (Nat × LC) := []
noncomputable def e_leatlaw49_CubicRoots (N : Nat) : Env := mkEnv Try.prog o_leatref49_Wait (s_leatlaw49_CubicRoots N) N
theorem q_leatlaw49_CubicRoots (N : Nat) : LoopsFor (e_leatlaw49_CubicRoots N) Try.prog 4 0 := ⟨by kernel_rfl, fun j hj => match j, hj with
  | _ + 0, h => absurd h (by omega)⟩
theorem okL_leatlaw49_CubicRoots (N : Nat) : OrcOK Try.prog o_leatref49_Wait N := ok_leatref49_Wait N
theorem w_leatlaw49_CubicRoots (N : Nat) (x : RT [.sc (.int .i64), .agg [.int .i64, .int .i64], .sc (.int .i64)]) : uncR [.sc (.int .i64), .agg [.int .i64, .int .i64], .sc (.int .i64)] (leatlaw49_CubicRoots N) x = evFn (e_leatlaw49_CubicRoots N) 13 4 (encA 0 [.sc (.int .i64), .agg [.int .i64, .int .i64], .sc (.int .i64)] x).1 (encA 0 [.sc (.int .i64), .agg [.int .i64, .int .i64], .sc (.int .i64)] x).2 (decR [.sc .bool]) := by kernel_rfl
def s_sat_Abs (_ : Nat) : List (Nat × LC) := []
noncomputable def e_sat_Abs (N : Nat) : Env := mkEnv Try.prog o_leatref49_Wait (s_sat_Abs N) N
theorem q_sat_Abs (N : Nat) : LoopsFor (e_sat_Abs N) Try.prog 61 0 := ⟨by kernel_rfl, fun j hj => match j, hj with
  | _ + 0, h => absurd h (by omega)⟩
def c_sat_Abs : FC := mkF [.sc (.int .i64)] [.sc (.int .i64)] sat_Abs
theorem t_sat_Abs (N : Nat) : FCOK Try.prog N 61 c_sat_Abs := fun_ok facts (ok_leatref49_Wait N) (by kernel_rfl) (by kernel_rfl) (q_sat_Abs N) (fun t => by kernel_rfl)
def o_sat_Abs : List (Nat × FC) := (61, c_sat_Abs) :: o_leatref49_Wait
theorem ok_sat_Abs (N : Nat) : OrcOK Try.prog o_sat_Abs N := orc_cons (t_sat_Abs N) (ok_leatref49_Wait N)
def s_wide_Mul (_ : Nat) : List (Nat × LC) := []
noncomputable def e_wide_Mul (N : Nat) : Env := mkEnv Try.prog o_sat_Abs (s_wide_Mul N) N
theorem q_wide_Mul (N : Nat) : LoopsFor (e_wide_Mul N) Try.prog 99 0 := ⟨by kernel_rfl, fun j hj => match j, hj with
  | _ + 0, h => absurd h (by omega)⟩
def c_wide_Mul : FC := mkF [.sc (.int .u64), .sc (.int .u64)] [.agg [.int .u64, .int .u64]] wide_Mul
theorem t_wide_Mul (N : Nat) : FCOK Try.prog N 99 c_wide_Mul := fun_ok facts (ok_sat_Abs N) (by kernel_rfl) (by kernel_rfl) (q_wide_Mul N) (fun t => by kernel_rfl)
def o_wide_Mul : List (Nat × FC) := (99, c_wide_Mul) :: o_sat_Abs
theorem ok_wide_Mul (N : Nat) : OrcOK Try.prog o_wide_Mul N := orc_cons (t_wide_Mul N) (ok_sat_Abs N)
def s_bits_Len64 (_ : Nat) : List (Nat × LC) := []
noncomputable def e_bits_Len64 (N : Nat) : Env := mkEnv Try.prog o_wide_Mul (s_bits_Len64 N) N
theorem q_bits_Len64 (N : Nat) : LoopsFor (e_bits_Len64 N) Try.prog 107 0 := ⟨by kernel_rfl, fun j hj => match j, hj with
  | _ + 0, h => absurd h (by omega)⟩
def c_bits_Len64 : FC := mkF [.sc (.int .u64)] [.sc (.int .i64)] bits_Len64
theorem t_bits_Len64 (N : Nat) : FCOK Try.prog N 107 c_bits_Len64 := fun_ok facts (ok_wide_Mul N) (by kernel_rfl) (by kernel_rfl) (q_bits_Len64 N) (fun t => by kernel_rfl)
def o_bits_Len64 : List (Nat × FC) := (107, c_bits_Len64) :: o_wide_Mul
theorem ok_bits_Len64 (N : Nat) : OrcOK Try.prog o_bits_Len64 N := orc_cons (t_bits_Len64 N) (ok_wide_Mul N)
def s_bits_LeadingZeros64 (_ : Nat) : List (Nat × LC) := []
noncomputable def e_bits_LeadingZeros64 (N : Nat) : Env := mkEnv Try.prog o_bits_Len64 (s_bits_LeadingZeros64 N) N
theorem q_bits_LeadingZeros64 (N : Nat) : LoopsFor (e_bits_LeadingZeros64 N) Try.prog 105 0 := ⟨by kernel_rfl, fun j hj => match j, hj with
  | _ + 0, h => absurd h (by omega)⟩
def c_bits_LeadingZeros64 : FC := mkF [.sc (.int .u64)] [.sc (.int .i64)] bits_LeadingZeros64
theorem t_bits_LeadingZeros64 (N : Nat) : FCOK Try.prog N 105 c_bits_LeadingZeros64 := fun_ok facts (ok_bits_Len64 N) (by kernel_rfl) (by kernel_rfl) (q_bits_LeadingZeros64 N) (fun t => by kernel_rfl)
def o_bits_LeadingZeros64 : List (Nat × FC) := (105, c_bits_LeadingZeros64) :: o_bits_Len64
theorem ok_bits_LeadingZeros64 (N : Nat) : OrcOK Try.prog o_bits_LeadingZeros64 N := orc_cons (t_bits_LeadingZeros64 N) (ok_bits_Len64 N)
def p_bits_Div64_17 : List Pat := [.any, .any, .sc (.int .u64), .any, .any, .any, .any, .any, .sc (.int .u64), .sc (.int .u64), .sc (.int .u64), .sc (.int .u64), .any, .sc (.int .u64), .sc (.int .u64), .sc (.int .u64), .sc (.int .u64), .any, .any, .any, .any, .any, .any, .any, .any, .any, .any, .any, .any, .any, .any, .any, .any, .any, .any, .any, .any, .any, .any, .any, .any, .any, .any, .any, .any, .any, .any, .any, .any, .any, .any, .any, .any, .any, .any, .any, .any, .any, .any, .any, .any, .any, .any, .any, .any, .any, .any, .any, .any, .any, .any, .any, .any, .any, .any, .any, .any, .any, .any, .any, .any, .any, .any, .any, .any, .any, .any, .any, .any, .any, .any, .any, .any, .any, .any, .any, .any, .any, .any, .any, .any, .any, .any, .any, .any, .any, .any, .any, .any, .any, .any, .any, .any, .any, .any, .any, .any, .any, .any, .any, .any, .any, .any, .any, .any, .any, .any, .any, .any, .any, .any, .any, .any, .any, .any]
def h_bits_Div64_17 : List HPat := []
def x_bits_Div64_17 : List XP := [⟨.exit 0, [.any, .any, .sc (.int .u64), .any, .any, .any, .any, .any, .sc (.int .u64), .sc (.int .u64), .sc (.int .u64), .sc (.int .u64), .any, .sc (.int .u64), .sc (.int .u64), .sc (.int .u64), .any, .any, .any, .any, .any, .any, .any, .any, .any, .any, .any, .any, .any, .any, .any, .any, .any, .any, .any, .any, .any, .any, .any, .any, .any, .any, .any, .any, .any, .any, .any, .any, .any, .any, .any, .any, .any, .any, .any, .any, .any, .any, .any, .any, .any, .any, .any, .any, .any, .any, .any, .any, .any, .any, .any, .any, .any, .any, .any, .any, .any, .any, .any, .any, .any, .any, .any, .any, .any, .any, .any, .any, .any, .any, .any, .any, .any, .any, .any, .any, .any, .any, .any, .any, .any, .any, .any, .any, .any, .any, .any, .any, .any, .any, .any, .any, .any, .any, .any, .any, .any, .any, .any, .any, .any, .any, .any, .any, .any, .any, .any, .any, .any, .any, .any, .any, .any, .any, .any], []⟩]
def lc_bits_Div64_17 (N : Nat) : LC := mkLC p_bits_Div64_17 h_bits_Div64_17 x_bits_Div64_17 (bits_Div64_L17 N)
def p_bits_Div64_24 : List Pat := [.any, .any, .sc (.int .u64), .any, .any, .any, .any, .any, .sc (.int .u64), .sc (.int .u64), .sc (.int .u64), .any, .any, .any, .sc (.int .u64), .sc (.int .u64), .sc (.int .u64), .sc (.int .u64), .sc (.int .u64), .any, .any, .any, .any, .any, .any, .any, .any, .any, .any, .any, .any, .any, .any, .any, .any, .any, .any, .any, .any, .any, .any, .any, .any, .any, .any, .any, .any, .any, .any, .any, .any, .any, .any, .any, .any, .any, .any, .any, .any, .any, .any, .any, .any, .any, .any, .any, .any, .any, .any, .any, .any, .any, .any, .any, .any, .any, .any, .any, .any, .any, .any, .any, .any, .any, .any, .any, .any, .any, .any, .any, .any, .any, .any, .any, .any, .any, .any, .any, .any, .any, .any, .any, .any, .any, .any, .any, .any, .any, .any, .any, .any, .any, .any, .any, .any, .any, .any, .any, .any, .any, .any, .any, .any, .any, .any, .any, .any, .any, .any, .any, .any, .any, .any, .any, .any]
def h_bits_Div64_24 : List HPat := []
def x_bits_Div64_24 : List XP := [⟨.exit 2, [.any, .any, .sc (.int .u64), .any, .any, .any, .any, .any, .sc (.int .u64), .any, .any, .any, .any, .any, .sc (.int .u64), .sc (.int .u64), .any, .sc (.int .u64), .sc (.int .u64), .any, .any, .any, .any, .any, .any, .any, .any, .any, .any, .any, .any, .any, .any, .any, .any, .any, .any, .any, .any, .any, .any, .any, .any, .any, .any, .any, .any, .any, .any, .any, .any, .any, .any, .any, .any, .any, .any, .any, .any, .any, .any, .any, .any, .any, .any, .any, .any, .any, .any, .any, .any, .any, .any, .any, .any, .any, .any, .any, .any, .any, .any, .any, .any, .any, .any, .any, .any, .any, .any, .any, .any, .any, .any, .any, .any, .any, .any, .any, .any, .any, .any, .any, .any, .any, .any, .any, .any, .any, .any, .any, .any, .any, .any, .any, .any, .any, .any, .any, .any, .any, .any, .any, .any, .any, .any, .any, .any, .any, .any, .any, .any, .any, .any, .any, .any], []⟩]
def lc_bits_Div64_24 (N : Nat) : LC := mkLC p_bits_Div64_24 h_bits_Div64_24 x_bits_Div64_24 (bits_Div64_L24 N)
def s_bits_Div64 (N : Nat) : List (Nat × LC) := [(17, lc_bits_Div64_17 N), (24, lc_bits_Div64_24 N)]
noncomputable def e_bits_Div64 (N : Nat) : Env := mkEnv Try.prog o_bits_LeadingZeros64 (s_bits_Div64 N) N
theorem k_bits_Div64_17 (N : Nat) : LCOK (e_bits_Div64 N) 12 (loopAt Try.prog 102 0) (lc_bits_Div64_17 N) := mkLC_ok (by kernel_rfl) (by kernel_rfl) (fun F x => by kernel_rfl)
theorem k_bits_Div64_24 (N : Nat) : LCOK (e_bits_Div64 N) 12 (loopAt Try.prog 102 1) (lc_bits_Div64_24 N) := mkLC_ok (by kernel_rfl) (by kernel_rfl) (fun F x => by kernel_rfl)
theorem q_bits_Div64 (N : Nat) : LoopsFor (e_bits_Div64 N) Try.prog 102 2 := ⟨by kernel_rfl, fun j hj => match j, hj with
  | 0, _ => ⟨lc_bits_Div64_17 N, by kernel_rfl, k_bits_Div64_17 N⟩
  | 1, _ => ⟨lc_bits_Div64_24 N, by kernel_rfl, k_bits_Div64_24 N⟩
  | _ + 2, h => absurd h (by omega)⟩
def c_bits_Div64 : FC := mkF [.sc (.int .u64), .sc (.int .u64), .sc (.int .u64)] [.sc (.int .u64), .sc (.int .u64)] bits_Div64
theorem t_bits_Div64 (N : Nat) : FCOK Try.prog N 102 c_bits_Div64 := fun_ok facts (ok_bits_LeadingZeros64 N) (by kernel_rfl) (by kernel_rfl) (q_bits_Div64 N) (fun t => by kernel_rfl)
def o_bits_Div64 : List (Nat × FC) := (102, c_bits_Div64) :: o_bits_LeadingZeros64
theorem ok_bits_Div64 (N : Nat) : OrcOK Try.prog o_bits_Div64 N := orc_cons (t_bits_Div64 N) (ok_bits_LeadingZeros64 N)
def s_wide_Div (_ : Nat) : List (Nat × LC) := []
noncomputable def e_wide_Div (N : Nat) : Env := mkEnv Try.prog o_bits_Div64 (s_wide_Div N) N
theorem q_wide_Div (N : Nat) : LoopsFor (e_wide_Div N) Try.prog 98 0 := ⟨by kernel_rfl, fun j hj => match j, hj with
  | _ + 0, h => absurd h (by omega)⟩
def c_wide_Div : FC := mkF [.agg [.int .u64, .int .u64], .sc (.int .u64)] [.agg [.int .u64, .int .u64], .sc (.int .u64)] wide_Div
theorem t_wide_Div (N : Nat) : FCOK Try.prog N 98 c_wide_Div := fun_ok facts (ok_bits_Div64 N) (by kernel_rfl) (by kernel_rfl) (q_wide_Div N) (fun t => by kernel_rfl)
def o_wide_Div : List (Nat × FC) := (98, c_wide_Div) :: o_bits_Div64
theorem ok_wide_Div (N : Nat) : OrcOK Try.prog o_wide_Div N := orc_cons (t_wide_Div N) (ok_bits_Div64 N)
def s_wide_muldiv (_ : Nat) : List (Nat × LC) := []
noncomputable def e_wide_muldiv (N : Nat) : Env := mkEnv Try.prog o_wide_Div (s_wide_muldiv N) N
theorem q_wide_muldiv (N : Nat) : LoopsFor (e_wide_muldiv N) Try.prog 85 0 := ⟨by kernel_rfl, fun j hj => match j, hj with
  | _ + 0, h => absurd h (by omega)⟩
def c_wide_muldiv : FC := mkF [.sc (.int .i64), .sc (.int .i64), .sc (.int .i64)] [.agg [.int .u64, .int .u64], .sc (.bool), .sc (.int .i64)] wide_muldiv
theorem t_wide_muldiv (N : Nat) : FCOK Try.prog N 85 c_wide_muldiv := fun_ok facts (ok_wide_Div N) (by kernel_rfl) (by kernel_rfl) (q_wide_muldiv N) (fun t => by kernel_rfl)
def o_wide_muldiv : List (Nat × FC) := (85, c_wide_muldiv) :: o_wide_Div
theorem ok_wide_muldiv (N : Nat) : OrcOK Try.prog o_wide_muldiv N := orc_cons (t_wide_muldiv N) (ok_wide_Div N)
def s_cmp_isNaN_uint64 (_ : Nat) : List (Nat × LC) := []
noncomputable def e_cmp_isNaN_uint64 (N : Nat) : Env := mkEnv Try.prog o_wide_muldiv (s_cmp_isNaN_uint64 N) N
theorem q_cmp_isNaN_uint64 (N : Nat) : LoopsFor (e_cmp_isNaN_uint64 N) Try.prog 106 0 := ⟨by kernel_rfl, fun j hj => match j, hj with
  | _ + 0, h => absurd h (by omega)⟩
def c_cmp_isNaN_uint64 : FC := mkF [.sc (.int .u64)] [.sc (.bool)] cmp_isNaN_uint64
theorem t_cmp_isNaN_uint64 (N : Nat) : FCOK Try.prog N 106 c_cmp_isNaN_uint64 := fun_ok facts (ok_wide_muldiv N) (by kernel_rfl) (by kernel_rfl) (q_cmp_isNaN_uint64 N) (fun t => by kernel_rfl)
def o_cmp_isNaN_uint64 : List (Nat × FC) := (106, c_cmp_isNaN_uint64) :: o_wide_muldiv
theorem ok_cmp_isNaN_uint64 (N : Nat) : OrcOK Try.prog o_cmp_isNaN_uint64 N := orc_cons (t_cmp_isNaN_uint64 N) (ok_wide_muldiv N)
def s_cmp_Compare_uint64 (_ : Nat) : List (Nat × LC) := []
noncomputable def e_cmp_Compare_uint64 (N : Nat) : Env := mkEnv Try.prog o_cmp_isNaN_uint64 (s_cmp_Compare_uint64 N) N
theorem q_cmp_Compare_uint64 (N : Nat) : LoopsFor (e_cmp_Compare_uint64 N) Try.prog 104 0 := ⟨by kernel_rfl, fun j hj => match j, hj with
  | _ + 0, h => absurd h (by omega)⟩
def c_cmp_Compare_uint64 : FC := mkF [.sc (.int .u64), .sc (.int .u64)] [.sc (.int .i64)] cmp_Compare_uint64
theorem t_cmp_Compare_uint64 (N : Nat) : FCOK Try.prog N 104 c_cmp_Compare_uint64 := fun_ok facts (ok_cmp_isNaN_uint64 N) (by kernel_rfl) (by kernel_rfl) (q_cmp_Compare_uint64 N) (fun t => by kernel_rfl)
def o_cmp_Compare_uint64 : List (Nat × FC) := (104, c_cmp_Compare_uint64) :: o_cmp_isNaN_uint64
theorem ok_cmp_Compare_uint64 (N : Nat) : OrcOK Try.prog o_cmp_Compare_uint64 N := orc_cons (t_cmp_Compare_uint64 N) (ok_cmp_isNaN_uint64 N)
def p_cmp_Or_int_3 : List Pat := [.any, .any, .any, .sc (.int .i64), .any, .any, .sl 0, .sc (.int .i64), .sc (.int .i64), .any, .any, .any, .any, .any, .any, .any, .any, .any]
def h_cmp_Or_int_3 : List HPat := [.ext 3 [.int .i64]]
def x_cmp_Or_int_3 : List XP := [⟨.ret, [.any, .any, .sc (.int .i64), .any, .any, .any, .any, .any, .any, .any, .any, .any, .any, .any, .any, .any, .any, .any], []⟩, ⟨.exit 0, [.any, .any, .any, .sc (.int .i64), .any, .any, .any, .any, .any, .any, .any, .any, .any, .any, .any, .any, .any, .any], []⟩]
def lc_cmp_Or_int_3 (N : Nat) : LC := mkLC p_cmp_Or_int_3 h_cmp_Or_int_3 x_cmp_Or_int_3 (cmp_Or_int_L3 N)
def s_cmp_Or_int (N : Nat) : List (Nat × LC) := [(3, lc_cmp_Or_int_3 N)]
noncomputable def e_cmp_Or_int (N : Nat) : Env := mkEnv Try.prog o_cmp_Compare_uint64 (s_cmp_Or_int N) N
theorem k_cmp_Or_int_3 (N : Nat) : LCOK (e_cmp_Or_int N) 12 (loopAt Try.prog 103 0) (lc_cmp_Or_int_3 N) := mkLC_ok (by kernel_rfl) (by kernel_rfl) (fun F x => by kernel_rfl)
theorem q_cmp_Or_int (N : Nat) : LoopsFor (e_cmp_Or_int N) Try.prog 103 1 := ⟨by kernel_rfl, fun j hj => match j, hj with
  | 0, _ => ⟨lc_cmp_Or_int_3 N, by kernel_rfl, k_cmp_Or_int_3 N⟩
  | _ + 1, h => absurd h (by omega)⟩
def c_cmp_Or_int : FC := mkF [.row 3 [.int .i64]] [.sc (.int .i64)] cmp_Or_int
theorem t_cmp_Or_int (N : Nat) : FCOK Try.prog N 103 c_cmp_Or_int := fun_ok facts (ok_cmp_Compare_uint64 N) (by kernel_rfl) (by kernel_rfl) (q_cmp_Or_int N) (fun t => by kernel_rfl)
def o_cmp_Or_int : List (Nat × FC) := (103, c_cmp_Or_int) :: o_cmp_Compare_uint64
theorem ok_cmp_Or_int (N : Nat) : OrcOK Try.prog o_cmp_Or_int N := orc_cons (t_cmp_Or_int N) (ok_cmp_Compare_uint64 N)
def s_wide_Cmp (_ : Nat) : List (Nat × LC) := []
noncomputable def e_wide_Cmp (N : Nat) : Env := mkEnv Try.prog o_cmp_Or_int (s_wide_Cmp N) N
theorem q_wide_Cmp (N : Nat) : LoopsFor (e_wide_Cmp N) Try.prog 100 0 := ⟨by kernel_rfl, fun j hj => match j, hj with
  | _ + 0, h => absurd h (by omega)⟩
def c_wide_Cmp : FC := mkF [.agg [.int .u64, .int .u64], .agg [.int .u64, .int .u64]] [.sc (.int .i64)] wide_Cmp
theorem t_wide_Cmp (N : Nat) : FCOK Try.prog N 100 c_wide_Cmp := fun_ok facts (ok_cmp_Or_int N) (by kernel_rfl) (by kernel_rfl) (q_wide_Cmp N) (fun t => by kernel_rfl)
def o_wide_Cmp : List (Nat × FC) := (100, c_wide_Cmp) :: o_cmp_Or_int
theorem ok_wide_Cmp (N : Nat) : OrcOK Try.prog o_wide_Cmp N := orc_cons (t_wide_Cmp N) (ok_cmp_Or_int N)
def s_wide_told (_ : Nat) : List (Nat × LC) := []
noncomputable def e_wide_told (N : Nat) : Env := mkEnv Try.prog o_wide_Cmp (s_wide_told N) N
theorem q_wide_told (N : Nat) : LoopsFor (e_wide_told N) Try.prog 86 0 := ⟨by kernel_rfl, fun j hj => match j, hj with
  | _ + 0, h => absurd h (by omega)⟩
def c_wide_told : FC := mkF [.agg [.int .u64, .int .u64], .sc (.int .i64)] [.sc (.int .i64), .sc (.int .i64)] wide_told
theorem t_wide_told (N : Nat) : FCOK Try.prog N 86 c_wide_told := fun_ok facts (ok_wide_Cmp N) (by kernel_rfl) (by kernel_rfl) (q_wide_told N) (fun t => by kernel_rfl)
def o_wide_told : List (Nat × FC) := (86, c_wide_told) :: o_wide_Cmp
theorem ok_wide_told (N : Nat) : OrcOK Try.prog o_wide_told N := orc_cons (t_wide_told N) (ok_wide_Cmp N)
def s_wide_MulDiv (_ : Nat) : List (Nat × LC) := []
noncomputable def e_wide_MulDiv (N : Nat) : Env := mkEnv Try.prog o_wide_told (s_wide_MulDiv N) N
theorem q_wide_MulDiv (N : Nat) : LoopsFor (e_wide_MulDiv N) Try.prog 60 0 := ⟨by kernel_rfl, fun j hj => match j, hj with
  | _ + 0, h => absurd h (by omega)⟩
def c_wide_MulDiv : FC := mkF [.sc (.int .i64), .sc (.int .i64), .sc (.int .i64)] [.sc (.int .i64), .sc (.int .i64)] wide_MulDiv
theorem t_wide_MulDiv (N : Nat) : FCOK Try.prog N 60 c_wide_MulDiv := fun_ok facts (ok_wide_told N) (by kernel_rfl) (by kernel_rfl) (q_wide_MulDiv N) (fun t => by kernel_rfl)
def o_wide_MulDiv : List (Nat × FC) := (60, c_wide_MulDiv) :: o_wide_told
theorem ok_wide_MulDiv (N : Nat) : OrcOK Try.prog o_wide_MulDiv N := orc_cons (t_wide_MulDiv N) (ok_wide_told N)
def s_sat_Add (_ : Nat) : List (Nat × LC) := []
noncomputable def e_sat_Add (N : Nat) : Env := mkEnv Try.prog o_wide_MulDiv (s_sat_Add N) N
theorem q_sat_Add (N : Nat) : LoopsFor (e_sat_Add N) Try.prog 62 0 := ⟨by kernel_rfl, fun j hj => match j, hj with
  | _ + 0, h => absurd h (by omega)⟩
def c_sat_Add : FC := mkF [.sc (.int .i64), .sc (.int .i64)] [.sc (.int .i64)] sat_Add
theorem t_sat_Add (N : Nat) : FCOK Try.prog N 62 c_sat_Add := fun_ok facts (ok_wide_MulDiv N) (by kernel_rfl) (by kernel_rfl) (q_sat_Add N) (fun t => by kernel_rfl)
def o_sat_Add : List (Nat × FC) := (62, c_sat_Add) :: o_wide_MulDiv
theorem ok_sat_Add (N : Nat) : OrcOK Try.prog o_sat_Add N := orc_cons (t_sat_Add N) (ok_wide_MulDiv N)
def s_cubic_Target (_ : Nat) : List (Nat × LC) := []
noncomputable def e_cubic_Target (N : Nat) : Env := mkEnv Try.prog o_sat_Add (s_cubic_Target N) N
theorem q_cubic_Target (N : Nat) : LoopsFor (e_cubic_Target N) Try.prog 22 0 := ⟨by kernel_rfl, fun j hj => match j, hj with
  | _ + 0, h => absurd h (by omega)⟩
def c_cubic_Target : FC := mkF [.agg [.int .i64, .int .i64, .int .i64, .int .i64, .int .i64, .int .i64], .sc (.int .i64), .sc (.int .i64)] [.sc (.int .i64)] cubic_Target
theorem t_cubic_Target (N : Nat) : FCOK Try.prog N 22 c_cubic_Target := fun_ok facts (ok_sat_Add N) (by kernel_rfl) (by kernel_rfl) (q_cubic_Target N) (fun t => by kernel_rfl)
def o_cubic_Target : List (Nat × FC) := (22, c_cubic_Target) :: o_sat_Add
theorem ok_cubic_Target (N : Nat) : OrcOK Try.prog o_cubic_Target N := orc_cons (t_cubic_Target N) (ok_sat_Add N)
def p_leatref02_Bits_3 : List Pat := [.sc (.int .u64), .sc (.int .i64), .any, .any, .any, .sl 0, .sc (.int .i64), .any, .any, .any, .any, .any, .any, .any, .any, .any, .any, .any, .any, .any, .any]
def h_leatref02_Bits_3 : List HPat := [.rows 3 [.int .i64]]
def x_leatref02_Bits_3 : List XP := [⟨.exit 0, [.any, .any, .any, .any, .any, .sl 0, .any, .any, .any, .any, .any, .any, .any, .any, .any, .any, .any, .any, .any, .any, .any], [.rows 3 [.int .i64]]⟩]
def lc_leatref02_Bits_3 (N : Nat) : LC := mkLC p_leatref02_Bits_3 h_leatref02_Bits_3 x_leatref02_Bits_3 (leatref02_Bits_L3 N)
def s_leatref02_Bits (N : Nat) : List (Nat × LC) := [(3, lc_leatref02_Bits_3 N)]
noncomputable def e_leatref02_Bits (N : Nat) : Env := mkEnv Try.prog o_cubic_Target (s_leatref02_Bits N) N
theorem k_leatref02_Bits_3 (N : Nat) : LCOK (e_leatref02_Bits N) 12 (loopAt Try.prog 89 0) (lc_leatref02_Bits_3 N) := mkLC_ok (by kernel_rfl) (by kernel_rfl) (fun F x => by kernel_rfl)
theorem q_leatref02_Bits (N : Nat) : LoopsFor (e_leatref02_Bits N) Try.prog 89 1 := ⟨by kernel_rfl, fun j hj => match j, hj with
  | 0, _ => ⟨lc_leatref02_Bits_3 N, by kernel_rfl, k_leatref02_Bits_3 N⟩
  | _ + 1, h => absurd h (by omega)⟩
def c_leatref02_Bits : FC := mkF [.sc (.int .u64), .sc (.int .i64)] [.row 3 [.int .i64]] leatref02_Bits
theorem t_leatref02_Bits (N : Nat) : FCOK Try.prog N 89 c_leatref02_Bits := fun_ok facts (ok_cubic_Target N) (by kernel_rfl) (by kernel_rfl) (q_leatref02_Bits N) (fun t => by kernel_rfl)
def o_leatref02_Bits : List (Nat × FC) := (89, c_leatref02_Bits) :: o_cubic_Target
theorem ok_leatref02_Bits (N : Nat) : OrcOK Try.prog o_leatref02_Bits N := orc_cons (t_leatref02_Bits N) (ok_cubic_Target N)
def p_leatref02_Add_4 : List Pat := [.sl 0, .sl 1, .any, .any, .any, .sl 2, .sc (.int .i64), .sc (.int .i64), .any, .any, .any, .any, .any, .any, .any, .any, .any, .any, .any, .any, .any, .any, .any, .any, .any, .any, .any, .any, .any, .any, .any, .any, .any, .any, .any, .any, .any, .any, .any, .any, .any, .any, .any, .any, .any, .any, .any, .any, .any, .any, .any, .any, .any]
def h_leatref02_Add_4 : List HPat := [.ext 3 [.int .i64], .ext 3 [.int .i64], .rows 3 [.int .i64]]
def x_leatref02_Add_4 : List XP := [⟨.exit 0, [.any, .any, .any, .any, .any, .sl 0, .sc (.int .i64), .any, .any, .any, .any, .any, .any, .any, .any, .any, .any, .any, .any, .any, .any, .any, .any, .any, .any, .any, .any, .any, .any, .any, .any, .any, .any, .any, .any, .any, .any, .any, .any, .any, .any, .any, .any, .any, .any, .any, .any, .any, .any, .any, .any, .any, .any], [.rows 3 [.int .i64]]⟩]
def lc_leatref02_Add_4 (N : Nat) : LC := mkLC p_leatref02_Add_4 h_leatref02_Add_4 x_leatref02_Add_4 (leatref02_Add_L4 N)
def s_leatref02_Add (N : Nat) : List (Nat × LC) := [(4, lc_leatref02_Add_4 N)]
noncomputable def e_leatref02_Add (N : Nat) : Env := mkEnv Try.prog o_leatref02_Bits (s_leatref02_Add N) N
theorem k_leatref02_Add_4 (N : Nat) : LCOK (e_leatref02_Add N) 12 (loopAt Try.prog 91 0) (lc_leatref02_Add_4 N) := mkLC_ok (by kernel_rfl) (by kernel_rfl) (fun F x => by kernel_rfl)
theorem q_leatref02_Add (N : Nat) : LoopsFor (e_leatref02_Add N) Try.prog 91 1 := ⟨by kernel_rfl, fun j hj => match j, hj with
  | 0, _ => ⟨lc_leatref02_Add_4 N, by kernel_rfl, k_leatref02_Add_4 N⟩
  | _ + 1, h => absurd h (by omega)⟩
def c_leatref02_Add : FC := mkF [.row 3 [.int .i64], .row 3 [.int .i64]] [.row 3 [.int .i64]] leatref02_Add
theorem t_leatref02_Add (N : Nat) : FCOK Try.prog N 91 c_leatref02_Add := fun_ok facts (ok_leatref02_Bits N) (by kernel_rfl) (by kernel_rfl) (q_leatref02_Add N) (fun t => by kernel_rfl)
def o_leatref02_Add : List (Nat × FC) := (91, c_leatref02_Add) :: o_leatref02_Bits
theorem ok_leatref02_Add (N : Nat) : OrcOK Try.prog o_leatref02_Add N := orc_cons (t_leatref02_Add N) (ok_leatref02_Bits N)
def p_leatref02_Mul_3 : List Pat := [.sl 0, .sl 1, .any, .any, .any, .sl 2, .sc (.int .i64), .any, .any, .any, .any, .any, .any, .any, .any, .any, .any, .any, .any, .any, .any, .any, .any, .any, .any, .any]
def h_leatref02_Mul_3 : List HPat := [.ext 3 [.int .i64], .ext 3 [.int .i64], .rows 3 [.int .i64]]
def x_leatref02_Mul_3 : List XP := [⟨.exit 0, [.any, .any, .any, .any, .any, .sl 0, .any, .any, .any, .any, .any, .any, .any, .any, .any, .any, .any, .any, .any, .any, .any, .any, .any, .any, .any, .any], [.rows 3 [.int .i64]]⟩]
def lc_leatref02_Mul_3 (N : Nat) : LC := mkLC p_leatref02_Mul_3 h_leatref02_Mul_3 x_leatref02_Mul_3 (leatref02_Mul_L3 N)
def s_leatref02_Mul (N : Nat) : List (Nat × LC) := [(3, lc_leatref02_Mul_3 N)]
noncomputable def e_leatref02_Mul (N : Nat) : Env := mkEnv Try.prog o_leatref02_Add (s_leatref02_Mul N) N
theorem k_leatref02_Mul_3 (N : Nat) : LCOK (e_leatref02_Mul N) 12 (loopAt Try.prog 88 0) (lc_leatref02_Mul_3 N) := mkLC_ok (by kernel_rfl) (by kernel_rfl) (fun F x => by kernel_rfl)
theorem q_leatref02_Mul (N : Nat) : LoopsFor (e_leatref02_Mul N) Try.prog 88 1 := ⟨by kernel_rfl, fun j hj => match j, hj with
  | 0, _ => ⟨lc_leatref02_Mul_3 N, by kernel_rfl, k_leatref02_Mul_3 N⟩
  | _ + 1, h => absurd h (by omega)⟩
def c_leatref02_Mul : FC := mkF [.row 3 [.int .i64], .row 3 [.int .i64]] [.row 3 [.int .i64]] leatref02_Mul
theorem t_leatref02_Mul (N : Nat) : FCOK Try.prog N 88 c_leatref02_Mul := fun_ok facts (ok_leatref02_Add N) (by kernel_rfl) (by kernel_rfl) (q_leatref02_Mul N) (fun t => by kernel_rfl)
def o_leatref02_Mul : List (Nat × FC) := (88, c_leatref02_Mul) :: o_leatref02_Add
theorem ok_leatref02_Mul (N : Nat) : OrcOK Try.prog o_leatref02_Mul N := orc_cons (t_leatref02_Mul N) (ok_leatref02_Add N)
def p_leatref02_Cmp_2 : List Pat := [.sl 0, .sl 1, .any, .any, .any, .sc (.int .i64), .any, .any, .any, .any, .any, .any, .any, .any, .any, .any, .any, .any, .any, .any, .any, .any, .any, .any, .any, .any, .any, .any, .any, .any, .any, .any, .any, .any, .any, .any, .any, .any, .any, .any]
def h_leatref02_Cmp_2 : List HPat := [.ext 3 [.int .i64], .ext 3 [.int .i64]]
def x_leatref02_Cmp_2 : List XP := [⟨.ret, [.any, .any, .any, .any, .sc (.int .i64), .any, .any, .any, .any, .any, .any, .any, .any, .any, .any, .any, .any, .any, .any, .any, .any, .any, .any, .any, .any, .any, .any, .any, .any, .any, .any, .any, .any, .any, .any, .any, .any, .any, .any, .any], []⟩, ⟨.exit 0, [.any, .any, .any, .any, .any, .any, .any, .any, .any, .any, .any, .any, .any, .any, .any, .any, .any, .any, .any, .any, .any, .any, .any, .any, .any, .any, .any, .any, .any, .any, .any, .any, .any, .any, .any, .any, .any, .any, .any, .any], []⟩]
def lc_leatref02_Cmp_2 (N : Nat) : LC := mkLC p_leatref02_Cmp_2 h_leatref02_Cmp_2 x_leatref02_Cmp_2 (leatref02_Cmp_L2 N)
def s_leatref02_Cmp (N : Nat) : List (Nat × LC) := [(2, lc_leatref02_Cmp_2 N)]
noncomputable def e_leatref02_Cmp (N : Nat) : Env := mkEnv Try.prog o_leatref02_Mul (s_leatref02_Cmp N) N
theorem k_leatref02_Cmp_2 (N : Nat) : LCOK (e_leatref02_Cmp N) 12 (loopAt Try.prog 90 0) (lc_leatref02_Cmp_2 N) := mkLC_ok (by kernel_rfl) (by kernel_rfl) (fun F x => by kernel_rfl)
theorem q_leatref02_Cmp (N : Nat) : LoopsFor (e_leatref02_Cmp N) Try.prog 90 1 := ⟨by kernel_rfl, fun j hj => match j, hj with
  | 0, _ => ⟨lc_leatref02_Cmp_2 N, by kernel_rfl, k_leatref02_Cmp_2 N⟩
  | _ + 1, h => absurd h (by omega)⟩
def c_leatref02_Cmp : FC := mkF [.row 3 [.int .i64], .row 3 [.int .i64]] [.sc (.int .i64)] leatref02_Cmp
theorem t_leatref02_Cmp (N : Nat) : FCOK Try.prog N 90 c_leatref02_Cmp := fun_ok facts (ok_leatref02_Mul N) (by kernel_rfl) (by kernel_rfl) (q_leatref02_Cmp N) (fun t => by kernel_rfl)
def o_leatref02_Cmp : List (Nat × FC) := (90, c_leatref02_Cmp) :: o_leatref02_Mul
theorem ok_leatref02_Cmp (N : Nat) : OrcOK Try.prog o_leatref02_Cmp N := orc_cons (t_leatref02_Cmp N) (ok_leatref02_Mul N)
def p_leatref02_Sub_4 : List Pat := [.sl 0, .sl 1, .any, .any, .any, .sl 2, .sc (.int .i64), .sc (.int .i64), .any, .any, .any, .any, .any, .any, .any, .any, .any, .any, .any, .any, .any, .any, .any, .any, .any, .any, .any, .any, .any, .any, .any, .any, .any, .any, .any, .any, .any, .any, .any, .any]
def h_leatref02_Sub_4 : List HPat := [.ext 3 [.int .i64], .ext 3 [.int .i64], .rows 3 [.int .i64]]
def x_leatref02_Sub_4 : List XP := [⟨.exit 0, [.any, .any, .any, .any, .any, .sl 0, .any, .any, .any, .any, .any, .any, .any, .any, .any, .any, .any, .any, .any, .any, .any, .any, .any, .any, .any, .any, .any, .any, .any, .any, .any, .any, .any, .any, .any, .any, .any, .any, .any, .any], [.rows 3 [.int .i64]]⟩]
def lc_leatref02_Sub_4 (N : Nat) : LC := mkLC p_leatref02_Sub_4 h_leatref02_Sub_4 x_leatref02_Sub_4 (leatref02_Sub_L4 N)
def s_leatref02_Sub (N : Nat) : List (Nat × LC) := [(4, lc_leatref02_Sub_4 N)]
noncomputable def e_leatref02_Sub (N : Nat) : Env := mkEnv Try.prog o_leatref02_Cmp (s_leatref02_Sub N) N
theorem k_leatref02_Sub_4 (N : Nat) : LCOK (e_leatref02_Sub N) 12 (loopAt Try.prog 101 0) (lc_leatref02_Sub_4 N) := mkLC_ok (by kernel_rfl) (by kernel_rfl) (fun F x => by kernel_rfl)
theorem q_leatref02_Sub (N : Nat) : LoopsFor (e_leatref02_Sub N) Try.prog 101 1 := ⟨by kernel_rfl, fun j hj => match j, hj with
  | 0, _ => ⟨lc_leatref02_Sub_4 N, by kernel_rfl, k_leatref02_Sub_4 N⟩
  | _ + 1, h => absurd h (by omega)⟩
def c_leatref02_Sub : FC := mkF [.row 3 [.int .i64], .row 3 [.int .i64]] [.row 3 [.int .i64]] leatref02_Sub
theorem t_leatref02_Sub (N : Nat) : FCOK Try.prog N 101 c_leatref02_Sub := fun_ok facts (ok_leatref02_Cmp N) (by kernel_rfl) (by kernel_rfl) (q_leatref02_Sub N) (fun t => by kernel_rfl)
def o_leatref02_Sub : List (Nat × FC) := (101, c_leatref02_Sub) :: o_leatref02_Cmp
theorem ok_leatref02_Sub (N : Nat) : OrcOK Try.prog o_leatref02_Sub N := orc_cons (t_leatref02_Sub N) (ok_leatref02_Cmp N)
def p_leatref02_Div_4 : List Pat := [.sl 0, .sl 1, .any, .any, .any, .any, .sl 2, .sl 3, .sc (.int .i64), .any, .any, .any, .any, .any, .any, .any, .any, .any, .any, .any, .any, .any, .any, .any, .any, .any, .any, .any, .any, .any, .any, .any, .any, .any, .any, .any, .any, .any, .any]
def h_leatref02_Div_4 : List HPat := [.ext 3 [.int .i64], .ext 3 [.int .i64], .rows 3 [.int .i64], .rows 3 [.int .i64]]
def x_leatref02_Div_4 : List XP := [⟨.exit 0, [.any, .any, .any, .any, .any, .any, .sl 0, .sl 1, .any, .any, .any, .any, .any, .any, .any, .any, .any, .any, .any, .any, .any, .any, .any, .any, .any, .any, .any, .any, .any, .any, .any, .any, .any, .any, .any, .any, .any, .any, .any], [.rows 3 [.int .i64], .rows 3 [.int .i64]]⟩]
def lc_leatref02_Div_4 (N : Nat) : LC := mkLC p_leatref02_Div_4 h_leatref02_Div_4 x_leatref02_Div_4 (leatref02_Div_L4 N)
def s_leatref02_Div (N : Nat) : List (Nat × LC) := [(4, lc_leatref02_Div_4 N)]
noncomputable def e_leatref02_Div (N : Nat) : Env := mkEnv Try.prog o_leatref02_Sub (s_leatref02_Div N) N
theorem k_leatref02_Div_4 (N : Nat) : LCOK (e_leatref02_Div N) 12 (loopAt Try.prog 87 0) (lc_leatref02_Div_4 N) := mkLC_ok (by kernel_rfl) (by kernel_rfl) (fun F x => by kernel_rfl)
theorem q_leatref02_Div (N : Nat) : LoopsFor (e_leatref02_Div N) Try.prog 87 1 := ⟨by kernel_rfl, fun j hj => match j, hj with
  | 0, _ => ⟨lc_leatref02_Div_4 N, by kernel_rfl, k_leatref02_Div_4 N⟩
  | _ + 1, h => absurd h (by omega)⟩
def c_leatref02_Div : FC := mkF [.row 3 [.int .i64], .row 3 [.int .i64]] [.row 3 [.int .i64], .row 3 [.int .i64]] leatref02_Div
theorem t_leatref02_Div (N : Nat) : FCOK Try.prog N 87 c_leatref02_Div := fun_ok facts (ok_leatref02_Sub N) (by kernel_rfl) (by kernel_rfl) (q_leatref02_Div N) (fun t => by kernel_rfl)
def o_leatref02_Div : List (Nat × FC) := (87, c_leatref02_Div) :: o_leatref02_Sub
theorem ok_leatref02_Div (N : Nat) : OrcOK Try.prog o_leatref02_Div N := orc_cons (t_leatref02_Div N) (ok_leatref02_Sub N)
def p_leatref02_Num_3 : List Pat := [.sl 0, .sc (.int .i64), .any, .any, .any, .sc (.int .u64), .sc (.int .i64), .any, .any, .any, .any, .any, .any, .any, .any, .any, .any, .any, .any, .any, .any, .any, .any, .any, .any, .any, .any, .any, .any, .any, .any]
def h_leatref02_Num_3 : List HPat := [.ext 3 [.int .i64]]
def x_leatref02_Num_3 : List XP := [⟨.exit 0, [.any, .any, .any, .any, .any, .sc (.int .u64), .any, .any, .any, .any, .any, .any, .any, .any, .any, .any, .any, .any, .any, .any, .any, .any, .any, .any, .any, .any, .any, .any, .any, .any, .any], []⟩]
def lc_leatref02_Num_3 (N : Nat) : LC := mkLC p_leatref02_Num_3 h_leatref02_Num_3 x_leatref02_Num_3 (leatref02_Num_L3 N)
def s_leatref02_Num (N : Nat) : List (Nat × LC) := [(3, lc_leatref02_Num_3 N)]
noncomputable def e_leatref02_Num (N : Nat) : Env := mkEnv Try.prog o_leatref02_Div (s_leatref02_Num N) N
theorem k_leatref02_Num_3 (N : Nat) : LCOK (e_leatref02_Num N) 12 (loopAt Try.prog 92 0) (lc_leatref02_Num_3 N) := mkLC_ok (by kernel_rfl) (by kernel_rfl) (fun F x => by kernel_rfl)
theorem q_leatref02_Num (N : Nat) : LoopsFor (e_leatref02_Num N) Try.prog 92 1 := ⟨by kernel_rfl, fun j hj => match j, hj with
  | 0, _ => ⟨lc_leatref02_Num_3 N, by kernel_rfl, k_leatref02_Num_3 N⟩
  | _ + 1, h => absurd h (by omega)⟩
def c_leatref02_Num : FC := mkF [.row 3 [.int .i64], .sc (.int .i64)] [.sc (.int .u64)] leatref02_Num
theorem t_leatref02_Num (N : Nat) : FCOK Try.prog N 92 c_leatref02_Num := fun_ok facts (ok_leatref02_Div N) (by kernel_rfl) (by kernel_rfl) (q_leatref02_Num N) (fun t => by kernel_rfl)
def o_leatref02_Num : List (Nat × FC) := (92, c_leatref02_Num) :: o_leatref02_Div
theorem ok_leatref02_Num (N : Nat) : OrcOK Try.prog o_leatref02_Num N := orc_cons (t_leatref02_Num N) (ok_leatref02_Div N)
def s_leatref02_MulDiv (_ : Nat) : List (Nat × LC) := []
noncomputable def e_leatref02_MulDiv (N : Nat) : Env := mkEnv Try.prog o_leatref02_Num (s_leatref02_MulDiv N) N
theorem q_leatref02_MulDiv (N : Nat) : LoopsFor (e_leatref02_MulDiv N) Try.prog 63 0 := ⟨by kernel_rfl, fun j hj => match j, hj with
  | _ + 0, h => absurd h (by omega)⟩
def c_leatref02_MulDiv : FC := mkF [.sc (.int .i64), .sc (.int .i64), .sc (.int .i64), .sc (.bool)] [.sc (.int .i64), .sc (.int .i64)] leatref02_MulDiv
theorem t_leatref02_MulDiv (N : Nat) : FCOK Try.prog N 63 c_leatref02_MulDiv := fun_ok facts (ok_leatref02_Num N) (by kernel_rfl) (by kernel_rfl) (q_leatref02_MulDiv N) (fun t => by kernel_rfl)
def o_leatref02_MulDiv : List (Nat × FC) := (63, c_leatref02_MulDiv) :: o_leatref02_Num
theorem ok_leatref02_MulDiv (N : Nat) : OrcOK Try.prog o_leatref02_MulDiv N := orc_cons (t_leatref02_MulDiv N) (ok_leatref02_Num N)
def s_leatref49_Target (_ : Nat) : List (Nat × LC) := []
noncomputable def e_leatref49_Target (N : Nat) : Env := mkEnv Try.prog o_leatref02_MulDiv (s_leatref49_Target N) N
theorem q_leatref49_Target (N : Nat) : LoopsFor (e_leatref49_Target N) Try.prog 23 0 := ⟨by kernel_rfl, fun j hj => match j, hj with
  | _ + 0, h => absurd h (by omega)⟩
def c_leatref49_Target : FC := mkF [.agg [.int .i64, .int .i64, .int .i64, .int .i64, .int .i64, .int .i64], .sc (.int .i64), .sc (.int .i64)] [.sc (.int .i64)] leatref49_Target
theorem t_leatref49_Target (N : Nat) : FCOK Try.prog N 23 c_leatref49_Target := fun_ok facts (ok_leatref02_MulDiv N) (by kernel_rfl) (by kernel_rfl) (q_leatref49_Target N) (fun t => by kernel_rfl)
def o_leatref49_Target : List (Nat × FC) := (23, c_leatref49_Target) :: o_leatref02_MulDiv
theorem ok_leatref49_Target (N : Nat) : OrcOK Try.prog o_leatref49_Target N := orc_cons (t_leatref49_Target N) (ok_leatref02_MulDiv N)
def s_cubic_Hear (_ : Nat) : List (Nat × LC) := []
noncomputable def e_cubic_Hear (N : Nat) : Env := mkEnv Try.prog o_leatref49_Target (s_cubic_Hear N) N
theorem q_cubic_Hear (N : Nat) : LoopsFor (e_cubic_Hear N) Try.prog 24 0 := ⟨by kernel_rfl, fun j hj => match j, hj with
  | _ + 0, h => absurd h (by omega)⟩
def c_cubic_Hear : FC := mkF [.agg [.int .i64, .int .i64, .int .i64, .int .i64, .int .i64, .int .i64], .sc (.int .i64), .sc (.int .i64), .sc (.int .i64)] [.agg [.int .i64, .int .i64, .int .i64, .int .i64, .int .i64, .int .i64]] cubic_Hear
theorem t_cubic_Hear (N : Nat) : FCOK Try.prog N 24 c_cubic_Hear := fun_ok facts (ok_leatref49_Target N) (by kernel_rfl) (by kernel_rfl) (q_cubic_Hear N) (fun t => by kernel_rfl)
def o_cubic_Hear : List (Nat × FC) := (24, c_cubic_Hear) :: o_leatref49_Target
theorem ok_cubic_Hear (N : Nat) : OrcOK Try.prog o_cubic_Hear N := orc_cons (t_cubic_Hear N) (ok_leatref49_Target N)
def s_leatref49_Hear (_ : Nat) : List (Nat × LC) := []
noncomputable def e_leatref49_Hear (N : Nat) : Env := mkEnv Try.prog o_cubic_Hear (s_leatref49_Hear N) N
theorem q_leatref49_Hear (N : Nat) : LoopsFor (e_leatref49_Hear N) Try.prog 25 0 := ⟨by kernel_rfl, fun j hj => match j, hj with
  | _ + 0, h => absurd h (by omega)⟩
def c_leatref49_Hear : FC := mkF [.agg [.int .i64, .int .i64, .int .i64, .int .i64, .int .i64, .int .i64], .sc (.int .i64), .sc (.int .i64), .sc (.int .i64)] [.agg [.int .i64, .int .i64, .int .i64, .int .i64, .int .i64, .int .i64]] leatref49_Hear
theorem t_leatref49_Hear (N : Nat) : FCOK Try.prog N 25 c_leatref49_Hear := fun_ok facts (ok_cubic_Hear N) (by kernel_rfl) (by kernel_rfl) (q_leatref49_Hear N) (fun t => by kernel_rfl)
def o_leatref49_Hear : List (Nat × FC) := (25, c_leatref49_Hear) :: o_cubic_Hear
theorem ok_leatref49_Hear (N : Nat) : OrcOK Try.prog o_leatref49_Hear N := orc_cons (t_leatref49_Hear N) (ok_cubic_Hear N)
def s_leatlaw49_CubicHears (_ : Nat) : List (Nat × LC) := []
noncomputable def e_leatlaw49_CubicHears (N : Nat) : Env := mkEnv Try.prog o_leatref49_Hear (s_leatlaw49_CubicHears N) N
theorem q_leatlaw49_CubicHears (N : Nat) : LoopsFor (e_leatlaw49_CubicHears N) Try.prog 5 0 := ⟨by kernel_rfl, fun j hj => match j, hj with
  | _ + 0, h => absurd h (by omega)⟩
theorem okL_leatlaw49_CubicHears (N : Nat) : OrcOK Try.prog o_leatref49_Hear N := ok_leatref49_Hear N
theorem w_leatlaw49_CubicHears (N : Nat) (x : RT [.agg [.int .i64, .int .i64, .int .i64, .int .i64, .int .i64, .int .i64], .sc (.int .i64), .agg [.int .i64, .int .i64]]) : uncR [.agg [.int .i64, .int .i64, .int .i64, .int .i64, .int .i64, .int .i64], .sc (.int .i64), .agg [.int .i64, .int .i64]] (leatlaw49_CubicHears N) x = evFn (e_leatlaw49_CubicHears N) 13 5 (encA 0 [.agg [.int .i64, .int .i64, .int .i64, .int .i64, .int .i64, .int .i64], .sc (.int .i64), .agg [.int .i64, .int .i64]] x).1 (encA 0 [.agg [.int .i64, .int .i64, .int .i64, .int .i64, .int .i64, .int .i64], .sc (.int .i64), .agg [.int .i64, .int .i64]] x).2 (decR [.sc .bool]) := by kernel_rfl
def s_leatlaw49_CubicKeeps (_ : Nat) : List (Nat × LC) := []
noncomputable def e_leatlaw49_CubicKeeps (N : Nat) : Env := mkEnv Try.prog o_leatref49_Hear (s_leatlaw49_CubicKeeps N) N
theorem q_leatlaw49_CubicKeeps (N : Nat) : LoopsFor (e_leatlaw49_CubicKeeps N) Try.prog 6 0 := ⟨by kernel_rfl, fun j hj => match j, hj with
  | _ + 0, h => absurd h (by omega)⟩
theorem okL_leatlaw49_CubicKeeps (N : Nat) : OrcOK Try.prog o_leatref49_Hear N := ok_leatref49_Hear N
theorem w_leatlaw49_CubicKeeps (N : Nat) (x : RT [.agg [.int .i64, .int .i64, .int .i64, .int .i64, .int .i64, .int .i64], .agg [.int .i64, .int .i64], .agg [.int .i64, .int .i64, .int .i64]]) : uncR [.agg [.int .i64, .int .i64, .int .i64, .int .i64, .int .i64, .int .i64], .agg [.int .i64, .int .i64], .agg [.int .i64, .int .i64, .int .i64]] (leatlaw49_CubicKeeps N) x = evFn (e_leatlaw49_CubicKeeps N) 13 6 (encA 0 [.agg [.int .i64, .int .i64, .int .i64, .int .i64, .int .i64, .int .i64], .agg [.int .i64, .int .i64], .agg [.int .i64, .int .i64, .int .i64]] x).1 (encA 0 [.agg [.int .i64, .int .i64, .int .i64, .int .i64, .int .i64, .int .i64], .agg [.int .i64, .int .i64], .agg [.int .i64, .int .i64, .int .i64]] x).2 (decR [.sc .bool]) := by kernel_rfl
def s_link_within (_ : Nat) : List (Nat × LC) := []
noncomputable def e_link_within (N : Nat) : Env := mkEnv Try.prog o_leatref49_Hear (s_link_within N) N
theorem q_link_within (N : Nat) : LoopsFor (e_link_within N) Try.prog 64 0 := ⟨by kernel_rfl, fun j hj => match j, hj with
  | _ + 0, h => absurd h (by omega)⟩
def c_link_within : FC := mkF [.agg [.int .i64, .int .i64, .int .i64]] [.agg [.int .i64, .int .i64, .int .i64]] link_within
theorem t_link_within (N : Nat) : FCOK Try.prog N 64 c_link_within := fun_ok facts (ok_leatref49_Hear N) (by kernel_rfl) (by kernel_rfl) (q_link_within N) (fun t => by kernel_rfl)
def o_link_within : List (Nat × FC) := (64, c_link_within) :: o_leatref49_Hear
theorem ok_link_within (N : Nat) : OrcOK Try.prog o_link_within N := orc_cons (t_link_within N) (ok_leatref49_Hear N)
def s_sat_Div (_ : Nat) : List (Nat × LC) := []
noncomputable def e_sat_Div (N : Nat) : Env := mkEnv Try.prog o_link_within (s_sat_Div N) N
theorem q_sat_Div (N : Nat) : LoopsFor (e_sat_Div N) Try.prog 66 0 := ⟨by kernel_rfl, fun j hj => match j, hj with
  | _ + 0, h => absurd h (by omega)⟩
def c_sat_Div : FC := mkF [.sc (.int .i64), .sc (.int .i64)] [.sc (.int .i64)] sat_Div
theorem t_sat_Div (N : Nat) : FCOK Try.prog N 66 c_sat_Div := fun_ok facts (ok_link_within N) (by kernel_rfl) (by kernel_rfl) (q_sat_Div N) (fun t => by kernel_rfl)
def o_sat_Div : List (Nat × FC) := (66, c_sat_Div) :: o_link_within
theorem ok_sat_Div (N : Nat) : OrcOK Try.prog o_sat_Div N := orc_cons (t_sat_Div N) (ok_link_within N)
def s_link_Span (_ : Nat) : List (Nat × LC) := []
noncomputable def e_link_Span (N : Nat) : Env := mkEnv Try.prog o_sat_Div (s_link_Span N) N
theorem q_link_Span (N : Nat) : LoopsFor (e_link_Span N) Try.prog 29 0 := ⟨by kernel_rfl, fun j hj => match j, hj with
  | _ + 0, h => absurd h (by omega)⟩
def c_link_Span : FC := mkF [.sc (.int .i64), .sc (.int .i64)] [.sc (.int .i64)] link_Span
theorem t_link_Span (N : Nat) : FCOK Try.prog N 29 c_link_Span := fun_ok facts (ok_sat_Div N) (by kernel_rfl) (by kernel_rfl) (q_link_Span N) (fun t => by kernel_rfl)
def o_link_Span : List (Nat × FC) := (29, c_link_Span) :: o_sat_Div
theorem ok_link_Span (N : Nat) : OrcOK Try.prog o_link_Span N := orc_cons (t_link_Span N) (ok_sat_Div N)
def s_link_Take (_ : Nat) : List (Nat × LC) := []
noncomputable def e_link_Take (N : Nat) : Env := mkEnv Try.prog o_link_Span (s_link_Take N) N
theorem q_link_Take (N : Nat) : LoopsFor (e_link_Take N) Try.prog 27 0 := ⟨by kernel_rfl, fun j hj => match j, hj with
  | _ + 0, h => absurd h (by omega)⟩
def c_link_Take : FC := mkF [.agg [.int .i64, .int .i64, .int .i64], .sc (.int .i64), .sc (.int .i64)] [.agg [.int .i64, .int .i64, .int .i64], .sc (.int .i64), .sc (.int .i64)] link_Take
theorem t_link_Take (N : Nat) : FCOK Try.prog N 27 c_link_Take := fun_ok facts (ok_link_Span N) (by kernel_rfl) (by kernel_rfl) (q_link_Take N) (fun t => by kernel_rfl)
def o_link_Take : List (Nat × FC) := (27, c_link_Take) :: o_link_Span
theorem ok_link_Take (N : Nat) : OrcOK Try.prog o_link_Take N := orc_cons (t_link_Take N) (ok_link_Span N)
def s_leatref37_keep (_ : Nat) : List (Nat × LC) := []
noncomputable def e_leatref37_keep (N : Nat) : Env := mkEnv Try.prog o_link_Take (s_leatref37_keep N) N
theorem q_leatref37_keep (N : Nat) : LoopsFor (e_leatref37_keep N) Try.prog 65 0 := ⟨by kernel_rfl, fun j hj => match j, hj with
  | _ + 0, h => absurd h (by omega)⟩
def c_leatref37_keep : FC := mkF [.sc (.int .i64), .sc (.int .i64), .sc (.int .i64)] [.sc (.int .i64)] leatref37_keep
theorem t_leatref37_keep (N : Nat) : FCOK Try.prog N 65 c_leatref37_keep := fun_ok facts (ok_link_Take N) (by kernel_rfl) (by kernel_rfl) (q_leatref37_keep N) (fun t => by kernel_rfl)
def o_leatref37_keep : List (Nat × FC) := (65, c_leatref37_keep) :: o_link_Take
theorem ok_leatref37_keep (N : Nat) : OrcOK Try.prog o_leatref37_keep N := orc_cons (t_leatref37_keep N) (ok_link_Take N)
def s_leatref37_Within (_ : Nat) : List (Nat × LC) := []
noncomputable def e_leatref37_Within (N : Nat) : Env := mkEnv Try.prog o_leatref37_keep (s_leatref37_Within N) N
theorem q_leatref37_Within (N : Nat) : LoopsFor (e_leatref37_Within N) Try.prog 34 0 := ⟨by kernel_rfl, fun j hj => match j, hj with
  | _ + 0, h => absurd h (by omega)⟩
def c_leatref37_Within : FC := mkF [.agg [.int .i64, .int .i64, .int .i64]] [.agg [.int .i64, .int .i64, .int .i64]] leatref37_Within
theorem t_leatref37_Within (N : Nat) : FCOK Try.prog N 34 c_leatref37_Within := fun_ok facts (ok_leatref37_keep N) (by kernel_rfl) (by kernel_rfl) (q_leatref37_Within N) (fun t => by kernel_rfl)
def o_leatref37_Within : List (Nat × FC) := (34, c_leatref37_Within) :: o_leatref37_keep
theorem ok_leatref37_Within (N : Nat) : OrcOK Try.prog o_leatref37_Within N := orc_cons (t_leatref37_Within N) (ok_leatref37_keep N)
def s_leatref37_Span (_ : Nat) : List (Nat × LC) := []
noncomputable def e_leatref37_Span (N : Nat) : Env := mkEnv Try.prog o_leatref37_Within (s_leatref37_Span N) N
theorem q_leatref37_Span (N : Nat) : LoopsFor (e_leatref37_Span N) Try.prog 30 0 := ⟨by kernel_rfl, fun j hj => match j, hj with
  | _ + 0, h => absurd h (by omega)⟩
def c_leatref37_Span : FC := mkF [.sc (.int .i64), .sc (.int .i64)] [.sc (.int .i64)] leatref37_Span
theorem t_leatref37_Span (N : Nat) : FCOK Try.prog N 30 c_leatref37_Span := fun_ok facts (ok_leatref37_Within N) (by kernel_rfl) (by kernel_rfl) (q_leatref37_Span N) (fun t => by kernel_rfl)
def o_leatref37_Span : List (Nat × FC) := (30, c_leatref37_Span) :: o_leatref37_Within
theorem ok_leatref37_Span (N : Nat) : OrcOK Try.prog o_leatref37_Span N := orc_cons (t_leatref37_Span N) (ok_leatref37_Within N)
def s_leatref37_Take (_ : Nat) : List (Nat × LC) := []
noncomputable def e_leatref37_Take (N : Nat) : Env := mkEnv Try.prog o_leatref37_Span (s_leatref37_Take N) N
theorem q_leatref37_Take (N : Nat) : LoopsFor (e_leatref37_Take N) Try.prog 28 0 := ⟨by kernel_rfl, fun j hj => match j, hj with
  | _ + 0, h => absurd h (by omega)⟩
def c_leatref37_Take : FC := mkF [.agg [.int .i64, .int .i64, .int .i64], .sc (.int .i64), .sc (.int .i64)] [.agg [.int .i64, .int .i64, .int .i64], .sc (.int .i64), .sc (.int .i64)] leatref37_Take
theorem t_leatref37_Take (N : Nat) : FCOK Try.prog N 28 c_leatref37_Take := fun_ok facts (ok_leatref37_Span N) (by kernel_rfl) (by kernel_rfl) (q_leatref37_Take N) (fun t => by kernel_rfl)
def o_leatref37_Take : List (Nat × FC) := (28, c_leatref37_Take) :: o_leatref37_Span
theorem ok_leatref37_Take (N : Nat) : OrcOK Try.prog o_leatref37_Take N := orc_cons (t_leatref37_Take N) (ok_leatref37_Span N)
def s_link_Room (_ : Nat) : List (Nat × LC) := []
noncomputable def e_link_Room (N : Nat) : Env := mkEnv Try.prog o_leatref37_Take (s_link_Room N) N
theorem q_link_Room (N : Nat) : LoopsFor (e_link_Room N) Try.prog 31 0 := ⟨by kernel_rfl, fun j hj => match j, hj with
  | _ + 0, h => absurd h (by omega)⟩
def c_link_Room : FC := mkF [.sc (.int .i64), .sc (.int .i64)] [.sc (.int .i64)] link_Room
theorem t_link_Room (N : Nat) : FCOK Try.prog N 31 c_link_Room := fun_ok facts (ok_leatref37_Take N) (by kernel_rfl) (by kernel_rfl) (q_link_Room N) (fun t => by kernel_rfl)
def o_link_Room : List (Nat × FC) := (31, c_link_Room) :: o_leatref37_Take
theorem ok_link_Room (N : Nat) : OrcOK Try.prog o_link_Room N := orc_cons (t_link_Room N) (ok_leatref37_Take N)
def s_leatref37_Room (_ : Nat) : List (Nat × LC) := []
noncomputable def e_leatref37_Room (N : Nat) : Env := mkEnv Try.prog o_link_Room (s_leatref37_Room N) N
theorem q_leatref37_Room (N : Nat) : LoopsFor (e_leatref37_Room N) Try.prog 32 0 := ⟨by kernel_rfl, fun j hj => match j, hj with
  | _ + 0, h => absurd h (by omega)⟩
def c_leatref37_Room : FC := mkF [.sc (.int .i64), .sc (.int .i64)] [.sc (.int .i64)] leatref37_Room
theorem t_leatref37_Room (N : Nat) : FCOK Try.prog N 32 c_leatref37_Room := fun_ok facts (ok_link_Room N) (by kernel_rfl) (by kernel_rfl) (q_leatref37_Room N) (fun t => by kernel_rfl)
def o_leatref37_Room : List (Nat × FC) := (32, c_leatref37_Room) :: o_link_Room
theorem ok_leatref37_Room (N : Nat) : OrcOK Try.prog o_leatref37_Room N := orc_cons (t_leatref37_Room N) (ok_link_Room N)
def s_link_Idle (_ : Nat) : List (Nat × LC) := []
noncomputable def e_link_Idle (N : Nat) : Env := mkEnv Try.prog o_leatref37_Room (s_link_Idle N) N
theorem q_link_Idle (N : Nat) : LoopsFor (e_link_Idle N) Try.prog 33 0 := ⟨by kernel_rfl, fun j hj => match j, hj with
  | _ + 0, h => absurd h (by omega)⟩
def c_link_Idle : FC := mkF [.agg [.int .i64, .int .i64, .int .i64], .sc (.int .i64)] [.sc (.bool)] link_Idle
theorem t_link_Idle (N : Nat) : FCOK Try.prog N 33 c_link_Idle := fun_ok facts (ok_leatref37_Room N) (by kernel_rfl) (by kernel_rfl) (q_link_Idle N) (fun t => by kernel_rfl)
def o_link_Idle : List (Nat × FC) := (33, c_link_Idle) :: o_leatref37_Room
theorem ok_link_Idle (N : Nat) : OrcOK Try.prog o_link_Idle N := orc_cons (t_link_Idle N) (ok_leatref37_Room N)
def s_leatlaw37_works (_ : Nat) : List (Nat × LC) := []
noncomputable def e_leatlaw37_works (N : Nat) : Env := mkEnv Try.prog o_link_Idle (s_leatlaw37_works N) N
theorem q_leatlaw37_works (N : Nat) : LoopsFor (e_leatlaw37_works N) Try.prog 35 0 := ⟨by kernel_rfl, fun j hj => match j, hj with
  | _ + 0, h => absurd h (by omega)⟩
def c_leatlaw37_works : FC := mkF [] [.sc (.bool)] leatlaw37_works
theorem t_leatlaw37_works (N : Nat) : FCOK Try.prog N 35 c_leatlaw37_works := fun_ok facts (ok_link_Idle N) (by kernel_rfl) (by kernel_rfl) (q_leatlaw37_works N) (fun t => by kernel_rfl)
def o_leatlaw37_works : List (Nat × FC) := (35, c_leatlaw37_works) :: o_link_Idle
theorem ok_leatlaw37_works (N : Nat) : OrcOK Try.prog o_leatlaw37_works N := orc_cons (t_leatlaw37_works N) (ok_link_Idle N)
def s_leatlaw37_LinkTakes (_ : Nat) : List (Nat × LC) := []
noncomputable def e_leatlaw37_LinkTakes (N : Nat) : Env := mkEnv Try.prog o_leatlaw37_works (s_leatlaw37_LinkTakes N) N
theorem q_leatlaw37_LinkTakes (N : Nat) : LoopsFor (e_leatlaw37_LinkTakes N) Try.prog 7 0 := ⟨by kernel_rfl, fun j hj => match j, hj with
  | _ + 0, h => absurd h (by omega)⟩
theorem okL_leatlaw37_LinkTakes (N : Nat) : OrcOK Try.prog o_leatlaw37_works N := ok_leatlaw37_works N
theorem w_leatlaw37_LinkTakes (N : Nat) (x : RT [.agg [.int .i64, .int .i64, .int .i64], .sc (.int .i64), .sc (.int .i64)]) : uncR [.agg [.int .i64, .int .i64, .int .i64], .sc (.int .i64), .sc (.int .i64)] (leatlaw37_LinkTakes N) x = evFn (e_leatlaw37_LinkTakes N) 13 7 (encA 0 [.agg [.int .i64, .int .i64, .int .i64], .sc (.int .i64), .sc (.int .i64)] x).1 (encA 0 [.agg [.int .i64, .int .i64, .int .i64], .sc (.int .i64), .sc (.int .i64)] x).2 (decR [.sc .bool]) := by kernel_rfl
def p_leatlaw37_LinkRuns_5 : List Pat := [.any, .sl 0, .any, .any, .any, .ptr 1 0, .sc (.int .i64), .sl 2, .sl 3, .sl 4, .sc (.int .i64), .any, .any, .any, .any, .any, .any, .any, .any, .any, .any, .any, .any, .any, .any, .any, .any, .any, .any, .any, .any, .any, .any, .any, .any, .any, .any, .any, .any, .any, .any, .any, .any, .any, .any, .any, .any, .any, .any, .any, .any, .any, .any, .any, .any, .any, .any, .any, .any, .any, .any, .any, .any, .any, .any, .any, .any, .any, .any, .any, .any, .any, .any, .any, .any, .any, .any, .any, .any, .any, .any, .any, .any, .any, .any, .any, .any, .any, .any, .any, .any, .any, .any, .any, .any, .any, .any, .any, .any, .any, .any, .any, .any, .any, .any, .any, .any, .any, .any, .any, .any, .any, .any, .any, .any, .any, .any, .any, .any, .any, .any, .any, .any, .any, .any, .any, .any, .any, .any, .any, .any, .any, .any, .any, .any, .any, .any, .any, .any, .any, .any, .any, .any, .any, .any, .any, .any, .any]
def h_leatlaw37_LinkRuns_5 : List HPat := [.ext 49 [.int .u16, .int .u16], .cells [.sc (.int .i64), .sc (.int .i64), .sc (.int .i64)], .rows 2 [.int .i64], .rows 2 [.int .i64], .rows 2 [.int .i64]]
def x_leatlaw37_LinkRuns_5 : List XP := [⟨.ret, [.any, .any, .any, .any, .sc (.bool), .any, .any, .any, .any, .any, .any, .any, .any, .any, .any, .any, .any, .any, .any, .any, .any, .any, .any, .any, .any, .any, .any, .any, .any, .any, .any, .any, .any, .any, .any, .any, .any, .any, .any, .any, .any, .any, .any, .any, .any, .any, .any, .any, .any, .any, .any, .any, .any, .any, .any, .any, .any, .any, .any, .any, .any, .any, .any, .any, .any, .any, .any, .any, .any, .any, .any, .any, .any, .any, .any, .any, .any, .any, .any, .any, .any, .any, .any, .any, .any, .any, .any, .any, .any, .any, .any, .any, .any, .any, .any, .any, .any, .any, .any, .any, .any, .any, .any, .any, .any, .any, .any, .any, .any, .any, .any, .any, .any, .any, .any, .any, .any, .any, .any, .any, .any, .any, .any, .any, .any, .any, .any, .any, .any, .any, .any, .any, .any, .any, .any, .any, .any, .any, .any, .any, .any, .any, .any, .any, .any, .any, .any, .any], []⟩, ⟨.exit 0, [.any, .any, .any, .any, .any, .ptr 0 0, .any, .sl 1, .sl 2, .sl 3, .any, .any, .any, .any, .any, .any, .any, .any, .any, .any, .any, .any, .any, .any, .any, .any, .any, .any, .any, .any, .any, .any, .any, .any, .any, .any, .any, .any, .any, .any, .any, .any, .any, .any, .any, .any, .any, .any, .any, .any, .any, .any, .any, .any, .any, .any, .any, .any, .any, .any, .any, .any, .any, .any, .any, .any, .any, .any, .any, .any, .any, .any, .any, .any, .any, .any, .any, .any, .any, .any, .any, .any, .any, .any, .any, .any, .any, .any, .any, .any, .any, .any, .any, .any, .any, .any, .any, .any, .any, .any, .any, .any, .any, .any, .any, .any, .any, .any, .any, .any, .any, .any, .any, .any, .any, .any, .any, .any, .any, .any, .any, .any, .any, .any, .any, .any, .any, .any, .any, .any, .any, .any, .any, .any, .any, .any, .any, .any, .any, .any, .any, .any, .any, .any, .any, .any, .any, .any], [.cells [.sc (.int .i64), .sc (.int .i64), .sc (.int .i64)], .rows 2 [.int .i64], .rows 2 [.int .i64], .rows 2 [.int .i64]]⟩]
def lc_leatlaw37_LinkRuns_5 (N : Nat) : LC := mkLC p_leatlaw37_LinkRuns_5 h_leatlaw37_LinkRuns_5 x_leatlaw37_LinkRuns_5 (leatlaw37_LinkRuns_L5 N)
def p_leatlaw37_LinkRuns_20 : List Pat := [.any, .any, .any, .any, .any, .ptr 0 0, .any, .sl 1, .sl 2, .sl 3, .any, .any, .any, .any, .any, .any, .sc (.int .i64), .sc (.int .i64), .sc (.int .i64), .any, .any, .any, .any, .any, .any, .any, .any, .any, .any, .any, .any, .any, .any, .any, .any, .any, .any, .any, .any, .any, .any, .any, .any, .any, .any, .any, .any, .any, .any, .any, .any, .any, .any, .any, .any, .any, .any, .any, .any, .any, .any, .any, .any, .any, .any, .any, .any, .any, .any, .any, .any, .any, .any, .any, .any, .any, .any, .any, .any, .any, .any, .any, .any, .any, .any, .any, .any, .any, .any, .any, .any, .any, .any, .any, .any, .any, .any, .any, .any, .any, .any, .any, .any, .any, .any, .any, .any, .any, .any, .any, .any, .any, .any, .any, .any, .sc (.int .i64), .sc (.int .i64), .any, .any, .any, .any, .any, .any, .any, .any, .any, .any, .any, .any, .any, .any, .any, .any, .any, .any, .any, .any, .any, .any, .any, .any, .any, .any, .any, .any, .any, .any, .any]
def h_leatlaw37_LinkRuns_20 : List HPat := [.cells [.sc (.int .i64), .sc (.int .i64), .sc (.int .i64)], .rows 2 [.int .i64], .rows 2 [.int .i64], .rows 2 [.int .i64]]
def x_leatlaw37_LinkRuns_20 : List XP := [⟨.ret, [.any, .any, .any, .any, .sc (.bool), .any, .any, .any, .any, .any, .any, .any, .any, .any, .any, .any, .any, .any, .any, .any, .any, .any, .any, .any, .any, .any, .any, .any, .any, .any, .any, .any, .any, .any, .any, .any, .any, .any, .any, .any, .any, .any, .any, .any, .any, .any, .any, .any, .any, .any, .any, .any, .any, .any, .any, .any, .any, .any, .any, .any, .any, .any, .any, .any, .any, .any, .any, .any, .any, .any, .any, .any, .any, .any, .any, .any, .any, .any, .any, .any, .any, .any, .any, .any, .any, .any, .any, .any, .any, .any, .any, .any, .any, .any, .any, .any, .any, .any, .any, .any, .any, .any, .any, .any, .any, .any, .any, .any, .any, .any, .any, .any, .any, .any, .any, .any, .any, .any, .any, .any, .any, .any, .any, .any, .any, .any, .any, .any, .any, .any, .any, .any, .any, .any, .any, .any, .any, .any, .any, .any, .any, .any, .any, .any, .any, .any, .any, .any], []⟩, ⟨.exit 4, [.any, .any, .any, .any, .any, .ptr 0 0, .any, .sl 1, .sl 2, .sl 3, .any, .any, .any, .any, .any, .any, .any, .any, .any, .any, .any, .any, .any, .any, .any, .any, .any, .any, .any, .any, .any, .any, .any, .any, .any, .any, .any, .any, .any, .any, .any, .any, .any, .any, .any, .any, .any, .any, .any, .any, .any, .any, .any, .any, .any, .any, .any, .any, .any, .any, .any, .any, .any, .any, .any, .any, .any, .any, .any, .any, .any, .any, .any, .any, .any, .any, .any, .any, .any, .any, .any, .any, .any, .any, .any, .any, .any, .any, .any, .any, .any, .any, .any, .any, .any, .any, .any, .any, .any, .any, .any, .any, .any, .any, .any, .any, .any, .any, .any, .any, .any, .any, .any, .any, .any, .sc (.int .i64), .sc (.int .i64), .any, .any, .any, .any, .any, .any, .any, .any, .any, .any, .any, .any, .any, .any, .any, .any, .any, .any, .any, .any, .any, .any, .any, .any, .any, .any, .any, .any, .any, .any, .any], [.cells [.sc (.int .i64), .sc (.int .i64), .sc (.int .i64)], .rows 2 [.int .i64], .rows 2 [.int .i64], .rows 2 [.int .i64]]⟩]
def lc_leatlaw37_LinkRuns_20 (N : Nat) : LC := mkLC p_leatlaw37_LinkRuns_20 h_leatlaw37_LinkRuns_20 x_leatlaw37_LinkRuns_20 (leatlaw37_LinkRuns_L20 N)
def p_leatlaw37_LinkRuns_16 : List Pat := [.any, .any, .any, .any, .any, .ptr 0 0, .any, .sl 1, .sl 2, .sl 3, .any, .any, .any, .any, .any, .any, .any, .any, .any, .any, .any, .any, .any, .any, .any, .any, .any, .any, .any, .any, .any, .any, .any, .any, .any, .any, .any, .any, .any, .any, .any, .any, .any, .any, .any, .any, .any, .any, .any, .any, .any, .any, .any, .any, .any, .any, .any, .any, .any, .any, .any, .any, .any, .any, .any, .any, .any, .any, .any, .any, .any, .any, .any, .any, .any, .any, .any, .any, .any, .any, .any, .any, .any, .any, .any, .any, .any, .any, .any, .any, .any, .any, .any, .any, .any, .any, .any, .any, .any, .any, .any, .any, .any, .any, .any, .any, .any, .any, .any, .any, .any, .any, .any, .any, .any, .sc (.int .i64), .sc (.int .i64), .any, .any, .any, .any, .any, .any, .any, .any, .any, .any, .any, .any, .any, .any, .any, .any, .any, .any, .any, .any, .any, .any, .any, .any, .any, .any, .any, .any, .any, .any, .any]
def h_leatlaw37_LinkRuns_16 : List HPat := [.cells [.sc (.int .i64), .sc (.int .i64), .sc (.int .i64)], .rows 2 [.int .i64], .rows 2 [.int .i64], .rows 2 [.int .i64]]
def x_leatlaw37_LinkRuns_16 : List XP := [⟨.ret, [.any, .any, .any, .any, .sc (.bool), .any, .any, .any, .any, .any, .any, .any, .any, .any, .any, .any, .any, .any, .any, .any, .any, .any, .any, .any, .any, .any, .any, .any, .any, .any, .any, .any, .any, .any, .any, .any, .any, .any, .any, .any, .any, .any, .any, .any, .any, .any, .any, .any, .any, .any, .any, .any, .any, .any, .any, .any, .any, .any, .any, .any, .any, .any, .any, .any, .any, .any, .any, .any, .any, .any, .any, .any, .any, .any, .any, .any, .any, .any, .any, .any, .any, .any, .any, .any, .any, .any, .any, .any, .any, .any, .any, .any, .any, .any, .any, .any, .any, .any, .any, .any, .any, .any, .any, .any, .any, .any, .any, .any, .any, .any, .any, .any, .any, .any, .any, .any, .any, .any, .any, .any, .any, .any, .any, .any, .any, .any, .any, .any, .any, .any, .any, .any, .any, .any, .any, .any, .any, .any, .any, .any, .any, .any, .any, .any, .any, .any, .any, .any], []⟩, ⟨.exit 2, [.any, .any, .any, .any, .any, .any, .any, .any, .any, .any, .any, .any, .any, .any, .any, .any, .any, .any, .any, .any, .any, .any, .any, .any, .any, .any, .any, .any, .any, .any, .any, .any, .any, .any, .any, .any, .any, .any, .any, .any, .any, .any, .any, .any, .any, .any, .any, .any, .any, .any, .any, .any, .any, .any, .any, .any, .any, .any, .any, .any, .any, .any, .any, .any, .any, .any, .any, .any, .any, .any, .any, .any, .any, .any, .any, .any, .any, .any, .any, .any, .any, .any, .any, .any, .any, .any, .any, .any, .any, .any, .any, .any, .any, .any, .any, .any, .any, .any, .any, .any, .any, .any, .any, .any, .any, .any, .any, .any, .any, .any, .any, .any, .any, .any, .any, .any, .any, .any, .any, .any, .any, .any, .any, .any, .any, .any, .any, .any, .any, .any, .any, .any, .any, .any, .any, .any, .any, .any, .any, .any, .any, .any, .any, .any, .any, .any, .any, .any], []⟩]
def lc_leatlaw37_LinkRuns_16 (N : Nat) : LC := mkLC p_leatlaw37_LinkRuns_16 h_leatlaw37_LinkRuns_16 x_leatlaw37_LinkRuns_16 (leatlaw37_LinkRuns_L16 N)
def s_leatlaw37_LinkRuns (N : Nat) : List (Nat × LC) := [(5, lc_leatlaw37_LinkRuns_5 N), (20, lc_leatlaw37_LinkRuns_20 N), (16, lc_leatlaw37_LinkRuns_16 N)]
noncomputable def e_leatlaw37_LinkRuns (N : Nat) : Env := mkEnv Try.prog o_leatlaw37_works (s_leatlaw37_LinkRuns N) N
theorem k_leatlaw37_LinkRuns_5 (N : Nat) : LCOK (e_leatlaw37_LinkRuns N) 12 (loopAt Try.prog 8 0) (lc_leatlaw37_LinkRuns_5 N) := mkLC_ok (by kernel_rfl) (by kernel_rfl) (fun F x => by kernel_rfl)
theorem k_leatlaw37_LinkRuns_20 (N : Nat) : LCOK (e_leatlaw37_LinkRuns N) 12 (loopAt Try.prog 8 2) (lc_leatlaw37_LinkRuns_20 N) := mkLC_ok (by kernel_rfl) (by kernel_rfl) (fun F x => by kernel_rfl)
theorem k_leatlaw37_LinkRuns_16 (N : Nat) : LCOK (e_leatlaw37_LinkRuns N) 12 (loopAt Try.prog 8 1) (lc_leatlaw37_LinkRuns_16 N) := mkLC_ok (by kernel_rfl) (by kernel_rfl) (fun F x => by kernel_rfl)
theorem q_leatlaw37_LinkRuns (N : Nat) : LoopsFor (e_leatlaw37_LinkRuns N) Try.prog 8 3 := ⟨by kernel_rfl, fun j hj => match j, hj with
  | 0, _ => ⟨lc_leatlaw37_LinkRuns_5 N, by kernel_rfl, k_leatlaw37_LinkRuns_5 N⟩
  | 1, _ => ⟨lc_leatlaw37_LinkRuns_16 N, by kernel_rfl, k_leatlaw37_LinkRuns_16 N⟩
  | 2, _ => ⟨lc_leatlaw37_LinkRuns_20 N, by kernel_rfl, k_leatlaw37_LinkRuns_20 N⟩
  | _ + 3, h => absurd h (by omega)⟩
theorem okL_leatlaw37_LinkRuns (N : Nat) : OrcOK Try.prog o_leatlaw37_works N := ok_leatlaw37_works N
theorem w_leatlaw37_LinkRuns (N : Nat) (x : RT [.sc (.int .u32), .row 49 [.int .u16, .int .u16]]) : uncR [.sc (.int .u32), .row 49 [.int .u16, .int .u16]] (leatlaw37_LinkRuns N) x = evFn (e_leatlaw37_LinkRuns N) 13 8 (encA 0 [.sc (.int .u32), .row 49 [.int .u16, .int .u16]] x).1 (encA 0 [.sc (.int .u32), .row 49 [.int .u16, .int .u16]] x).2 (decR [.sc .bool]) := by kernel_rfl
end Go.Proofs.Ytakjmminaolfnaa.W
