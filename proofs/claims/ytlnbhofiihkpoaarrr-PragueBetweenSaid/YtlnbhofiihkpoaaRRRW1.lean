/- The functions of the seat, as the evaluator tells them, each with its contract. Printed by genW.py. -/
import Derived.Test.YtlnbhofiihkpoaaRRRW0
import Derived.Test.YtlnbhofiihkpoaaRRRRows
namespace Go.Proofs.YtlnbhofiihkpoaaRRR.W
open Go.Ev Go.RowKit
theorem facts : Facts Try.prog := ⟨by kernel_rfl, names_of (by kernel_rfl)⟩
def o_0 : List (Nat × FC) := []
theorem ok_0 (N : Nat) : OrcOK Try.prog o_0 N := orc_nil
def s_sat_Clamp (_ : Nat) : List (Nat × LC) := []
noncomputable def e_sat_Clamp (N : Nat) : Env := mkEnv Try.prog o_0 (s_sat_Clamp N) N
theorem q_sat_Clamp (N : Nat) : LoopsFor (e_sat_Clamp N) Try.prog 25 0 := ⟨by kernel_rfl, fun j hj => match j, hj with
  | _ + 0, h => absurd h (by omega)⟩
def c_sat_Clamp : FC := mkF [.sc (.int .i64), .sc (.int .i64), .sc (.int .i64)] [.sc (.int .i64)] sat_Clamp
theorem t_sat_Clamp (N : Nat) : FCOK Try.prog N 25 c_sat_Clamp := fun_ok facts (ok_0 N) (by kernel_rfl) (by kernel_rfl) (q_sat_Clamp N) (fun t => by kernel_rfl)
def o_sat_Clamp : List (Nat × FC) := (25, c_sat_Clamp) :: o_0
theorem ok_sat_Clamp (N : Nat) : OrcOK Try.prog o_sat_Clamp N := orc_cons (t_sat_Clamp N) (ok_0 N)
def s_alpha_within (_ : Nat) : List (Nat × LC) := []
noncomputable def e_alpha_within (N : Nat) : Env := mkEnv Try.prog o_sat_Clamp (s_alpha_within N) N
theorem q_alpha_within (N : Nat) : LoopsFor (e_alpha_within N) Try.prog 26 0 := ⟨by kernel_rfl, fun j hj => match j, hj with
  | _ + 0, h => absurd h (by omega)⟩
def c_alpha_within : FC := mkF [.agg [.int .i64, .int .i64, .int .i64, .int .i64]] [.agg [.int .i64, .int .i64, .int .i64, .int .i64]] alpha_within
theorem t_alpha_within (N : Nat) : FCOK Try.prog N 26 c_alpha_within := fun_ok facts (ok_sat_Clamp N) (by kernel_rfl) (by kernel_rfl) (q_alpha_within N) (fun t => by kernel_rfl)
def o_alpha_within : List (Nat × FC) := (26, c_alpha_within) :: o_sat_Clamp
theorem ok_alpha_within (N : Nat) : OrcOK Try.prog o_alpha_within N := orc_cons (t_alpha_within N) (ok_sat_Clamp N)
def s_bits_Mul64 (_ : Nat) : List (Nat × LC) := []
noncomputable def e_bits_Mul64 (N : Nat) : Env := mkEnv Try.prog o_alpha_within (s_bits_Mul64 N) N
theorem q_bits_Mul64 (N : Nat) : LoopsFor (e_bits_Mul64 N) Try.prog 74 0 := ⟨by kernel_rfl, fun j hj => match j, hj with
  | _ + 0, h => absurd h (by omega)⟩
def c_bits_Mul64 : FC := mkF [.sc (.int .u64), .sc (.int .u64)] [.sc (.int .u64), .sc (.int .u64)] bits_Mul64
theorem t_bits_Mul64 (N : Nat) : FCOK Try.prog N 74 c_bits_Mul64 := fun_ok facts (ok_alpha_within N) (by kernel_rfl) (by kernel_rfl) (q_bits_Mul64 N) (fun t => by kernel_rfl)
def o_bits_Mul64 : List (Nat × FC) := (74, c_bits_Mul64) :: o_alpha_within
theorem ok_bits_Mul64 (N : Nat) : OrcOK Try.prog o_bits_Mul64 N := orc_cons (t_bits_Mul64 N) (ok_alpha_within N)
def s_wide_Mul (_ : Nat) : List (Nat × LC) := []
noncomputable def e_wide_Mul (N : Nat) : Env := mkEnv Try.prog o_bits_Mul64 (s_wide_Mul N) N
theorem q_wide_Mul (N : Nat) : LoopsFor (e_wide_Mul N) Try.prog 65 0 := ⟨by kernel_rfl, fun j hj => match j, hj with
  | _ + 0, h => absurd h (by omega)⟩
def c_wide_Mul : FC := mkF [.sc (.int .u64), .sc (.int .u64)] [.agg [.int .u64, .int .u64]] wide_Mul
theorem t_wide_Mul (N : Nat) : FCOK Try.prog N 65 c_wide_Mul := fun_ok facts (ok_bits_Mul64 N) (by kernel_rfl) (by kernel_rfl) (q_wide_Mul N) (fun t => by kernel_rfl)
def o_wide_Mul : List (Nat × FC) := (65, c_wide_Mul) :: o_bits_Mul64
theorem ok_wide_Mul (N : Nat) : OrcOK Try.prog o_wide_Mul N := orc_cons (t_wide_Mul N) (ok_bits_Mul64 N)
def s_bits_Len64 (_ : Nat) : List (Nat × LC) := []
noncomputable def e_bits_Len64 (N : Nat) : Env := mkEnv Try.prog o_wide_Mul (s_bits_Len64 N) N
theorem q_bits_Len64 (N : Nat) : LoopsFor (e_bits_Len64 N) Try.prog 80 0 := ⟨by kernel_rfl, fun j hj => match j, hj with
  | _ + 0, h => absurd h (by omega)⟩
def c_bits_Len64 : FC := mkF [.sc (.int .u64)] [.sc (.int .i64)] bits_Len64
theorem t_bits_Len64 (N : Nat) : FCOK Try.prog N 80 c_bits_Len64 := fun_ok facts (ok_wide_Mul N) (by kernel_rfl) (by kernel_rfl) (q_bits_Len64 N) (fun t => by kernel_rfl)
def o_bits_Len64 : List (Nat × FC) := (80, c_bits_Len64) :: o_wide_Mul
theorem ok_bits_Len64 (N : Nat) : OrcOK Try.prog o_bits_Len64 N := orc_cons (t_bits_Len64 N) (ok_wide_Mul N)
def s_bits_LeadingZeros64 (_ : Nat) : List (Nat × LC) := []
noncomputable def e_bits_LeadingZeros64 (N : Nat) : Env := mkEnv Try.prog o_bits_Len64 (s_bits_LeadingZeros64 N) N
theorem q_bits_LeadingZeros64 (N : Nat) : LoopsFor (e_bits_LeadingZeros64 N) Try.prog 78 0 := ⟨by kernel_rfl, fun j hj => match j, hj with
  | _ + 0, h => absurd h (by omega)⟩
def c_bits_LeadingZeros64 : FC := mkF [.sc (.int .u64)] [.sc (.int .i64)] bits_LeadingZeros64
theorem t_bits_LeadingZeros64 (N : Nat) : FCOK Try.prog N 78 c_bits_LeadingZeros64 := fun_ok facts (ok_bits_Len64 N) (by kernel_rfl) (by kernel_rfl) (q_bits_LeadingZeros64 N) (fun t => by kernel_rfl)
def o_bits_LeadingZeros64 : List (Nat × FC) := (78, c_bits_LeadingZeros64) :: o_bits_Len64
theorem ok_bits_LeadingZeros64 (N : Nat) : OrcOK Try.prog o_bits_LeadingZeros64 N := orc_cons (t_bits_LeadingZeros64 N) (ok_bits_Len64 N)
def p_bits_Div64_17 : List Pat := [.any, .any, .sc (.int .u64), .any, .any, .any, .any, .any, .sc (.int .u64), .sc (.int .u64), .sc (.int .u64), .sc (.int .u64), .any, .sc (.int .u64), .sc (.int .u64), .sc (.int .u64), .sc (.int .u64), .any, .any, .any, .any, .any, .any, .any, .any, .any, .any, .any, .any, .any, .any, .any, .any, .any, .any, .any, .any, .any, .any, .any, .any, .any, .any, .any, .any, .any, .any, .any, .any, .any, .any, .any, .any, .any, .any, .any, .any, .any, .any, .any, .any, .any, .any, .any, .any, .any, .any, .any, .any, .any, .any, .any, .any, .any, .any, .any, .any, .any, .any, .any, .any, .any, .any, .any, .any, .any, .any, .any, .any, .any, .any, .any, .any, .any, .any, .any, .any, .any, .any, .any, .any, .any, .any, .any, .any, .any, .any, .any, .any, .any, .any, .any, .any, .any, .any, .any, .any, .any, .any, .any, .any, .any, .any, .any, .any, .any, .any, .any, .any, .any, .any, .any, .any, .any, .any]
def h_bits_Div64_17 : List HPat := []
def x_bits_Div64_17 : List XP := [⟨.exit 0, [.any, .any, .sc (.int .u64), .any, .any, .any, .any, .any, .sc (.int .u64), .sc (.int .u64), .sc (.int .u64), .sc (.int .u64), .any, .sc (.int .u64), .sc (.int .u64), .sc (.int .u64), .any, .any, .any, .any, .any, .any, .any, .any, .any, .any, .any, .any, .any, .any, .any, .any, .any, .any, .any, .any, .any, .any, .any, .any, .any, .any, .any, .any, .any, .any, .any, .any, .any, .any, .any, .any, .any, .any, .any, .any, .any, .any, .any, .any, .any, .any, .any, .any, .any, .any, .any, .any, .any, .any, .any, .any, .any, .any, .any, .any, .any, .any, .any, .any, .any, .any, .any, .any, .any, .any, .any, .any, .any, .any, .any, .any, .any, .any, .any, .any, .any, .any, .any, .any, .any, .any, .any, .any, .any, .any, .any, .any, .any, .any, .any, .any, .any, .any, .any, .any, .any, .any, .any, .any, .any, .any, .any, .any, .any, .any, .any, .any, .any, .any, .any, .any, .any, .any, .any], []⟩]
def lc_bits_Div64_17 (N : Nat) : LC := mkLC p_bits_Div64_17 h_bits_Div64_17 x_bits_Div64_17 (bits_Div64_L17 N)
def p_bits_Div64_24 : List Pat := [.any, .any, .sc (.int .u64), .any, .any, .any, .any, .any, .sc (.int .u64), .sc (.int .u64), .sc (.int .u64), .any, .any, .any, .sc (.int .u64), .sc (.int .u64), .sc (.int .u64), .sc (.int .u64), .sc (.int .u64), .any, .any, .any, .any, .any, .any, .any, .any, .any, .any, .any, .any, .any, .any, .any, .any, .any, .any, .any, .any, .any, .any, .any, .any, .any, .any, .any, .any, .any, .any, .any, .any, .any, .any, .any, .any, .any, .any, .any, .any, .any, .any, .any, .any, .any, .any, .any, .any, .any, .any, .any, .any, .any, .any, .any, .any, .any, .any, .any, .any, .any, .any, .any, .any, .any, .any, .any, .any, .any, .any, .any, .any, .any, .any, .any, .any, .any, .any, .any, .any, .any, .any, .any, .any, .any, .any, .any, .any, .any, .any, .any, .any, .any, .any, .any, .any, .any, .any, .any, .any, .any, .any, .any, .any, .any, .any, .any, .any, .any, .any, .any, .any, .any, .any, .any, .any]
def h_bits_Div64_24 : List HPat := []
def x_bits_Div64_24 : List XP := [⟨.exit 2, [.any, .any, .sc (.int .u64), .any, .any, .any, .any, .any, .sc (.int .u64), .any, .any, .any, .any, .any, .sc (.int .u64), .sc (.int .u64), .any, .sc (.int .u64), .sc (.int .u64), .any, .any, .any, .any, .any, .any, .any, .any, .any, .any, .any, .any, .any, .any, .any, .any, .any, .any, .any, .any, .any, .any, .any, .any, .any, .any, .any, .any, .any, .any, .any, .any, .any, .any, .any, .any, .any, .any, .any, .any, .any, .any, .any, .any, .any, .any, .any, .any, .any, .any, .any, .any, .any, .any, .any, .any, .any, .any, .any, .any, .any, .any, .any, .any, .any, .any, .any, .any, .any, .any, .any, .any, .any, .any, .any, .any, .any, .any, .any, .any, .any, .any, .any, .any, .any, .any, .any, .any, .any, .any, .any, .any, .any, .any, .any, .any, .any, .any, .any, .any, .any, .any, .any, .any, .any, .any, .any, .any, .any, .any, .any, .any, .any, .any, .any, .any], []⟩]
def lc_bits_Div64_24 (N : Nat) : LC := mkLC p_bits_Div64_24 h_bits_Div64_24 x_bits_Div64_24 (bits_Div64_L24 N)
def s_bits_Div64 (N : Nat) : List (Nat × LC) := [(17, lc_bits_Div64_17 N), (24, lc_bits_Div64_24 N)]
noncomputable def e_bits_Div64 (N : Nat) : Env := mkEnv Try.prog o_bits_LeadingZeros64 (s_bits_Div64 N) N
theorem k_bits_Div64_17 (N : Nat) : LCOK (e_bits_Div64 N) 12 (loopAt Try.prog 73 0) (lc_bits_Div64_17 N) := mkLC_ok (by kernel_rfl) (by kernel_rfl) (fun F x => by kernel_rfl)
theorem k_bits_Div64_24 (N : Nat) : LCOK (e_bits_Div64 N) 12 (loopAt Try.prog 73 1) (lc_bits_Div64_24 N) := mkLC_ok (by kernel_rfl) (by kernel_rfl) (fun F x => by kernel_rfl)
theorem q_bits_Div64 (N : Nat) : LoopsFor (e_bits_Div64 N) Try.prog 73 2 := ⟨by kernel_rfl, fun j hj => match j, hj with
  | 0, _ => ⟨lc_bits_Div64_17 N, by kernel_rfl, k_bits_Div64_17 N⟩
  | 1, _ => ⟨lc_bits_Div64_24 N, by kernel_rfl, k_bits_Div64_24 N⟩
  | _ + 2, h => absurd h (by omega)⟩
def c_bits_Div64 : FC := mkF [.sc (.int .u64), .sc (.int .u64), .sc (.int .u64)] [.sc (.int .u64), .sc (.int .u64)] bits_Div64
theorem t_bits_Div64 (N : Nat) : FCOK Try.prog N 73 c_bits_Div64 := fun_ok facts (ok_bits_LeadingZeros64 N) (by kernel_rfl) (by kernel_rfl) (q_bits_Div64 N) (fun t => by kernel_rfl)
def o_bits_Div64 : List (Nat × FC) := (73, c_bits_Div64) :: o_bits_LeadingZeros64
theorem ok_bits_Div64 (N : Nat) : OrcOK Try.prog o_bits_Div64 N := orc_cons (t_bits_Div64 N) (ok_bits_LeadingZeros64 N)
def s_wide_Div (_ : Nat) : List (Nat × LC) := []
noncomputable def e_wide_Div (N : Nat) : Env := mkEnv Try.prog o_bits_Div64 (s_wide_Div N) N
theorem q_wide_Div (N : Nat) : LoopsFor (e_wide_Div N) Try.prog 64 0 := ⟨by kernel_rfl, fun j hj => match j, hj with
  | _ + 0, h => absurd h (by omega)⟩
def c_wide_Div : FC := mkF [.agg [.int .u64, .int .u64], .sc (.int .u64)] [.agg [.int .u64, .int .u64], .sc (.int .u64)] wide_Div
theorem t_wide_Div (N : Nat) : FCOK Try.prog N 64 c_wide_Div := fun_ok facts (ok_bits_Div64 N) (by kernel_rfl) (by kernel_rfl) (q_wide_Div N) (fun t => by kernel_rfl)
def o_wide_Div : List (Nat × FC) := (64, c_wide_Div) :: o_bits_Div64
theorem ok_wide_Div (N : Nat) : OrcOK Try.prog o_wide_Div N := orc_cons (t_wide_Div N) (ok_bits_Div64 N)
def s_wide_muldiv (_ : Nat) : List (Nat × LC) := []
noncomputable def e_wide_muldiv (N : Nat) : Env := mkEnv Try.prog o_wide_Div (s_wide_muldiv N) N
theorem q_wide_muldiv (N : Nat) : LoopsFor (e_wide_muldiv N) Try.prog 60 0 := ⟨by kernel_rfl, fun j hj => match j, hj with
  | _ + 0, h => absurd h (by omega)⟩
def c_wide_muldiv : FC := mkF [.sc (.int .i64), .sc (.int .i64), .sc (.int .i64)] [.agg [.int .u64, .int .u64], .sc (.bool), .sc (.int .i64)] wide_muldiv
theorem t_wide_muldiv (N : Nat) : FCOK Try.prog N 60 c_wide_muldiv := fun_ok facts (ok_wide_Div N) (by kernel_rfl) (by kernel_rfl) (q_wide_muldiv N) (fun t => by kernel_rfl)
def o_wide_muldiv : List (Nat × FC) := (60, c_wide_muldiv) :: o_wide_Div
theorem ok_wide_muldiv (N : Nat) : OrcOK Try.prog o_wide_muldiv N := orc_cons (t_wide_muldiv N) (ok_wide_Div N)
def s_cmp_isNaN_uint64 (_ : Nat) : List (Nat × LC) := []
noncomputable def e_cmp_isNaN_uint64 (N : Nat) : Env := mkEnv Try.prog o_wide_muldiv (s_cmp_isNaN_uint64 N) N
theorem q_cmp_isNaN_uint64 (N : Nat) : LoopsFor (e_cmp_isNaN_uint64 N) Try.prog 79 0 := ⟨by kernel_rfl, fun j hj => match j, hj with
  | _ + 0, h => absurd h (by omega)⟩
def c_cmp_isNaN_uint64 : FC := mkF [.sc (.int .u64)] [.sc (.bool)] cmp_isNaN_uint64
theorem t_cmp_isNaN_uint64 (N : Nat) : FCOK Try.prog N 79 c_cmp_isNaN_uint64 := fun_ok facts (ok_wide_muldiv N) (by kernel_rfl) (by kernel_rfl) (q_cmp_isNaN_uint64 N) (fun t => by kernel_rfl)
def o_cmp_isNaN_uint64 : List (Nat × FC) := (79, c_cmp_isNaN_uint64) :: o_wide_muldiv
theorem ok_cmp_isNaN_uint64 (N : Nat) : OrcOK Try.prog o_cmp_isNaN_uint64 N := orc_cons (t_cmp_isNaN_uint64 N) (ok_wide_muldiv N)
def s_cmp_Compare_uint64 (_ : Nat) : List (Nat × LC) := []
noncomputable def e_cmp_Compare_uint64 (N : Nat) : Env := mkEnv Try.prog o_cmp_isNaN_uint64 (s_cmp_Compare_uint64 N) N
theorem q_cmp_Compare_uint64 (N : Nat) : LoopsFor (e_cmp_Compare_uint64 N) Try.prog 76 0 := ⟨by kernel_rfl, fun j hj => match j, hj with
  | _ + 0, h => absurd h (by omega)⟩
def c_cmp_Compare_uint64 : FC := mkF [.sc (.int .u64), .sc (.int .u64)] [.sc (.int .i64)] cmp_Compare_uint64
theorem t_cmp_Compare_uint64 (N : Nat) : FCOK Try.prog N 76 c_cmp_Compare_uint64 := fun_ok facts (ok_cmp_isNaN_uint64 N) (by kernel_rfl) (by kernel_rfl) (q_cmp_Compare_uint64 N) (fun t => by kernel_rfl)
def o_cmp_Compare_uint64 : List (Nat × FC) := (76, c_cmp_Compare_uint64) :: o_cmp_isNaN_uint64
theorem ok_cmp_Compare_uint64 (N : Nat) : OrcOK Try.prog o_cmp_Compare_uint64 N := orc_cons (t_cmp_Compare_uint64 N) (ok_cmp_isNaN_uint64 N)
def p_cmp_Or_int_3 : List Pat := [.any, .any, .any, .sc (.int .i64), .any, .any, .sl 0, .sc (.int .i64), .sc (.int .i64), .any, .any, .any, .any, .any, .any, .any, .any, .any]
def h_cmp_Or_int_3 : List HPat := [.ext 3 [.int .i64]]
def x_cmp_Or_int_3 : List XP := [⟨.ret, [.any, .any, .sc (.int .i64), .any, .any, .any, .any, .any, .any, .any, .any, .any, .any, .any, .any, .any, .any, .any], []⟩, ⟨.exit 0, [.any, .any, .any, .sc (.int .i64), .any, .any, .any, .any, .any, .any, .any, .any, .any, .any, .any, .any, .any, .any], []⟩]
def lc_cmp_Or_int_3 (N : Nat) : LC := mkLC p_cmp_Or_int_3 h_cmp_Or_int_3 x_cmp_Or_int_3 (cmp_Or_int_L3 N)
def s_cmp_Or_int (N : Nat) : List (Nat × LC) := [(3, lc_cmp_Or_int_3 N)]
noncomputable def e_cmp_Or_int (N : Nat) : Env := mkEnv Try.prog o_cmp_Compare_uint64 (s_cmp_Or_int N) N
theorem k_cmp_Or_int_3 (N : Nat) : LCOK (e_cmp_Or_int N) 12 (loopAt Try.prog 75 0) (lc_cmp_Or_int_3 N) := mkLC_ok (by kernel_rfl) (by kernel_rfl) (fun F x => by kernel_rfl)
theorem q_cmp_Or_int (N : Nat) : LoopsFor (e_cmp_Or_int N) Try.prog 75 1 := ⟨by kernel_rfl, fun j hj => match j, hj with
  | 0, _ => ⟨lc_cmp_Or_int_3 N, by kernel_rfl, k_cmp_Or_int_3 N⟩
  | _ + 1, h => absurd h (by omega)⟩
def c_cmp_Or_int : FC := mkF [.row 3 [.int .i64]] [.sc (.int .i64)] cmp_Or_int
theorem t_cmp_Or_int (N : Nat) : FCOK Try.prog N 75 c_cmp_Or_int := fun_ok facts (ok_cmp_Compare_uint64 N) (by kernel_rfl) (by kernel_rfl) (q_cmp_Or_int N) (fun t => by kernel_rfl)
def o_cmp_Or_int : List (Nat × FC) := (75, c_cmp_Or_int) :: o_cmp_Compare_uint64
theorem ok_cmp_Or_int (N : Nat) : OrcOK Try.prog o_cmp_Or_int N := orc_cons (t_cmp_Or_int N) (ok_cmp_Compare_uint64 N)
def s_wide_Cmp (_ : Nat) : List (Nat × LC) := []
noncomputable def e_wide_Cmp (N : Nat) : Env := mkEnv Try.prog o_cmp_Or_int (s_wide_Cmp N) N
theorem q_wide_Cmp (N : Nat) : LoopsFor (e_wide_Cmp N) Try.prog 66 0 := ⟨by kernel_rfl, fun j hj => match j, hj with
  | _ + 0, h => absurd h (by omega)⟩
def c_wide_Cmp : FC := mkF [.agg [.int .u64, .int .u64], .agg [.int .u64, .int .u64]] [.sc (.int .i64)] wide_Cmp
theorem t_wide_Cmp (N : Nat) : FCOK Try.prog N 66 c_wide_Cmp := fun_ok facts (ok_cmp_Or_int N) (by kernel_rfl) (by kernel_rfl) (q_wide_Cmp N) (fun t => by kernel_rfl)
def o_wide_Cmp : List (Nat × FC) := (66, c_wide_Cmp) :: o_cmp_Or_int
theorem ok_wide_Cmp (N : Nat) : OrcOK Try.prog o_wide_Cmp N := orc_cons (t_wide_Cmp N) (ok_cmp_Or_int N)
def s_wide_told (_ : Nat) : List (Nat × LC) := []
noncomputable def e_wide_told (N : Nat) : Env := mkEnv Try.prog o_wide_Cmp (s_wide_told N) N
theorem q_wide_told (N : Nat) : LoopsFor (e_wide_told N) Try.prog 61 0 := ⟨by kernel_rfl, fun j hj => match j, hj with
  | _ + 0, h => absurd h (by omega)⟩
def c_wide_told : FC := mkF [.agg [.int .u64, .int .u64], .sc (.int .i64)] [.sc (.int .i64), .sc (.int .i64)] wide_told
theorem t_wide_told (N : Nat) : FCOK Try.prog N 61 c_wide_told := fun_ok facts (ok_wide_Cmp N) (by kernel_rfl) (by kernel_rfl) (q_wide_told N) (fun t => by kernel_rfl)
def o_wide_told : List (Nat × FC) := (61, c_wide_told) :: o_wide_Cmp
theorem ok_wide_told (N : Nat) : OrcOK Try.prog o_wide_told N := orc_cons (t_wide_told N) (ok_wide_Cmp N)
def s_wide_MulDiv (_ : Nat) : List (Nat × LC) := []
noncomputable def e_wide_MulDiv (N : Nat) : Env := mkEnv Try.prog o_wide_told (s_wide_MulDiv N) N
theorem q_wide_MulDiv (N : Nat) : LoopsFor (e_wide_MulDiv N) Try.prog 46 0 := ⟨by kernel_rfl, fun j hj => match j, hj with
  | _ + 0, h => absurd h (by omega)⟩
def c_wide_MulDiv : FC := mkF [.sc (.int .i64), .sc (.int .i64), .sc (.int .i64)] [.sc (.int .i64), .sc (.int .i64)] wide_MulDiv
theorem t_wide_MulDiv (N : Nat) : FCOK Try.prog N 46 c_wide_MulDiv := fun_ok facts (ok_wide_told N) (by kernel_rfl) (by kernel_rfl) (q_wide_MulDiv N) (fun t => by kernel_rfl)
def o_wide_MulDiv : List (Nat × FC) := (46, c_wide_MulDiv) :: o_wide_told
theorem ok_wide_MulDiv (N : Nat) : OrcOK Try.prog o_wide_MulDiv N := orc_cons (t_wide_MulDiv N) (ok_wide_told N)
def s_fixed_Ratio (_ : Nat) : List (Nat × LC) := []
noncomputable def e_fixed_Ratio (N : Nat) : Env := mkEnv Try.prog o_wide_MulDiv (s_fixed_Ratio N) N
theorem q_fixed_Ratio (N : Nat) : LoopsFor (e_fixed_Ratio N) Try.prog 29 0 := ⟨by kernel_rfl, fun j hj => match j, hj with
  | _ + 0, h => absurd h (by omega)⟩
def c_fixed_Ratio : FC := mkF [.sc (.int .i64), .sc (.int .i64)] [.sc (.int .i64)] fixed_Ratio
theorem t_fixed_Ratio (N : Nat) : FCOK Try.prog N 29 c_fixed_Ratio := fun_ok facts (ok_wide_MulDiv N) (by kernel_rfl) (by kernel_rfl) (q_fixed_Ratio N) (fun t => by kernel_rfl)
def o_fixed_Ratio : List (Nat × FC) := (29, c_fixed_Ratio) :: o_wide_MulDiv
theorem ok_fixed_Ratio (N : Nat) : OrcOK Try.prog o_fixed_Ratio N := orc_cons (t_fixed_Ratio N) (ok_wide_MulDiv N)
def s_alpha_Fraction (_ : Nat) : List (Nat × LC) := []
noncomputable def e_alpha_Fraction (N : Nat) : Env := mkEnv Try.prog o_fixed_Ratio (s_alpha_Fraction N) N
theorem q_alpha_Fraction (N : Nat) : LoopsFor (e_alpha_Fraction N) Try.prog 12 0 := ⟨by kernel_rfl, fun j hj => match j, hj with
  | _ + 0, h => absurd h (by omega)⟩
def c_alpha_Fraction : FC := mkF [.agg [.int .i64, .int .i64, .int .i64, .int .i64]] [.sc (.int .i64)] alpha_Fraction
theorem t_alpha_Fraction (N : Nat) : FCOK Try.prog N 12 c_alpha_Fraction := fun_ok facts (ok_fixed_Ratio N) (by kernel_rfl) (by kernel_rfl) (q_alpha_Fraction N) (fun t => by kernel_rfl)
def o_alpha_Fraction : List (Nat × FC) := (12, c_alpha_Fraction) :: o_fixed_Ratio
theorem ok_alpha_Fraction (N : Nat) : OrcOK Try.prog o_alpha_Fraction N := orc_cons (t_alpha_Fraction N) (ok_fixed_Ratio N)
def s_sat_end (_ : Nat) : List (Nat × LC) := []
noncomputable def e_sat_end (N : Nat) : Env := mkEnv Try.prog o_alpha_Fraction (s_sat_end N) N
theorem q_sat_end (N : Nat) : LoopsFor (e_sat_end N) Try.prog 58 0 := ⟨by kernel_rfl, fun j hj => match j, hj with
  | _ + 0, h => absurd h (by omega)⟩
def c_sat_end : FC := mkF [.sc (.bool)] [.sc (.int .i64)] sat_end
theorem t_sat_end (N : Nat) : FCOK Try.prog N 58 c_sat_end := fun_ok facts (ok_alpha_Fraction N) (by kernel_rfl) (by kernel_rfl) (q_sat_end N) (fun t => by kernel_rfl)
def o_sat_end : List (Nat × FC) := (58, c_sat_end) :: o_alpha_Fraction
theorem ok_sat_end (N : Nat) : OrcOK Try.prog o_sat_end N := orc_cons (t_sat_end N) (ok_alpha_Fraction N)
def s_sat_Sub (_ : Nat) : List (Nat × LC) := []
noncomputable def e_sat_Sub (N : Nat) : Env := mkEnv Try.prog o_sat_end (s_sat_Sub N) N
theorem q_sat_Sub (N : Nat) : LoopsFor (e_sat_Sub N) Try.prog 42 0 := ⟨by kernel_rfl, fun j hj => match j, hj with
  | _ + 0, h => absurd h (by omega)⟩
def c_sat_Sub : FC := mkF [.sc (.int .i64), .sc (.int .i64)] [.sc (.int .i64)] sat_Sub
theorem t_sat_Sub (N : Nat) : FCOK Try.prog N 42 c_sat_Sub := fun_ok facts (ok_sat_end N) (by kernel_rfl) (by kernel_rfl) (q_sat_Sub N) (fun t => by kernel_rfl)
def o_sat_Sub : List (Nat × FC) := (42, c_sat_Sub) :: o_sat_end
theorem ok_sat_Sub (N : Nat) : OrcOK Try.prog o_sat_Sub N := orc_cons (t_sat_Sub N) (ok_sat_end N)
def s_sat_Add (_ : Nat) : List (Nat × LC) := []
noncomputable def e_sat_Add (N : Nat) : Env := mkEnv Try.prog o_sat_Sub (s_sat_Add N) N
theorem q_sat_Add (N : Nat) : LoopsFor (e_sat_Add N) Try.prog 41 0 := ⟨by kernel_rfl, fun j hj => match j, hj with
  | _ + 0, h => absurd h (by omega)⟩
def c_sat_Add : FC := mkF [.sc (.int .i64), .sc (.int .i64)] [.sc (.int .i64)] sat_Add
theorem t_sat_Add (N : Nat) : FCOK Try.prog N 41 c_sat_Add := fun_ok facts (ok_sat_Sub N) (by kernel_rfl) (by kernel_rfl) (q_sat_Add N) (fun t => by kernel_rfl)
def o_sat_Add : List (Nat × FC) := (41, c_sat_Add) :: o_sat_Sub
theorem ok_sat_Add (N : Nat) : OrcOK Try.prog o_sat_Add N := orc_cons (t_sat_Add N) (ok_sat_Sub N)
def s_fixed_Toward (_ : Nat) : List (Nat × LC) := []
noncomputable def e_fixed_Toward (N : Nat) : Env := mkEnv Try.prog o_sat_Add (s_fixed_Toward N) N
theorem q_fixed_Toward (N : Nat) : LoopsFor (e_fixed_Toward N) Try.prog 27 0 := ⟨by kernel_rfl, fun j hj => match j, hj with
  | _ + 0, h => absurd h (by omega)⟩
def c_fixed_Toward : FC := mkF [.sc (.int .i64), .sc (.int .i64), .sc (.int .i64)] [.sc (.int .i64)] fixed_Toward
theorem t_fixed_Toward (N : Nat) : FCOK Try.prog N 27 c_fixed_Toward := fun_ok facts (ok_sat_Add N) (by kernel_rfl) (by kernel_rfl) (q_fixed_Toward N) (fun t => by kernel_rfl)
def o_fixed_Toward : List (Nat × FC) := (27, c_fixed_Toward) :: o_sat_Add
theorem ok_fixed_Toward (N : Nat) : OrcOK Try.prog o_fixed_Toward N := orc_cons (t_fixed_Toward N) (ok_sat_Add N)
def s_alpha_Start (_ : Nat) : List (Nat × LC) := []
noncomputable def e_alpha_Start (N : Nat) : Env := mkEnv Try.prog o_fixed_Toward (s_alpha_Start N) N
theorem q_alpha_Start (N : Nat) : LoopsFor (e_alpha_Start N) Try.prog 11 0 := ⟨by kernel_rfl, fun j hj => match j, hj with
  | _ + 0, h => absurd h (by omega)⟩
def c_alpha_Start : FC := mkF [.sc (.int .i64), .sc (.int .i64)] [.agg [.int .i64, .int .i64, .int .i64, .int .i64]] alpha_Start
theorem t_alpha_Start (N : Nat) : FCOK Try.prog N 11 c_alpha_Start := fun_ok facts (ok_fixed_Toward N) (by kernel_rfl) (by kernel_rfl) (q_alpha_Start N) (fun t => by kernel_rfl)
def o_alpha_Start : List (Nat × FC) := (11, c_alpha_Start) :: o_fixed_Toward
theorem ok_alpha_Start (N : Nat) : OrcOK Try.prog o_alpha_Start N := orc_cons (t_alpha_Start N) (ok_fixed_Toward N)
def s_alpha_Take (_ : Nat) : List (Nat × LC) := []
noncomputable def e_alpha_Take (N : Nat) : Env := mkEnv Try.prog o_alpha_Start (s_alpha_Take N) N
theorem q_alpha_Take (N : Nat) : LoopsFor (e_alpha_Take N) Try.prog 9 0 := ⟨by kernel_rfl, fun j hj => match j, hj with
  | _ + 0, h => absurd h (by omega)⟩
def c_alpha_Take : FC := mkF [.agg [.int .i64, .int .i64, .int .i64, .int .i64], .sc (.int .i64), .sc (.int .i64), .sc (.int .i64), .sc (.int .i64)] [.agg [.int .i64, .int .i64, .int .i64, .int .i64], .sc (.bool)] alpha_Take
theorem t_alpha_Take (N : Nat) : FCOK Try.prog N 9 c_alpha_Take := fun_ok facts (ok_alpha_Start N) (by kernel_rfl) (by kernel_rfl) (q_alpha_Take N) (fun t => by kernel_rfl)
def o_alpha_Take : List (Nat × FC) := (9, c_alpha_Take) :: o_alpha_Start
theorem ok_alpha_Take (N : Nat) : OrcOK Try.prog o_alpha_Take N := orc_cons (t_alpha_Take N) (ok_alpha_Start N)
def s_leatref04_Share (_ : Nat) : List (Nat × LC) := []
noncomputable def e_leatref04_Share (N : Nat) : Env := mkEnv Try.prog o_alpha_Take (s_leatref04_Share N) N
theorem q_leatref04_Share (N : Nat) : LoopsFor (e_leatref04_Share N) Try.prog 31 0 := ⟨by kernel_rfl, fun j hj => match j, hj with
  | _ + 0, h => absurd h (by omega)⟩
def c_leatref04_Share : FC := mkF [.sc (.int .i64)] [.sc (.int .i64)] leatref04_Share
theorem t_leatref04_Share (N : Nat) : FCOK Try.prog N 31 c_leatref04_Share := fun_ok facts (ok_alpha_Take N) (by kernel_rfl) (by kernel_rfl) (q_leatref04_Share N) (fun t => by kernel_rfl)
def o_leatref04_Share : List (Nat × FC) := (31, c_leatref04_Share) :: o_alpha_Take
theorem ok_leatref04_Share (N : Nat) : OrcOK Try.prog o_leatref04_Share N := orc_cons (t_leatref04_Share N) (ok_alpha_Take N)
def s_leatref25_Within (_ : Nat) : List (Nat × LC) := []
noncomputable def e_leatref25_Within (N : Nat) : Env := mkEnv Try.prog o_leatref04_Share (s_leatref25_Within N) N
theorem q_leatref25_Within (N : Nat) : LoopsFor (e_leatref25_Within N) Try.prog 14 0 := ⟨by kernel_rfl, fun j hj => match j, hj with
  | _ + 0, h => absurd h (by omega)⟩
def c_leatref25_Within : FC := mkF [.agg [.int .i64, .int .i64, .int .i64, .int .i64]] [.agg [.int .i64, .int .i64, .int .i64, .int .i64]] leatref25_Within
theorem t_leatref25_Within (N : Nat) : FCOK Try.prog N 14 c_leatref25_Within := fun_ok facts (ok_leatref04_Share N) (by kernel_rfl) (by kernel_rfl) (q_leatref25_Within N) (fun t => by kernel_rfl)
def o_leatref25_Within : List (Nat × FC) := (14, c_leatref25_Within) :: o_leatref04_Share
theorem ok_leatref25_Within (N : Nat) : OrcOK Try.prog o_leatref25_Within N := orc_cons (t_leatref25_Within N) (ok_leatref04_Share N)
def p_leatref02_Bits_3 : List Pat := [.sc (.int .u64), .sc (.int .i64), .any, .any, .any, .sl 0, .sc (.int .i64), .any, .any, .any, .any, .any, .any, .any, .any, .any, .any, .any, .any, .any, .any]
def h_leatref02_Bits_3 : List HPat := [.rows 3 [.int .i64]]
def x_leatref02_Bits_3 : List XP := [⟨.exit 0, [.any, .any, .any, .any, .any, .sl 0, .any, .any, .any, .any, .any, .any, .any, .any, .any, .any, .any, .any, .any, .any, .any], [.rows 3 [.int .i64]]⟩]
def lc_leatref02_Bits_3 (N : Nat) : LC := mkLC p_leatref02_Bits_3 h_leatref02_Bits_3 x_leatref02_Bits_3 (leatref02_Bits_L3 N)
def s_leatref02_Bits (N : Nat) : List (Nat × LC) := [(3, lc_leatref02_Bits_3 N)]
noncomputable def e_leatref02_Bits (N : Nat) : Env := mkEnv Try.prog o_leatref25_Within (s_leatref02_Bits N) N
theorem k_leatref02_Bits_3 (N : Nat) : LCOK (e_leatref02_Bits N) 12 (loopAt Try.prog 69 0) (lc_leatref02_Bits_3 N) := mkLC_ok (by kernel_rfl) (by kernel_rfl) (fun F x => by kernel_rfl)
theorem q_leatref02_Bits (N : Nat) : LoopsFor (e_leatref02_Bits N) Try.prog 69 1 := ⟨by kernel_rfl, fun j hj => match j, hj with
  | 0, _ => ⟨lc_leatref02_Bits_3 N, by kernel_rfl, k_leatref02_Bits_3 N⟩
  | _ + 1, h => absurd h (by omega)⟩
def c_leatref02_Bits : FC := mkF [.sc (.int .u64), .sc (.int .i64)] [.row 3 [.int .i64]] leatref02_Bits
theorem t_leatref02_Bits (N : Nat) : FCOK Try.prog N 69 c_leatref02_Bits := fun_ok facts (ok_leatref25_Within N) (by kernel_rfl) (by kernel_rfl) (q_leatref02_Bits N) (fun t => by kernel_rfl)
def o_leatref02_Bits : List (Nat × FC) := (69, c_leatref02_Bits) :: o_leatref25_Within
theorem ok_leatref02_Bits (N : Nat) : OrcOK Try.prog o_leatref02_Bits N := orc_cons (t_leatref02_Bits N) (ok_leatref25_Within N)
def p_leatref02_Add_4 : List Pat := [.sl 0, .sl 1, .any, .any, .any, .sl 2, .sc (.int .i64), .sc (.int .i64), .any, .any, .any, .any, .any, .any, .any, .any, .any, .any, .any, .any, .any, .any, .any, .any, .any, .any, .any, .any, .any, .any, .any, .any, .any, .any, .any, .any, .any, .any, .any, .any, .any, .any, .any, .any, .any, .any, .any, .any, .any, .any, .any, .any, .any]
def h_leatref02_Add_4 : List HPat := [.ext 3 [.int .i64], .ext 3 [.int .i64], .rows 3 [.int .i64]]
def x_leatref02_Add_4 : List XP := [⟨.exit 0, [.any, .any, .any, .any, .any, .sl 0, .sc (.int .i64), .any, .any, .any, .any, .any, .any, .any, .any, .any, .any, .any, .any, .any, .any, .any, .any, .any, .any, .any, .any, .any, .any, .any, .any, .any, .any, .any, .any, .any, .any, .any, .any, .any, .any, .any, .any, .any, .any, .any, .any, .any, .any, .any, .any, .any, .any], [.rows 3 [.int .i64]]⟩]
def lc_leatref02_Add_4 (N : Nat) : LC := mkLC p_leatref02_Add_4 h_leatref02_Add_4 x_leatref02_Add_4 (leatref02_Add_L4 N)
def s_leatref02_Add (N : Nat) : List (Nat × LC) := [(4, lc_leatref02_Add_4 N)]
noncomputable def e_leatref02_Add (N : Nat) : Env := mkEnv Try.prog o_leatref02_Bits (s_leatref02_Add N) N
theorem k_leatref02_Add_4 (N : Nat) : LCOK (e_leatref02_Add N) 12 (loopAt Try.prog 71 0) (lc_leatref02_Add_4 N) := mkLC_ok (by kernel_rfl) (by kernel_rfl) (fun F x => by kernel_rfl)
theorem q_leatref02_Add (N : Nat) : LoopsFor (e_leatref02_Add N) Try.prog 71 1 := ⟨by kernel_rfl, fun j hj => match j, hj with
  | 0, _ => ⟨lc_leatref02_Add_4 N, by kernel_rfl, k_leatref02_Add_4 N⟩
  | _ + 1, h => absurd h (by omega)⟩
def c_leatref02_Add : FC := mkF [.row 3 [.int .i64], .row 3 [.int .i64]] [.row 3 [.int .i64]] leatref02_Add
theorem t_leatref02_Add (N : Nat) : FCOK Try.prog N 71 c_leatref02_Add := fun_ok facts (ok_leatref02_Bits N) (by kernel_rfl) (by kernel_rfl) (q_leatref02_Add N) (fun t => by kernel_rfl)
def o_leatref02_Add : List (Nat × FC) := (71, c_leatref02_Add) :: o_leatref02_Bits
theorem ok_leatref02_Add (N : Nat) : OrcOK Try.prog o_leatref02_Add N := orc_cons (t_leatref02_Add N) (ok_leatref02_Bits N)
def p_leatref02_Mul_3 : List Pat := [.sl 0, .sl 1, .any, .any, .any, .sl 2, .sc (.int .i64), .any, .any, .any, .any, .any, .any, .any, .any, .any, .any, .any, .any, .any, .any, .any, .any, .any, .any, .any]
def h_leatref02_Mul_3 : List HPat := [.ext 3 [.int .i64], .ext 3 [.int .i64], .rows 3 [.int .i64]]
def x_leatref02_Mul_3 : List XP := [⟨.exit 0, [.any, .any, .any, .any, .any, .sl 0, .any, .any, .any, .any, .any, .any, .any, .any, .any, .any, .any, .any, .any, .any, .any, .any, .any, .any, .any, .any], [.rows 3 [.int .i64]]⟩]
def lc_leatref02_Mul_3 (N : Nat) : LC := mkLC p_leatref02_Mul_3 h_leatref02_Mul_3 x_leatref02_Mul_3 (leatref02_Mul_L3 N)
def s_leatref02_Mul (N : Nat) : List (Nat × LC) := [(3, lc_leatref02_Mul_3 N)]
noncomputable def e_leatref02_Mul (N : Nat) : Env := mkEnv Try.prog o_leatref02_Add (s_leatref02_Mul N) N
theorem k_leatref02_Mul_3 (N : Nat) : LCOK (e_leatref02_Mul N) 12 (loopAt Try.prog 68 0) (lc_leatref02_Mul_3 N) := mkLC_ok (by kernel_rfl) (by kernel_rfl) (fun F x => by kernel_rfl)
theorem q_leatref02_Mul (N : Nat) : LoopsFor (e_leatref02_Mul N) Try.prog 68 1 := ⟨by kernel_rfl, fun j hj => match j, hj with
  | 0, _ => ⟨lc_leatref02_Mul_3 N, by kernel_rfl, k_leatref02_Mul_3 N⟩
  | _ + 1, h => absurd h (by omega)⟩
def c_leatref02_Mul : FC := mkF [.row 3 [.int .i64], .row 3 [.int .i64]] [.row 3 [.int .i64]] leatref02_Mul
theorem t_leatref02_Mul (N : Nat) : FCOK Try.prog N 68 c_leatref02_Mul := fun_ok facts (ok_leatref02_Add N) (by kernel_rfl) (by kernel_rfl) (q_leatref02_Mul N) (fun t => by kernel_rfl)
def o_leatref02_Mul : List (Nat × FC) := (68, c_leatref02_Mul) :: o_leatref02_Add
theorem ok_leatref02_Mul (N : Nat) : OrcOK Try.prog o_leatref02_Mul N := orc_cons (t_leatref02_Mul N) (ok_leatref02_Add N)
def p_leatref02_Cmp_2 : List Pat := [.sl 0, .sl 1, .any, .any, .any, .sc (.int .i64), .any, .any, .any, .any, .any, .any, .any, .any, .any, .any, .any, .any, .any, .any, .any, .any, .any, .any, .any, .any, .any, .any, .any, .any, .any, .any, .any, .any, .any, .any, .any, .any, .any, .any]
def h_leatref02_Cmp_2 : List HPat := [.ext 3 [.int .i64], .ext 3 [.int .i64]]
def x_leatref02_Cmp_2 : List XP := [⟨.ret, [.any, .any, .any, .any, .sc (.int .i64), .any, .any, .any, .any, .any, .any, .any, .any, .any, .any, .any, .any, .any, .any, .any, .any, .any, .any, .any, .any, .any, .any, .any, .any, .any, .any, .any, .any, .any, .any, .any, .any, .any, .any, .any], []⟩, ⟨.exit 0, [.any, .any, .any, .any, .any, .any, .any, .any, .any, .any, .any, .any, .any, .any, .any, .any, .any, .any, .any, .any, .any, .any, .any, .any, .any, .any, .any, .any, .any, .any, .any, .any, .any, .any, .any, .any, .any, .any, .any, .any], []⟩]
def lc_leatref02_Cmp_2 (N : Nat) : LC := mkLC p_leatref02_Cmp_2 h_leatref02_Cmp_2 x_leatref02_Cmp_2 (leatref02_Cmp_L2 N)
def s_leatref02_Cmp (N : Nat) : List (Nat × LC) := [(2, lc_leatref02_Cmp_2 N)]
noncomputable def e_leatref02_Cmp (N : Nat) : Env := mkEnv Try.prog o_leatref02_Mul (s_leatref02_Cmp N) N
theorem k_leatref02_Cmp_2 (N : Nat) : LCOK (e_leatref02_Cmp N) 12 (loopAt Try.prog 70 0) (lc_leatref02_Cmp_2 N) := mkLC_ok (by kernel_rfl) (by kernel_rfl) (fun F x => by kernel_rfl)
theorem q_leatref02_Cmp (N : Nat) : LoopsFor (e_leatref02_Cmp N) Try.prog 70 1 := ⟨by kernel_rfl, fun j hj => match j, hj with
  | 0, _ => ⟨lc_leatref02_Cmp_2 N, by kernel_rfl, k_leatref02_Cmp_2 N⟩
  | _ + 1, h => absurd h (by omega)⟩
def c_leatref02_Cmp : FC := mkF [.row 3 [.int .i64], .row 3 [.int .i64]] [.sc (.int .i64)] leatref02_Cmp
theorem t_leatref02_Cmp (N : Nat) : FCOK Try.prog N 70 c_leatref02_Cmp := fun_ok facts (ok_leatref02_Mul N) (by kernel_rfl) (by kernel_rfl) (q_leatref02_Cmp N) (fun t => by kernel_rfl)
def o_leatref02_Cmp : List (Nat × FC) := (70, c_leatref02_Cmp) :: o_leatref02_Mul
theorem ok_leatref02_Cmp (N : Nat) : OrcOK Try.prog o_leatref02_Cmp N := orc_cons (t_leatref02_Cmp N) (ok_leatref02_Mul N)
def p_leatref02_Sub_4 : List Pat := [.sl 0, .sl 1, .any, .any, .any, .sl 2, .sc (.int .i64), .sc (.int .i64), .any, .any, .any, .any, .any, .any, .any, .any, .any, .any, .any, .any, .any, .any, .any, .any, .any, .any, .any, .any, .any, .any, .any, .any, .any, .any, .any, .any, .any, .any, .any, .any]
def h_leatref02_Sub_4 : List HPat := [.ext 3 [.int .i64], .ext 3 [.int .i64], .rows 3 [.int .i64]]
def x_leatref02_Sub_4 : List XP := [⟨.exit 0, [.any, .any, .any, .any, .any, .sl 0, .any, .any, .any, .any, .any, .any, .any, .any, .any, .any, .any, .any, .any, .any, .any, .any, .any, .any, .any, .any, .any, .any, .any, .any, .any, .any, .any, .any, .any, .any, .any, .any, .any, .any], [.rows 3 [.int .i64]]⟩]
def lc_leatref02_Sub_4 (N : Nat) : LC := mkLC p_leatref02_Sub_4 h_leatref02_Sub_4 x_leatref02_Sub_4 (leatref02_Sub_L4 N)
def s_leatref02_Sub (N : Nat) : List (Nat × LC) := [(4, lc_leatref02_Sub_4 N)]
noncomputable def e_leatref02_Sub (N : Nat) : Env := mkEnv Try.prog o_leatref02_Cmp (s_leatref02_Sub N) N
theorem k_leatref02_Sub_4 (N : Nat) : LCOK (e_leatref02_Sub N) 12 (loopAt Try.prog 77 0) (lc_leatref02_Sub_4 N) := mkLC_ok (by kernel_rfl) (by kernel_rfl) (fun F x => by kernel_rfl)
theorem q_leatref02_Sub (N : Nat) : LoopsFor (e_leatref02_Sub N) Try.prog 77 1 := ⟨by kernel_rfl, fun j hj => match j, hj with
  | 0, _ => ⟨lc_leatref02_Sub_4 N, by kernel_rfl, k_leatref02_Sub_4 N⟩
  | _ + 1, h => absurd h (by omega)⟩
def c_leatref02_Sub : FC := mkF [.row 3 [.int .i64], .row 3 [.int .i64]] [.row 3 [.int .i64]] leatref02_Sub
theorem t_leatref02_Sub (N : Nat) : FCOK Try.prog N 77 c_leatref02_Sub := fun_ok facts (ok_leatref02_Cmp N) (by kernel_rfl) (by kernel_rfl) (q_leatref02_Sub N) (fun t => by kernel_rfl)
def o_leatref02_Sub : List (Nat × FC) := (77, c_leatref02_Sub) :: o_leatref02_Cmp
theorem ok_leatref02_Sub (N : Nat) : OrcOK Try.prog o_leatref02_Sub N := orc_cons (t_leatref02_Sub N) (ok_leatref02_Cmp N)
def p_leatref02_Div_4 : List Pat := [.sl 0, .sl 1, .any, .any, .any, .any, .sl 2, .sl 3, .sc (.int .i64), .any, .any, .any, .any, .any, .any, .any, .any, .any, .any, .any, .any, .any, .any, .any, .any, .any, .any, .any, .any, .any, .any, .any, .any, .any, .any, .any, .any, .any, .any]
def h_leatref02_Div_4 : List HPat := [.ext 3 [.int .i64], .ext 3 [.int .i64], .rows 3 [.int .i64], .rows 3 [.int .i64]]
def x_leatref02_Div_4 : List XP := [⟨.exit 0, [.any, .any, .any, .any, .any, .any, .sl 0, .sl 1, .any, .any, .any, .any, .any, .any, .any, .any, .any, .any, .any, .any, .any, .any, .any, .any, .any, .any, .any, .any, .any, .any, .any, .any, .any, .any, .any, .any, .any, .any, .any], [.rows 3 [.int .i64], .rows 3 [.int .i64]]⟩]
def lc_leatref02_Div_4 (N : Nat) : LC := mkLC p_leatref02_Div_4 h_leatref02_Div_4 x_leatref02_Div_4 (leatref02_Div_L4 N)
def s_leatref02_Div (N : Nat) : List (Nat × LC) := [(4, lc_leatref02_Div_4 N)]
noncomputable def e_leatref02_Div (N : Nat) : Env := mkEnv Try.prog o_leatref02_Sub (s_leatref02_Div N) N
theorem k_leatref02_Div_4 (N : Nat) : LCOK (e_leatref02_Div N) 12 (loopAt Try.prog 67 0) (lc_leatref02_Div_4 N) := mkLC_ok (by kernel_rfl) (by kernel_rfl) (fun F x => by kernel_rfl)
theorem q_leatref02_Div (N : Nat) : LoopsFor (e_leatref02_Div N) Try.prog 67 1 := ⟨by kernel_rfl, fun j hj => match j, hj with
  | 0, _ => ⟨lc_leatref02_Div_4 N, by kernel_rfl, k_leatref02_Div_4 N⟩
  | _ + 1, h => absurd h (by omega)⟩
def c_leatref02_Div : FC := mkF [.row 3 [.int .i64], .row 3 [.int .i64]] [.row 3 [.int .i64], .row 3 [.int .i64]] leatref02_Div
theorem t_leatref02_Div (N : Nat) : FCOK Try.prog N 67 c_leatref02_Div := fun_ok facts (ok_leatref02_Sub N) (by kernel_rfl) (by kernel_rfl) (q_leatref02_Div N) (fun t => by kernel_rfl)
def o_leatref02_Div : List (Nat × FC) := (67, c_leatref02_Div) :: o_leatref02_Sub
theorem ok_leatref02_Div (N : Nat) : OrcOK Try.prog o_leatref02_Div N := orc_cons (t_leatref02_Div N) (ok_leatref02_Sub N)
def p_leatref02_Num_3 : List Pat := [.sl 0, .sc (.int .i64), .any, .any, .any, .sc (.int .u64), .sc (.int .i64), .any, .any, .any, .any, .any, .any, .any, .any, .any, .any, .any, .any, .any, .any, .any, .any, .any, .any, .any, .any, .any, .any, .any, .any]
def h_leatref02_Num_3 : List HPat := [.ext 3 [.int .i64]]
def x_leatref02_Num_3 : List XP := [⟨.exit 0, [.any, .any, .any, .any, .any, .sc (.int .u64), .any, .any, .any, .any, .any, .any, .any, .any, .any, .any, .any, .any, .any, .any, .any, .any, .any, .any, .any, .any, .any, .any, .any, .any, .any], []⟩]
def lc_leatref02_Num_3 (N : Nat) : LC := mkLC p_leatref02_Num_3 h_leatref02_Num_3 x_leatref02_Num_3 (leatref02_Num_L3 N)
def s_leatref02_Num (N : Nat) : List (Nat × LC) := [(3, lc_leatref02_Num_3 N)]
noncomputable def e_leatref02_Num (N : Nat) : Env := mkEnv Try.prog o_leatref02_Div (s_leatref02_Num N) N
theorem k_leatref02_Num_3 (N : Nat) : LCOK (e_leatref02_Num N) 12 (loopAt Try.prog 72 0) (lc_leatref02_Num_3 N) := mkLC_ok (by kernel_rfl) (by kernel_rfl) (fun F x => by kernel_rfl)
theorem q_leatref02_Num (N : Nat) : LoopsFor (e_leatref02_Num N) Try.prog 72 1 := ⟨by kernel_rfl, fun j hj => match j, hj with
  | 0, _ => ⟨lc_leatref02_Num_3 N, by kernel_rfl, k_leatref02_Num_3 N⟩
  | _ + 1, h => absurd h (by omega)⟩
def c_leatref02_Num : FC := mkF [.row 3 [.int .i64], .sc (.int .i64)] [.sc (.int .u64)] leatref02_Num
theorem t_leatref02_Num (N : Nat) : FCOK Try.prog N 72 c_leatref02_Num := fun_ok facts (ok_leatref02_Div N) (by kernel_rfl) (by kernel_rfl) (q_leatref02_Num N) (fun t => by kernel_rfl)
def o_leatref02_Num : List (Nat × FC) := (72, c_leatref02_Num) :: o_leatref02_Div
theorem ok_leatref02_Num (N : Nat) : OrcOK Try.prog o_leatref02_Num N := orc_cons (t_leatref02_Num N) (ok_leatref02_Div N)
def s_leatref02_MulDiv (_ : Nat) : List (Nat × LC) := []
noncomputable def e_leatref02_MulDiv (N : Nat) : Env := mkEnv Try.prog o_leatref02_Num (s_leatref02_MulDiv N) N
theorem q_leatref02_MulDiv (N : Nat) : LoopsFor (e_leatref02_MulDiv N) Try.prog 62 0 := ⟨by kernel_rfl, fun j hj => match j, hj with
  | _ + 0, h => absurd h (by omega)⟩
def c_leatref02_MulDiv : FC := mkF [.sc (.int .i64), .sc (.int .i64), .sc (.int .i64), .sc (.bool)] [.sc (.int .i64), .sc (.int .i64)] leatref02_MulDiv
theorem t_leatref02_MulDiv (N : Nat) : FCOK Try.prog N 62 c_leatref02_MulDiv := fun_ok facts (ok_leatref02_Num N) (by kernel_rfl) (by kernel_rfl) (q_leatref02_MulDiv N) (fun t => by kernel_rfl)
def o_leatref02_MulDiv : List (Nat × FC) := (62, c_leatref02_MulDiv) :: o_leatref02_Num
theorem ok_leatref02_MulDiv (N : Nat) : OrcOK Try.prog o_leatref02_MulDiv N := orc_cons (t_leatref02_MulDiv N) (ok_leatref02_Num N)
def s_leatref04_quo (_ : Nat) : List (Nat × LC) := []
noncomputable def e_leatref04_quo (N : Nat) : Env := mkEnv Try.prog o_leatref02_MulDiv (s_leatref04_quo N) N
theorem q_leatref04_quo (N : Nat) : LoopsFor (e_leatref04_quo N) Try.prog 47 0 := ⟨by kernel_rfl, fun j hj => match j, hj with
  | _ + 0, h => absurd h (by omega)⟩
def c_leatref04_quo : FC := mkF [.sc (.int .i64), .sc (.int .i64), .sc (.int .i64)] [.sc (.int .i64)] leatref04_quo
theorem t_leatref04_quo (N : Nat) : FCOK Try.prog N 47 c_leatref04_quo := fun_ok facts (ok_leatref02_MulDiv N) (by kernel_rfl) (by kernel_rfl) (q_leatref04_quo N) (fun t => by kernel_rfl)
def o_leatref04_quo : List (Nat × FC) := (47, c_leatref04_quo) :: o_leatref02_MulDiv
theorem ok_leatref04_quo (N : Nat) : OrcOK Try.prog o_leatref04_quo N := orc_cons (t_leatref04_quo N) (ok_leatref02_MulDiv N)
def s_leatref04_Ratio (_ : Nat) : List (Nat × LC) := []
noncomputable def e_leatref04_Ratio (N : Nat) : Env := mkEnv Try.prog o_leatref04_quo (s_leatref04_Ratio N) N
theorem q_leatref04_Ratio (N : Nat) : LoopsFor (e_leatref04_Ratio N) Try.prog 30 0 := ⟨by kernel_rfl, fun j hj => match j, hj with
  | _ + 0, h => absurd h (by omega)⟩
def c_leatref04_Ratio : FC := mkF [.sc (.int .i64), .sc (.int .i64)] [.sc (.int .i64)] leatref04_Ratio
theorem t_leatref04_Ratio (N : Nat) : FCOK Try.prog N 30 c_leatref04_Ratio := fun_ok facts (ok_leatref04_quo N) (by kernel_rfl) (by kernel_rfl) (q_leatref04_Ratio N) (fun t => by kernel_rfl)
def o_leatref04_Ratio : List (Nat × FC) := (30, c_leatref04_Ratio) :: o_leatref04_quo
theorem ok_leatref04_Ratio (N : Nat) : OrcOK Try.prog o_leatref04_Ratio N := orc_cons (t_leatref04_Ratio N) (ok_leatref04_quo N)
def s_leatref25_Fraction (_ : Nat) : List (Nat × LC) := []
noncomputable def e_leatref25_Fraction (N : Nat) : Env := mkEnv Try.prog o_leatref04_Ratio (s_leatref25_Fraction N) N
theorem q_leatref25_Fraction (N : Nat) : LoopsFor (e_leatref25_Fraction N) Try.prog 13 0 := ⟨by kernel_rfl, fun j hj => match j, hj with
  | _ + 0, h => absurd h (by omega)⟩
def c_leatref25_Fraction : FC := mkF [.agg [.int .i64, .int .i64, .int .i64, .int .i64]] [.sc (.int .i64)] leatref25_Fraction
theorem t_leatref25_Fraction (N : Nat) : FCOK Try.prog N 13 c_leatref25_Fraction := fun_ok facts (ok_leatref04_Ratio N) (by kernel_rfl) (by kernel_rfl) (q_leatref25_Fraction N) (fun t => by kernel_rfl)
def o_leatref25_Fraction : List (Nat × FC) := (13, c_leatref25_Fraction) :: o_leatref04_Ratio
theorem ok_leatref25_Fraction (N : Nat) : OrcOK Try.prog o_leatref25_Fraction N := orc_cons (t_leatref25_Fraction N) (ok_leatref04_Ratio N)
def s_leatref01_Add (_ : Nat) : List (Nat × LC) := []
noncomputable def e_leatref01_Add (N : Nat) : Env := mkEnv Try.prog o_leatref25_Fraction (s_leatref01_Add N) N
theorem q_leatref01_Add (N : Nat) : LoopsFor (e_leatref01_Add N) Try.prog 43 0 := ⟨by kernel_rfl, fun j hj => match j, hj with
  | _ + 0, h => absurd h (by omega)⟩
def c_leatref01_Add : FC := mkF [.sc (.int .i64), .sc (.int .i64)] [.sc (.int .i64)] leatref01_Add
theorem t_leatref01_Add (N : Nat) : FCOK Try.prog N 43 c_leatref01_Add := fun_ok facts (ok_leatref25_Fraction N) (by kernel_rfl) (by kernel_rfl) (q_leatref01_Add N) (fun t => by kernel_rfl)
def o_leatref01_Add : List (Nat × FC) := (43, c_leatref01_Add) :: o_leatref25_Fraction
theorem ok_leatref01_Add (N : Nat) : OrcOK Try.prog o_leatref01_Add N := orc_cons (t_leatref01_Add N) (ok_leatref25_Fraction N)
def s_leatref01_Sub (_ : Nat) : List (Nat × LC) := []
noncomputable def e_leatref01_Sub (N : Nat) : Env := mkEnv Try.prog o_leatref01_Add (s_leatref01_Sub N) N
theorem q_leatref01_Sub (N : Nat) : LoopsFor (e_leatref01_Sub N) Try.prog 45 0 := ⟨by kernel_rfl, fun j hj => match j, hj with
  | _ + 0, h => absurd h (by omega)⟩
def c_leatref01_Sub : FC := mkF [.sc (.int .i64), .sc (.int .i64)] [.sc (.int .i64)] leatref01_Sub
theorem t_leatref01_Sub (N : Nat) : FCOK Try.prog N 45 c_leatref01_Sub := fun_ok facts (ok_leatref01_Add N) (by kernel_rfl) (by kernel_rfl) (q_leatref01_Sub N) (fun t => by kernel_rfl)
def o_leatref01_Sub : List (Nat × FC) := (45, c_leatref01_Sub) :: o_leatref01_Add
theorem ok_leatref01_Sub (N : Nat) : OrcOK Try.prog o_leatref01_Sub N := orc_cons (t_leatref01_Sub N) (ok_leatref01_Add N)
def s_leatref01_Neg (_ : Nat) : List (Nat × LC) := []
noncomputable def e_leatref01_Neg (N : Nat) : Env := mkEnv Try.prog o_leatref01_Sub (s_leatref01_Neg N) N
theorem q_leatref01_Neg (N : Nat) : LoopsFor (e_leatref01_Neg N) Try.prog 59 0 := ⟨by kernel_rfl, fun j hj => match j, hj with
  | _ + 0, h => absurd h (by omega)⟩
def c_leatref01_Neg : FC := mkF [.sc (.int .i64)] [.sc (.int .i64)] leatref01_Neg
theorem t_leatref01_Neg (N : Nat) : FCOK Try.prog N 59 c_leatref01_Neg := fun_ok facts (ok_leatref01_Sub N) (by kernel_rfl) (by kernel_rfl) (q_leatref01_Neg N) (fun t => by kernel_rfl)
def o_leatref01_Neg : List (Nat × FC) := (59, c_leatref01_Neg) :: o_leatref01_Sub
theorem ok_leatref01_Neg (N : Nat) : OrcOK Try.prog o_leatref01_Neg N := orc_cons (t_leatref01_Neg N) (ok_leatref01_Sub N)
def s_leatref01_Div (_ : Nat) : List (Nat × LC) := []
noncomputable def e_leatref01_Div (N : Nat) : Env := mkEnv Try.prog o_leatref01_Neg (s_leatref01_Div N) N
theorem q_leatref01_Div (N : Nat) : LoopsFor (e_leatref01_Div N) Try.prog 44 0 := ⟨by kernel_rfl, fun j hj => match j, hj with
  | _ + 0, h => absurd h (by omega)⟩
def c_leatref01_Div : FC := mkF [.sc (.int .i64), .sc (.int .i64)] [.sc (.int .i64)] leatref01_Div
theorem t_leatref01_Div (N : Nat) : FCOK Try.prog N 44 c_leatref01_Div := fun_ok facts (ok_leatref01_Neg N) (by kernel_rfl) (by kernel_rfl) (q_leatref01_Div N) (fun t => by kernel_rfl)
def o_leatref01_Div : List (Nat × FC) := (44, c_leatref01_Div) :: o_leatref01_Neg
theorem ok_leatref01_Div (N : Nat) : OrcOK Try.prog o_leatref01_Div N := orc_cons (t_leatref01_Div N) (ok_leatref01_Neg N)
def p_leatref04_Toward_3 : List Pat := [.sc (.int .i64), .sc (.int .i64), .sc (.int .i64), .any, .any, .any, .any, .sc (.int .i64), .sc (.int .i64), .any, .any, .any, .any, .any, .any, .any, .any, .any, .any, .any, .any, .any, .any, .any, .any]
def h_leatref04_Toward_3 : List HPat := []
def x_leatref04_Toward_3 : List XP := [⟨.exit 0, [.sc (.int .i64), .sc (.int .i64), .any, .any, .any, .any, .any, .sc (.int .i64), .any, .any, .any, .any, .any, .any, .any, .any, .any, .any, .any, .any, .any, .any, .any, .any, .any], []⟩]
def lc_leatref04_Toward_3 (N : Nat) : LC := mkLC p_leatref04_Toward_3 h_leatref04_Toward_3 x_leatref04_Toward_3 (leatref04_Toward_L3 N)
def s_leatref04_Toward (N : Nat) : List (Nat × LC) := [(3, lc_leatref04_Toward_3 N)]
noncomputable def e_leatref04_Toward (N : Nat) : Env := mkEnv Try.prog o_leatref01_Div (s_leatref04_Toward N) N
theorem k_leatref04_Toward_3 (N : Nat) : LCOK (e_leatref04_Toward N) 12 (loopAt Try.prog 28 0) (lc_leatref04_Toward_3 N) := mkLC_ok (by kernel_rfl) (by kernel_rfl) (fun F x => by kernel_rfl)
theorem q_leatref04_Toward (N : Nat) : LoopsFor (e_leatref04_Toward N) Try.prog 28 1 := ⟨by kernel_rfl, fun j hj => match j, hj with
  | 0, _ => ⟨lc_leatref04_Toward_3 N, by kernel_rfl, k_leatref04_Toward_3 N⟩
  | _ + 1, h => absurd h (by omega)⟩
def c_leatref04_Toward : FC := mkF [.sc (.int .i64), .sc (.int .i64), .sc (.int .i64)] [.sc (.int .i64)] leatref04_Toward
theorem t_leatref04_Toward (N : Nat) : FCOK Try.prog N 28 c_leatref04_Toward := fun_ok facts (ok_leatref01_Div N) (by kernel_rfl) (by kernel_rfl) (q_leatref04_Toward N) (fun t => by kernel_rfl)
def o_leatref04_Toward : List (Nat × FC) := (28, c_leatref04_Toward) :: o_leatref01_Div
theorem ok_leatref04_Toward (N : Nat) : OrcOK Try.prog o_leatref04_Toward N := orc_cons (t_leatref04_Toward N) (ok_leatref01_Div N)
def s_leatref25_Take (_ : Nat) : List (Nat × LC) := []
noncomputable def e_leatref25_Take (N : Nat) : Env := mkEnv Try.prog o_leatref04_Toward (s_leatref25_Take N) N
theorem q_leatref25_Take (N : Nat) : LoopsFor (e_leatref25_Take N) Try.prog 10 0 := ⟨by kernel_rfl, fun j hj => match j, hj with
  | _ + 0, h => absurd h (by omega)⟩
def c_leatref25_Take : FC := mkF [.agg [.int .i64, .int .i64, .int .i64, .int .i64], .sc (.int .i64), .sc (.int .i64), .sc (.int .i64), .sc (.int .i64)] [.agg [.int .i64, .int .i64, .int .i64, .int .i64], .sc (.bool)] leatref25_Take
theorem t_leatref25_Take (N : Nat) : FCOK Try.prog N 10 c_leatref25_Take := fun_ok facts (ok_leatref04_Toward N) (by kernel_rfl) (by kernel_rfl) (q_leatref25_Take N) (fun t => by kernel_rfl)
def o_leatref25_Take : List (Nat × FC) := (10, c_leatref25_Take) :: o_leatref04_Toward
theorem ok_leatref25_Take (N : Nat) : OrcOK Try.prog o_leatref25_Take N := orc_cons (t_leatref25_Take N) (ok_leatref04_Toward N)
def s_leatlaw25_works (_ : Nat) : List (Nat × LC) := []
noncomputable def e_leatlaw25_works (N : Nat) : Env := mkEnv Try.prog o_leatref25_Take (s_leatlaw25_works N) N
theorem q_leatlaw25_works (N : Nat) : LoopsFor (e_leatlaw25_works N) Try.prog 15 0 := ⟨by kernel_rfl, fun j hj => match j, hj with
  | _ + 0, h => absurd h (by omega)⟩
def c_leatlaw25_works : FC := mkF [] [.sc (.bool)] leatlaw25_works
theorem t_leatlaw25_works (N : Nat) : FCOK Try.prog N 15 c_leatlaw25_works := fun_ok facts (ok_leatref25_Take N) (by kernel_rfl) (by kernel_rfl) (q_leatlaw25_works N) (fun t => by kernel_rfl)
def o_leatlaw25_works : List (Nat × FC) := (15, c_leatlaw25_works) :: o_leatref25_Take
theorem ok_leatlaw25_works (N : Nat) : OrcOK Try.prog o_leatlaw25_works N := orc_cons (t_leatlaw25_works N) (ok_leatref25_Take N)
def s_leatlaw25_AlphaTakes (_ : Nat) : List (Nat × LC) := []
noncomputable def e_leatlaw25_AlphaTakes (N : Nat) : Env := mkEnv Try.prog o_leatlaw25_works (s_leatlaw25_AlphaTakes N) N
theorem q_leatlaw25_AlphaTakes (N : Nat) : LoopsFor (e_leatlaw25_AlphaTakes N) Try.prog 3 0 := ⟨by kernel_rfl, fun j hj => match j, hj with
  | _ + 0, h => absurd h (by omega)⟩
theorem okL_leatlaw25_AlphaTakes (N : Nat) : OrcOK Try.prog o_leatlaw25_works N := ok_leatlaw25_works N
theorem w_leatlaw25_AlphaTakes (N : Nat) (x : RT [.agg [.int .i64, .int .i64, .int .i64, .int .i64], .agg [.int .i64, .int .i64], .agg [.int .i64, .int .i64]]) : uncR [.agg [.int .i64, .int .i64, .int .i64, .int .i64], .agg [.int .i64, .int .i64], .agg [.int .i64, .int .i64]] (leatlaw25_AlphaTakes N) x = evFn (e_leatlaw25_AlphaTakes N) 13 3 (encA 0 [.agg [.int .i64, .int .i64, .int .i64, .int .i64], .agg [.int .i64, .int .i64], .agg [.int .i64, .int .i64]] x).1 (encA 0 [.agg [.int .i64, .int .i64, .int .i64, .int .i64], .agg [.int .i64, .int .i64], .agg [.int .i64, .int .i64]] x).2 (decR [.sc .bool]) := by kernel_rfl
def p_leatlaw25_AlphaKeeps_3 : List Pat := [.any, .any, .any, .any, .any, .ptr 0 0, .any, .any, .any, .any, .any, .any, .any, .any, .sl 1, .sc (.int .i64), .sc (.int .i64), .any, .any, .any, .any, .any, .any, .any, .any, .any, .any, .any, .any, .any, .any, .any, .any, .any, .any, .any, .any, .any, .any, .any, .any, .any, .any, .any, .any, .any, .any, .any, .any, .any, .any, .any, .any, .any, .any, .any, .any, .any, .any, .any, .any, .any, .any, .any, .any, .any, .any, .any, .any, .any, .any, .any, .any, .any, .any, .any, .any]
def h_leatlaw25_AlphaKeeps_3 : List HPat := [.cells [.sc (.int .i64), .sc (.int .i64), .sc (.int .i64), .sc (.int .i64)], .ext 34 [.int .u16, .int .u16]]
def x_leatlaw25_AlphaKeeps_3 : List XP := [⟨.exit 0, [.any, .any, .any, .any, .any, .any, .any, .any, .any, .any, .any, .any, .any, .any, .any, .any, .any, .any, .any, .any, .any, .any, .any, .any, .any, .any, .any, .any, .any, .any, .any, .any, .any, .any, .any, .any, .any, .any, .any, .any, .any, .any, .any, .any, .any, .any, .any, .any, .any, .any, .any, .any, .any, .any, .any, .any, .any, .any, .any, .any, .any, .any, .any, .any, .any, .any, .any, .any, .any, .any, .any, .any, .any, .any, .any, .any, .any], []⟩, ⟨.ret, [.any, .any, .any, .any, .sc (.bool), .any, .any, .any, .any, .any, .any, .any, .any, .any, .any, .any, .any, .any, .any, .any, .any, .any, .any, .any, .any, .any, .any, .any, .any, .any, .any, .any, .any, .any, .any, .any, .any, .any, .any, .any, .any, .any, .any, .any, .any, .any, .any, .any, .any, .any, .any, .any, .any, .any, .any, .any, .any, .any, .any, .any, .any, .any, .any, .any, .any, .any, .any, .any, .any, .any, .any, .any, .any, .any, .any, .any, .any], []⟩]
def lc_leatlaw25_AlphaKeeps_3 (N : Nat) : LC := mkLC p_leatlaw25_AlphaKeeps_3 h_leatlaw25_AlphaKeeps_3 x_leatlaw25_AlphaKeeps_3 (leatlaw25_AlphaKeeps_L3 N)
def s_leatlaw25_AlphaKeeps (N : Nat) : List (Nat × LC) := [(3, lc_leatlaw25_AlphaKeeps_3 N)]
noncomputable def e_leatlaw25_AlphaKeeps (N : Nat) : Env := mkEnv Try.prog o_leatlaw25_works (s_leatlaw25_AlphaKeeps N) N
theorem k_leatlaw25_AlphaKeeps_3 (N : Nat) : LCOK (e_leatlaw25_AlphaKeeps N) 12 (loopAt Try.prog 4 0) (lc_leatlaw25_AlphaKeeps_3 N) := mkLC_ok (by kernel_rfl) (by kernel_rfl) (fun F x => by kernel_rfl)
theorem q_leatlaw25_AlphaKeeps (N : Nat) : LoopsFor (e_leatlaw25_AlphaKeeps N) Try.prog 4 1 := ⟨by kernel_rfl, fun j hj => match j, hj with
  | 0, _ => ⟨lc_leatlaw25_AlphaKeeps_3 N, by kernel_rfl, k_leatlaw25_AlphaKeeps_3 N⟩
  | _ + 1, h => absurd h (by omega)⟩
theorem okL_leatlaw25_AlphaKeeps (N : Nat) : OrcOK Try.prog o_leatlaw25_works N := ok_leatlaw25_works N
theorem w_leatlaw25_AlphaKeeps (N : Nat) (x : RT [.sc (.int .i64), .row 34 [.int .u16, .int .u16]]) : uncR [.sc (.int .i64), .row 34 [.int .u16, .int .u16]] (leatlaw25_AlphaKeeps N) x = evFn (e_leatlaw25_AlphaKeeps N) 13 4 (encA 0 [.sc (.int .i64), .row 34 [.int .u16, .int .u16]] x).1 (encA 0 [.sc (.int .i64), .row 34 [.int .u16, .int .u16]] x).2 (decR [.sc .bool]) := by kernel_rfl
def p_leatlaw25_AlphaSettles_3 : List Pat := [.any, .any, .any, .ptr 0 0, .ptr 1 0, .any, .any, .any, .any, .sc (.int .i64), .any, .any, .any, .any, .any, .any, .any, .any, .any, .any, .any, .any, .any, .any, .any, .any, .any, .any, .any, .any, .any, .any, .any]
def h_leatlaw25_AlphaSettles_3 : List HPat := [.cells [.sc (.int .i64), .sc (.int .i64), .sc (.int .i64), .sc (.int .i64)], .cells [.sc (.int .i64), .sc (.int .i64), .sc (.int .i64), .sc (.int .i64)]]
def x_leatlaw25_AlphaSettles_3 : List XP := [⟨.exit 0, [.any, .any, .any, .ptr 0 0, .ptr 1 0, .any, .any, .any, .any, .any, .any, .any, .any, .any, .any, .any, .any, .any, .any, .any, .any, .any, .any, .any, .any, .any, .any, .any, .any, .any, .any, .any, .any], [.cells [.sc (.int .i64), .sc (.int .i64), .sc (.int .i64), .sc (.int .i64)], .cells [.sc (.int .i64), .sc (.int .i64), .sc (.int .i64), .sc (.int .i64)]]⟩]
def lc_leatlaw25_AlphaSettles_3 (N : Nat) : LC := mkLC p_leatlaw25_AlphaSettles_3 h_leatlaw25_AlphaSettles_3 x_leatlaw25_AlphaSettles_3 (leatlaw25_AlphaSettles_L3 N)
def s_leatlaw25_AlphaSettles (N : Nat) : List (Nat × LC) := [(3, lc_leatlaw25_AlphaSettles_3 N)]
noncomputable def e_leatlaw25_AlphaSettles (N : Nat) : Env := mkEnv Try.prog o_leatlaw25_works (s_leatlaw25_AlphaSettles N) N
theorem k_leatlaw25_AlphaSettles_3 (N : Nat) : LCOK (e_leatlaw25_AlphaSettles N) 12 (loopAt Try.prog 5 0) (lc_leatlaw25_AlphaSettles_3 N) := mkLC_ok (by kernel_rfl) (by kernel_rfl) (fun F x => by kernel_rfl)
theorem q_leatlaw25_AlphaSettles (N : Nat) : LoopsFor (e_leatlaw25_AlphaSettles N) Try.prog 5 1 := ⟨by kernel_rfl, fun j hj => match j, hj with
  | 0, _ => ⟨lc_leatlaw25_AlphaSettles_3 N, by kernel_rfl, k_leatlaw25_AlphaSettles_3 N⟩
  | _ + 1, h => absurd h (by omega)⟩
theorem okL_leatlaw25_AlphaSettles (N : Nat) : OrcOK Try.prog o_leatlaw25_works N := ok_leatlaw25_works N
theorem w_leatlaw25_AlphaSettles (N : Nat) (x : RT [.sc (.int .i64)]) : uncR [.sc (.int .i64)] (leatlaw25_AlphaSettles N) x = evFn (e_leatlaw25_AlphaSettles N) 13 5 (encA 0 [.sc (.int .i64)] x).1 (encA 0 [.sc (.int .i64)] x).2 (decR [.sc .bool]) := by kernel_rfl
def s_fixed_share (_ : Nat) : List (Nat × LC) := []
noncomputable def e_fixed_share (N : Nat) : Env := mkEnv Try.prog o_leatlaw25_works (s_fixed_share N) N
theorem q_fixed_share (N : Nat) : LoopsFor (e_fixed_share N) Try.prog 48 0 := ⟨by kernel_rfl, fun j hj => match j, hj with
  | _ + 0, h => absurd h (by omega)⟩
def c_fixed_share : FC := mkF [.sc (.int .i64)] [.sc (.int .i64)] fixed_share
theorem t_fixed_share (N : Nat) : FCOK Try.prog N 48 c_fixed_share := fun_ok facts (ok_leatlaw25_works N) (by kernel_rfl) (by kernel_rfl) (q_fixed_share N) (fun t => by kernel_rfl)
def o_fixed_share : List (Nat × FC) := (48, c_fixed_share) :: o_leatlaw25_works
theorem ok_fixed_share (N : Nat) : OrcOK Try.prog o_fixed_share N := orc_cons (t_fixed_share N) (ok_leatlaw25_works N)
def s_sat_Div (_ : Nat) : List (Nat × LC) := []
noncomputable def e_sat_Div (N : Nat) : Env := mkEnv Try.prog o_fixed_share (s_sat_Div N) N
theorem q_sat_Div (N : Nat) : LoopsFor (e_sat_Div N) Try.prog 50 0 := ⟨by kernel_rfl, fun j hj => match j, hj with
  | _ + 0, h => absurd h (by omega)⟩
def c_sat_Div : FC := mkF [.sc (.int .i64), .sc (.int .i64)] [.sc (.int .i64)] sat_Div
theorem t_sat_Div (N : Nat) : FCOK Try.prog N 50 c_sat_Div := fun_ok facts (ok_fixed_share N) (by kernel_rfl) (by kernel_rfl) (q_sat_Div N) (fun t => by kernel_rfl)
def o_sat_Div : List (Nat × FC) := (50, c_sat_Div) :: o_fixed_share
theorem ok_sat_Div (N : Nat) : OrcOK Try.prog o_sat_Div N := orc_cons (t_sat_Div N) (ok_fixed_share N)
def s_sat_Mod (_ : Nat) : List (Nat × LC) := []
noncomputable def e_sat_Mod (N : Nat) : Env := mkEnv Try.prog o_sat_Div (s_sat_Mod N) N
theorem q_sat_Mod (N : Nat) : LoopsFor (e_sat_Mod N) Try.prog 51 0 := ⟨by kernel_rfl, fun j hj => match j, hj with
  | _ + 0, h => absurd h (by omega)⟩
def c_sat_Mod : FC := mkF [.sc (.int .i64), .sc (.int .i64)] [.sc (.int .i64)] sat_Mod
theorem t_sat_Mod (N : Nat) : FCOK Try.prog N 51 c_sat_Mod := fun_ok facts (ok_sat_Div N) (by kernel_rfl) (by kernel_rfl) (q_sat_Mod N) (fun t => by kernel_rfl)
def o_sat_Mod : List (Nat × FC) := (51, c_sat_Mod) :: o_sat_Div
theorem ok_sat_Mod (N : Nat) : OrcOK Try.prog o_sat_Mod N := orc_cons (t_sat_Mod N) (ok_sat_Div N)
def s_fixed_Part (_ : Nat) : List (Nat × LC) := []
noncomputable def e_fixed_Part (N : Nat) : Env := mkEnv Try.prog o_sat_Mod (s_fixed_Part N) N
theorem q_fixed_Part (N : Nat) : LoopsFor (e_fixed_Part N) Try.prog 35 0 := ⟨by kernel_rfl, fun j hj => match j, hj with
  | _ + 0, h => absurd h (by omega)⟩
def c_fixed_Part : FC := mkF [.sc (.int .i64), .sc (.int .i64)] [.sc (.int .i64)] fixed_Part
theorem t_fixed_Part (N : Nat) : FCOK Try.prog N 35 c_fixed_Part := fun_ok facts (ok_sat_Mod N) (by kernel_rfl) (by kernel_rfl) (q_fixed_Part N) (fun t => by kernel_rfl)
def o_fixed_Part : List (Nat × FC) := (35, c_fixed_Part) :: o_sat_Mod
theorem ok_fixed_Part (N : Nat) : OrcOK Try.prog o_fixed_Part N := orc_cons (t_fixed_Part N) (ok_sat_Mod N)
def s_fixed_Mul (_ : Nat) : List (Nat × LC) := []
noncomputable def e_fixed_Mul (N : Nat) : Env := mkEnv Try.prog o_fixed_Part (s_fixed_Mul N) N
theorem q_fixed_Mul (N : Nat) : LoopsFor (e_fixed_Mul N) Try.prog 33 0 := ⟨by kernel_rfl, fun j hj => match j, hj with
  | _ + 0, h => absurd h (by omega)⟩
def c_fixed_Mul : FC := mkF [.sc (.int .i64), .sc (.int .i64)] [.sc (.int .i64)] fixed_Mul
theorem t_fixed_Mul (N : Nat) : FCOK Try.prog N 33 c_fixed_Mul := fun_ok facts (ok_fixed_Part N) (by kernel_rfl) (by kernel_rfl) (q_fixed_Mul N) (fun t => by kernel_rfl)
def o_fixed_Mul : List (Nat × FC) := (33, c_fixed_Mul) :: o_fixed_Part
theorem ok_fixed_Mul (N : Nat) : OrcOK Try.prog o_fixed_Mul N := orc_cons (t_fixed_Mul N) (ok_fixed_Part N)
def s_prague_Scale_1 (_ : Nat) : List (Nat × LC) := []
noncomputable def e_prague_Scale_1 (N : Nat) : Env := mkEnv Try.prog o_fixed_Mul (s_prague_Scale_1 N) N
theorem q_prague_Scale_1 (N : Nat) : LoopsFor (e_prague_Scale_1 N) Try.prog 32 0 := ⟨by kernel_rfl, fun j hj => match j, hj with
  | _ + 0, h => absurd h (by omega)⟩
def c_prague_Scale_1 : FC := mkF [.sc (.int .i64)] [.sc (.int .i64)] prague_Scale_1
theorem t_prague_Scale_1 (N : Nat) : FCOK Try.prog N 32 c_prague_Scale_1 := fun_ok facts (ok_fixed_Mul N) (by kernel_rfl) (by kernel_rfl) (q_prague_Scale_1 N) (fun t => by kernel_rfl)
def o_prague_Scale_1 : List (Nat × FC) := (32, c_prague_Scale_1) :: o_fixed_Mul
theorem ok_prague_Scale_1 (N : Nat) : OrcOK Try.prog o_prague_Scale_1 N := orc_cons (t_prague_Scale_1 N) (ok_fixed_Mul N)
def s_prague_Scale (_ : Nat) : List (Nat × LC) := []
noncomputable def e_prague_Scale (N : Nat) : Env := mkEnv Try.prog o_prague_Scale_1 (s_prague_Scale N) N
theorem q_prague_Scale (N : Nat) : LoopsFor (e_prague_Scale N) Try.prog 16 0 := ⟨by kernel_rfl, fun j hj => match j, hj with
  | _ + 0, h => absurd h (by omega)⟩
def c_prague_Scale : FC := mkF [.sc (.int .i64), .sc (.int .i64)] [.sc (.int .i64)] prague_Scale
theorem t_prague_Scale (N : Nat) : FCOK Try.prog N 16 c_prague_Scale := fun_ok facts (ok_prague_Scale_1 N) (by kernel_rfl) (by kernel_rfl) (q_prague_Scale N) (fun t => by kernel_rfl)
def o_prague_Scale : List (Nat × FC) := (16, c_prague_Scale) :: o_prague_Scale_1
theorem ok_prague_Scale (N : Nat) : OrcOK Try.prog o_prague_Scale N := orc_cons (t_prague_Scale N) (ok_prague_Scale_1 N)
def s_leatref26_Scale (_ : Nat) : List (Nat × LC) := []
noncomputable def e_leatref26_Scale (N : Nat) : Env := mkEnv Try.prog o_prague_Scale (s_leatref26_Scale N) N
theorem q_leatref26_Scale (N : Nat) : LoopsFor (e_leatref26_Scale N) Try.prog 17 0 := ⟨by kernel_rfl, fun j hj => match j, hj with
  | _ + 0, h => absurd h (by omega)⟩
def c_leatref26_Scale : FC := mkF [.sc (.int .i64), .sc (.int .i64)] [.sc (.int .i64)] leatref26_Scale
theorem t_leatref26_Scale (N : Nat) : FCOK Try.prog N 17 c_leatref26_Scale := fun_ok facts (ok_prague_Scale N) (by kernel_rfl) (by kernel_rfl) (q_leatref26_Scale N) (fun t => by kernel_rfl)
def o_leatref26_Scale : List (Nat × FC) := (17, c_leatref26_Scale) :: o_prague_Scale
theorem ok_leatref26_Scale (N : Nat) : OrcOK Try.prog o_leatref26_Scale N := orc_cons (t_leatref26_Scale N) (ok_prague_Scale N)
def p_fixed_Halve_2 : List Pat := [.sc (.int .i64), .any, .any, .any, .any, .any, .any, .sc (.int .i64), .sc (.int .i64), .any, .any, .any, .any, .any]
def h_fixed_Halve_2 : List HPat := []
def x_fixed_Halve_2 : List XP := [⟨.exit 0, [.sc (.int .i64), .any, .any, .any, .any, .any, .any, .any, .any, .any, .any, .any, .any, .any], []⟩]
def lc_fixed_Halve_2 (N : Nat) : LC := mkLC p_fixed_Halve_2 h_fixed_Halve_2 x_fixed_Halve_2 (fixed_Halve_L2 N)
def s_fixed_Halve (N : Nat) : List (Nat × LC) := [(2, lc_fixed_Halve_2 N)]
noncomputable def e_fixed_Halve (N : Nat) : Env := mkEnv Try.prog o_leatref26_Scale (s_fixed_Halve N) N
theorem k_fixed_Halve_2 (N : Nat) : LCOK (e_fixed_Halve N) 12 (loopAt Try.prog 49 0) (lc_fixed_Halve_2 N) := mkLC_ok (by kernel_rfl) (by kernel_rfl) (fun F x => by kernel_rfl)
theorem q_fixed_Halve (N : Nat) : LoopsFor (e_fixed_Halve N) Try.prog 49 1 := ⟨by kernel_rfl, fun j hj => match j, hj with
  | 0, _ => ⟨lc_fixed_Halve_2 N, by kernel_rfl, k_fixed_Halve_2 N⟩
  | _ + 1, h => absurd h (by omega)⟩
def c_fixed_Halve : FC := mkF [.sc (.int .i64), .sc (.int .i64)] [.sc (.int .i64)] fixed_Halve
theorem t_fixed_Halve (N : Nat) : FCOK Try.prog N 49 c_fixed_Halve := fun_ok facts (ok_leatref26_Scale N) (by kernel_rfl) (by kernel_rfl) (q_fixed_Halve N) (fun t => by kernel_rfl)
def o_fixed_Halve : List (Nat × FC) := (49, c_fixed_Halve) :: o_leatref26_Scale
theorem ok_fixed_Halve (N : Nat) : OrcOK Try.prog o_fixed_Halve N := orc_cons (t_fixed_Halve N) (ok_leatref26_Scale N)
def s_prague_half (_ : Nat) : List (Nat × LC) := []
noncomputable def e_prague_half (N : Nat) : Env := mkEnv Try.prog o_fixed_Halve (s_prague_half N) N
theorem q_prague_half (N : Nat) : LoopsFor (e_prague_half N) Try.prog 34 0 := ⟨by kernel_rfl, fun j hj => match j, hj with
  | _ + 0, h => absurd h (by omega)⟩
def c_prague_half : FC := mkF [.sc (.int .i64)] [.sc (.int .i64)] prague_half
theorem t_prague_half (N : Nat) : FCOK Try.prog N 34 c_prague_half := fun_ok facts (ok_fixed_Halve N) (by kernel_rfl) (by kernel_rfl) (q_prague_half N) (fun t => by kernel_rfl)
def o_prague_half : List (Nat × FC) := (34, c_prague_half) :: o_fixed_Halve
theorem ok_prague_half (N : Nat) : OrcOK Try.prog o_prague_half N := orc_cons (t_prague_half N) (ok_fixed_Halve N)
def s_prague_Blend (_ : Nat) : List (Nat × LC) := []
noncomputable def e_prague_Blend (N : Nat) : Env := mkEnv Try.prog o_prague_half (s_prague_Blend N) N
theorem q_prague_Blend (N : Nat) : LoopsFor (e_prague_Blend N) Try.prog 18 0 := ⟨by kernel_rfl, fun j hj => match j, hj with
  | _ + 0, h => absurd h (by omega)⟩
def c_prague_Blend : FC := mkF [.sc (.int .i64), .sc (.int .i64)] [.sc (.int .i64)] prague_Blend
theorem t_prague_Blend (N : Nat) : FCOK Try.prog N 18 c_prague_Blend := fun_ok facts (ok_prague_half N) (by kernel_rfl) (by kernel_rfl) (q_prague_Blend N) (fun t => by kernel_rfl)
def o_prague_Blend : List (Nat × FC) := (18, c_prague_Blend) :: o_prague_half
theorem ok_prague_Blend (N : Nat) : OrcOK Try.prog o_prague_Blend N := orc_cons (t_prague_Blend N) (ok_prague_half N)
def s_leatref26_Blend (_ : Nat) : List (Nat × LC) := []
noncomputable def e_leatref26_Blend (N : Nat) : Env := mkEnv Try.prog o_prague_Blend (s_leatref26_Blend N) N
theorem q_leatref26_Blend (N : Nat) : LoopsFor (e_leatref26_Blend N) Try.prog 19 0 := ⟨by kernel_rfl, fun j hj => match j, hj with
  | _ + 0, h => absurd h (by omega)⟩
def c_leatref26_Blend : FC := mkF [.sc (.int .i64), .sc (.int .i64)] [.sc (.int .i64)] leatref26_Blend
theorem t_leatref26_Blend (N : Nat) : FCOK Try.prog N 19 c_leatref26_Blend := fun_ok facts (ok_prague_Blend N) (by kernel_rfl) (by kernel_rfl) (q_leatref26_Blend N) (fun t => by kernel_rfl)
def o_leatref26_Blend : List (Nat × FC) := (19, c_leatref26_Blend) :: o_prague_Blend
theorem ok_leatref26_Blend (N : Nat) : OrcOK Try.prog o_leatref26_Blend N := orc_cons (t_leatref26_Blend N) (ok_prague_Blend N)
def s_leatlaw26_works (_ : Nat) : List (Nat × LC) := []
noncomputable def e_leatlaw26_works (N : Nat) : Env := mkEnv Try.prog o_leatref26_Blend (s_leatlaw26_works N) N
theorem q_leatlaw26_works (N : Nat) : LoopsFor (e_leatlaw26_works N) Try.prog 20 0 := ⟨by kernel_rfl, fun j hj => match j, hj with
  | _ + 0, h => absurd h (by omega)⟩
def c_leatlaw26_works : FC := mkF [] [.sc (.bool)] leatlaw26_works
theorem t_leatlaw26_works (N : Nat) : FCOK Try.prog N 20 c_leatlaw26_works := fun_ok facts (ok_leatref26_Blend N) (by kernel_rfl) (by kernel_rfl) (q_leatlaw26_works N) (fun t => by kernel_rfl)
def o_leatlaw26_works : List (Nat × FC) := (20, c_leatlaw26_works) :: o_leatref26_Blend
theorem ok_leatlaw26_works (N : Nat) : OrcOK Try.prog o_leatlaw26_works N := orc_cons (t_leatlaw26_works N) (ok_leatref26_Blend N)
def s_leatlaw26_PragueScales (_ : Nat) : List (Nat × LC) := []
noncomputable def e_leatlaw26_PragueScales (N : Nat) : Env := mkEnv Try.prog o_leatlaw26_works (s_leatlaw26_PragueScales N) N
theorem q_leatlaw26_PragueScales (N : Nat) : LoopsFor (e_leatlaw26_PragueScales N) Try.prog 6 0 := ⟨by kernel_rfl, fun j hj => match j, hj with
  | _ + 0, h => absurd h (by omega)⟩
theorem okL_leatlaw26_PragueScales (N : Nat) : OrcOK Try.prog o_leatlaw26_works N := ok_leatlaw26_works N
theorem w_leatlaw26_PragueScales (N : Nat) (x : RT [.sc (.int .i64), .sc (.int .i64), .agg [.int .i64, .int .i64]]) : uncR [.sc (.int .i64), .sc (.int .i64), .agg [.int .i64, .int .i64]] (leatlaw26_PragueScales N) x = evFn (e_leatlaw26_PragueScales N) 13 6 (encA 0 [.sc (.int .i64), .sc (.int .i64), .agg [.int .i64, .int .i64]] x).1 (encA 0 [.sc (.int .i64), .sc (.int .i64), .agg [.int .i64, .int .i64]] x).2 (decR [.sc .bool]) := by kernel_rfl
def s_leatlaw26_PragueBetween (_ : Nat) : List (Nat × LC) := []
noncomputable def e_leatlaw26_PragueBetween (N : Nat) : Env := mkEnv Try.prog o_leatlaw26_works (s_leatlaw26_PragueBetween N) N
theorem q_leatlaw26_PragueBetween (N : Nat) : LoopsFor (e_leatlaw26_PragueBetween N) Try.prog 7 0 := ⟨by kernel_rfl, fun j hj => match j, hj with
  | _ + 0, h => absurd h (by omega)⟩
theorem okL_leatlaw26_PragueBetween (N : Nat) : OrcOK Try.prog o_leatlaw26_works N := ok_leatlaw26_works N
theorem w_leatlaw26_PragueBetween (N : Nat) (x : RT [.agg [.int .i64, .int .i64], .agg [.int .i64, .int .i64], .agg [.int .i64, .int .i64]]) : uncR [.agg [.int .i64, .int .i64], .agg [.int .i64, .int .i64], .agg [.int .i64, .int .i64]] (leatlaw26_PragueBetween N) x = evFn (e_leatlaw26_PragueBetween N) 13 7 (encA 0 [.agg [.int .i64, .int .i64], .agg [.int .i64, .int .i64], .agg [.int .i64, .int .i64]] x).1 (encA 0 [.agg [.int .i64, .int .i64], .agg [.int .i64, .int .i64], .agg [.int .i64, .int .i64]] x).2 (decR [.sc .bool]) := by kernel_rfl
def s_reno_size (_ : Nat) : List (Nat × LC) := []
noncomputable def e_reno_size (N : Nat) : Env := mkEnv Try.prog o_leatlaw26_works (s_reno_size N) N
theorem q_reno_size (N : Nat) : LoopsFor (e_reno_size N) Try.prog 53 0 := ⟨by kernel_rfl, fun j hj => match j, hj with
  | _ + 0, h => absurd h (by omega)⟩
def c_reno_size : FC := mkF [.sc (.int .i64)] [.sc (.int .i64)] reno_size
theorem t_reno_size (N : Nat) : FCOK Try.prog N 53 c_reno_size := fun_ok facts (ok_leatlaw26_works N) (by kernel_rfl) (by kernel_rfl) (q_reno_size N) (fun t => by kernel_rfl)
def o_reno_size : List (Nat × FC) := (53, c_reno_size) :: o_leatlaw26_works
theorem ok_reno_size (N : Nat) : OrcOK Try.prog o_reno_size N := orc_cons (t_reno_size N) (ok_leatlaw26_works N)
def s_reno_Within (_ : Nat) : List (Nat × LC) := []
noncomputable def e_reno_Within (N : Nat) : Env := mkEnv Try.prog o_reno_size (s_reno_Within N) N
theorem q_reno_Within (N : Nat) : LoopsFor (e_reno_Within N) Try.prog 52 0 := ⟨by kernel_rfl, fun j hj => match j, hj with
  | _ + 0, h => absurd h (by omega)⟩
def c_reno_Within : FC := mkF [.agg [.int .i64, .int .i64, .int .i64], .sc (.int .i64)] [.agg [.int .i64, .int .i64, .int .i64]] reno_Within
theorem t_reno_Within (N : Nat) : FCOK Try.prog N 52 c_reno_Within := fun_ok facts (ok_reno_size N) (by kernel_rfl) (by kernel_rfl) (q_reno_Within N) (fun t => by kernel_rfl)
def o_reno_Within : List (Nat × FC) := (52, c_reno_Within) :: o_reno_size
theorem ok_reno_Within (N : Nat) : OrcOK Try.prog o_reno_Within N := orc_cons (t_reno_Within N) (ok_reno_size N)
def s_reno_Slow (_ : Nat) : List (Nat × LC) := []
noncomputable def e_reno_Slow (N : Nat) : Env := mkEnv Try.prog o_reno_Within (s_reno_Slow N) N
theorem q_reno_Slow (N : Nat) : LoopsFor (e_reno_Slow N) Try.prog 54 0 := ⟨by kernel_rfl, fun j hj => match j, hj with
  | _ + 0, h => absurd h (by omega)⟩
def c_reno_Slow : FC := mkF [.agg [.int .i64, .int .i64, .int .i64]] [.sc (.bool)] reno_Slow
theorem t_reno_Slow (N : Nat) : FCOK Try.prog N 54 c_reno_Slow := fun_ok facts (ok_reno_Within N) (by kernel_rfl) (by kernel_rfl) (q_reno_Slow N) (fun t => by kernel_rfl)
def o_reno_Slow : List (Nat × FC) := (54, c_reno_Slow) :: o_reno_Within
theorem ok_reno_Slow (N : Nat) : OrcOK Try.prog o_reno_Slow N := orc_cons (t_reno_Slow N) (ok_reno_Within N)
def s_reno_Grow (_ : Nat) : List (Nat × LC) := []
noncomputable def e_reno_Grow (N : Nat) : Env := mkEnv Try.prog o_reno_Slow (s_reno_Grow N) N
theorem q_reno_Grow (N : Nat) : LoopsFor (e_reno_Grow N) Try.prog 36 0 := ⟨by kernel_rfl, fun j hj => match j, hj with
  | _ + 0, h => absurd h (by omega)⟩
def c_reno_Grow : FC := mkF [.agg [.int .i64, .int .i64, .int .i64], .sc (.int .i64), .sc (.int .i64), .sc (.int .i64)] [.agg [.int .i64, .int .i64, .int .i64]] reno_Grow
theorem t_reno_Grow (N : Nat) : FCOK Try.prog N 36 c_reno_Grow := fun_ok facts (ok_reno_Slow N) (by kernel_rfl) (by kernel_rfl) (q_reno_Grow N) (fun t => by kernel_rfl)
def o_reno_Grow : List (Nat × FC) := (36, c_reno_Grow) :: o_reno_Slow
theorem ok_reno_Grow (N : Nat) : OrcOK Try.prog o_reno_Grow N := orc_cons (t_reno_Grow N) (ok_reno_Slow N)
def s_prague_Grow (_ : Nat) : List (Nat × LC) := []
noncomputable def e_prague_Grow (N : Nat) : Env := mkEnv Try.prog o_reno_Grow (s_prague_Grow N) N
theorem q_prague_Grow (N : Nat) : LoopsFor (e_prague_Grow N) Try.prog 21 0 := ⟨by kernel_rfl, fun j hj => match j, hj with
  | _ + 0, h => absurd h (by omega)⟩
def c_prague_Grow : FC := mkF [.agg [.int .i64, .int .i64, .int .i64], .sc (.int .i64), .sc (.int .i64), .sc (.int .i64), .sc (.int .i64)] [.agg [.int .i64, .int .i64, .int .i64]] prague_Grow
theorem t_prague_Grow (N : Nat) : FCOK Try.prog N 21 c_prague_Grow := fun_ok facts (ok_reno_Grow N) (by kernel_rfl) (by kernel_rfl) (q_prague_Grow N) (fun t => by kernel_rfl)
def o_prague_Grow : List (Nat × FC) := (21, c_prague_Grow) :: o_reno_Grow
theorem ok_prague_Grow (N : Nat) : OrcOK Try.prog o_prague_Grow N := orc_cons (t_prague_Grow N) (ok_reno_Grow N)
def s_leatref24_Size (_ : Nat) : List (Nat × LC) := []
noncomputable def e_leatref24_Size (N : Nat) : Env := mkEnv Try.prog o_prague_Grow (s_leatref24_Size N) N
theorem q_leatref24_Size (N : Nat) : LoopsFor (e_leatref24_Size N) Try.prog 57 0 := ⟨by kernel_rfl, fun j hj => match j, hj with
  | _ + 0, h => absurd h (by omega)⟩
def c_leatref24_Size : FC := mkF [.sc (.int .i64)] [.sc (.int .i64)] leatref24_Size
theorem t_leatref24_Size (N : Nat) : FCOK Try.prog N 57 c_leatref24_Size := fun_ok facts (ok_prague_Grow N) (by kernel_rfl) (by kernel_rfl) (q_leatref24_Size N) (fun t => by kernel_rfl)
def o_leatref24_Size : List (Nat × FC) := (57, c_leatref24_Size) :: o_prague_Grow
theorem ok_leatref24_Size (N : Nat) : OrcOK Try.prog o_leatref24_Size N := orc_cons (t_leatref24_Size N) (ok_prague_Grow N)
def s_leatref24_Within (_ : Nat) : List (Nat × LC) := []
noncomputable def e_leatref24_Within (N : Nat) : Env := mkEnv Try.prog o_leatref24_Size (s_leatref24_Within N) N
theorem q_leatref24_Within (N : Nat) : LoopsFor (e_leatref24_Within N) Try.prog 55 0 := ⟨by kernel_rfl, fun j hj => match j, hj with
  | _ + 0, h => absurd h (by omega)⟩
def c_leatref24_Within : FC := mkF [.agg [.int .i64, .int .i64, .int .i64], .sc (.int .i64)] [.agg [.int .i64, .int .i64, .int .i64]] leatref24_Within
theorem t_leatref24_Within (N : Nat) : FCOK Try.prog N 55 c_leatref24_Within := fun_ok facts (ok_leatref24_Size N) (by kernel_rfl) (by kernel_rfl) (q_leatref24_Within N) (fun t => by kernel_rfl)
def o_leatref24_Within : List (Nat × FC) := (55, c_leatref24_Within) :: o_leatref24_Size
theorem ok_leatref24_Within (N : Nat) : OrcOK Try.prog o_leatref24_Within N := orc_cons (t_leatref24_Within N) (ok_leatref24_Size N)
def s_leatref04_Part (_ : Nat) : List (Nat × LC) := []
noncomputable def e_leatref04_Part (N : Nat) : Env := mkEnv Try.prog o_leatref24_Within (s_leatref04_Part N) N
theorem q_leatref04_Part (N : Nat) : LoopsFor (e_leatref04_Part N) Try.prog 56 0 := ⟨by kernel_rfl, fun j hj => match j, hj with
  | _ + 0, h => absurd h (by omega)⟩
def c_leatref04_Part : FC := mkF [.sc (.int .i64), .sc (.int .i64)] [.sc (.int .i64)] leatref04_Part
theorem t_leatref04_Part (N : Nat) : FCOK Try.prog N 56 c_leatref04_Part := fun_ok facts (ok_leatref24_Within N) (by kernel_rfl) (by kernel_rfl) (q_leatref04_Part N) (fun t => by kernel_rfl)
def o_leatref04_Part : List (Nat × FC) := (56, c_leatref04_Part) :: o_leatref24_Within
theorem ok_leatref04_Part (N : Nat) : OrcOK Try.prog o_leatref04_Part N := orc_cons (t_leatref04_Part N) (ok_leatref24_Within N)
def s_leatref24_Grow (_ : Nat) : List (Nat × LC) := []
noncomputable def e_leatref24_Grow (N : Nat) : Env := mkEnv Try.prog o_leatref04_Part (s_leatref24_Grow N) N
theorem q_leatref24_Grow (N : Nat) : LoopsFor (e_leatref24_Grow N) Try.prog 37 0 := ⟨by kernel_rfl, fun j hj => match j, hj with
  | _ + 0, h => absurd h (by omega)⟩
def c_leatref24_Grow : FC := mkF [.agg [.int .i64, .int .i64, .int .i64], .sc (.int .i64), .sc (.int .i64), .sc (.int .i64)] [.agg [.int .i64, .int .i64, .int .i64]] leatref24_Grow
theorem t_leatref24_Grow (N : Nat) : FCOK Try.prog N 37 c_leatref24_Grow := fun_ok facts (ok_leatref04_Part N) (by kernel_rfl) (by kernel_rfl) (q_leatref24_Grow N) (fun t => by kernel_rfl)
def o_leatref24_Grow : List (Nat × FC) := (37, c_leatref24_Grow) :: o_leatref04_Part
theorem ok_leatref24_Grow (N : Nat) : OrcOK Try.prog o_leatref24_Grow N := orc_cons (t_leatref24_Grow N) (ok_leatref04_Part N)
def s_leatref26_Grow (_ : Nat) : List (Nat × LC) := []
noncomputable def e_leatref26_Grow (N : Nat) : Env := mkEnv Try.prog o_leatref24_Grow (s_leatref26_Grow N) N
theorem q_leatref26_Grow (N : Nat) : LoopsFor (e_leatref26_Grow N) Try.prog 22 0 := ⟨by kernel_rfl, fun j hj => match j, hj with
  | _ + 0, h => absurd h (by omega)⟩
def c_leatref26_Grow : FC := mkF [.agg [.int .i64, .int .i64, .int .i64], .sc (.int .i64), .sc (.int .i64), .sc (.int .i64), .sc (.int .i64)] [.agg [.int .i64, .int .i64, .int .i64]] leatref26_Grow
theorem t_leatref26_Grow (N : Nat) : FCOK Try.prog N 22 c_leatref26_Grow := fun_ok facts (ok_leatref24_Grow N) (by kernel_rfl) (by kernel_rfl) (q_leatref26_Grow N) (fun t => by kernel_rfl)
def o_leatref26_Grow : List (Nat × FC) := (22, c_leatref26_Grow) :: o_leatref24_Grow
theorem ok_leatref26_Grow (N : Nat) : OrcOK Try.prog o_leatref26_Grow N := orc_cons (t_leatref26_Grow N) (ok_leatref24_Grow N)
def s_reno_Cut (_ : Nat) : List (Nat × LC) := []
noncomputable def e_reno_Cut (N : Nat) : Env := mkEnv Try.prog o_leatref26_Grow (s_reno_Cut N) N
theorem q_reno_Cut (N : Nat) : LoopsFor (e_reno_Cut N) Try.prog 38 0 := ⟨by kernel_rfl, fun j hj => match j, hj with
  | _ + 0, h => absurd h (by omega)⟩
def c_reno_Cut : FC := mkF [.agg [.int .i64, .int .i64, .int .i64], .sc (.int .i64), .sc (.int .i64)] [.agg [.int .i64, .int .i64, .int .i64]] reno_Cut
theorem t_reno_Cut (N : Nat) : FCOK Try.prog N 38 c_reno_Cut := fun_ok facts (ok_leatref26_Grow N) (by kernel_rfl) (by kernel_rfl) (q_reno_Cut N) (fun t => by kernel_rfl)
def o_reno_Cut : List (Nat × FC) := (38, c_reno_Cut) :: o_leatref26_Grow
theorem ok_reno_Cut (N : Nat) : OrcOK Try.prog o_reno_Cut N := orc_cons (t_reno_Cut N) (ok_leatref26_Grow N)
def s_prague_Reduce (_ : Nat) : List (Nat × LC) := []
noncomputable def e_prague_Reduce (N : Nat) : Env := mkEnv Try.prog o_reno_Cut (s_prague_Reduce N) N
theorem q_prague_Reduce (N : Nat) : LoopsFor (e_prague_Reduce N) Try.prog 23 0 := ⟨by kernel_rfl, fun j hj => match j, hj with
  | _ + 0, h => absurd h (by omega)⟩
def c_prague_Reduce : FC := mkF [.agg [.int .i64, .int .i64, .int .i64], .sc (.int .i64), .sc (.int .i64)] [.agg [.int .i64, .int .i64, .int .i64]] prague_Reduce
theorem t_prague_Reduce (N : Nat) : FCOK Try.prog N 23 c_prague_Reduce := fun_ok facts (ok_reno_Cut N) (by kernel_rfl) (by kernel_rfl) (q_prague_Reduce N) (fun t => by kernel_rfl)
def o_prague_Reduce : List (Nat × FC) := (23, c_prague_Reduce) :: o_reno_Cut
theorem ok_prague_Reduce (N : Nat) : OrcOK Try.prog o_prague_Reduce N := orc_cons (t_prague_Reduce N) (ok_reno_Cut N)
def s_leatref24_Cut (_ : Nat) : List (Nat × LC) := []
noncomputable def e_leatref24_Cut (N : Nat) : Env := mkEnv Try.prog o_prague_Reduce (s_leatref24_Cut N) N
theorem q_leatref24_Cut (N : Nat) : LoopsFor (e_leatref24_Cut N) Try.prog 39 0 := ⟨by kernel_rfl, fun j hj => match j, hj with
  | _ + 0, h => absurd h (by omega)⟩
def c_leatref24_Cut : FC := mkF [.agg [.int .i64, .int .i64, .int .i64], .sc (.int .i64), .sc (.int .i64)] [.agg [.int .i64, .int .i64, .int .i64]] leatref24_Cut
theorem t_leatref24_Cut (N : Nat) : FCOK Try.prog N 39 c_leatref24_Cut := fun_ok facts (ok_prague_Reduce N) (by kernel_rfl) (by kernel_rfl) (q_leatref24_Cut N) (fun t => by kernel_rfl)
def o_leatref24_Cut : List (Nat × FC) := (39, c_leatref24_Cut) :: o_prague_Reduce
theorem ok_leatref24_Cut (N : Nat) : OrcOK Try.prog o_leatref24_Cut N := orc_cons (t_leatref24_Cut N) (ok_prague_Reduce N)
def s_leatref26_Reduce (_ : Nat) : List (Nat × LC) := []
noncomputable def e_leatref26_Reduce (N : Nat) : Env := mkEnv Try.prog o_leatref24_Cut (s_leatref26_Reduce N) N
theorem q_leatref26_Reduce (N : Nat) : LoopsFor (e_leatref26_Reduce N) Try.prog 24 0 := ⟨by kernel_rfl, fun j hj => match j, hj with
  | _ + 0, h => absurd h (by omega)⟩
def c_leatref26_Reduce : FC := mkF [.agg [.int .i64, .int .i64, .int .i64], .sc (.int .i64), .sc (.int .i64)] [.agg [.int .i64, .int .i64, .int .i64]] leatref26_Reduce
theorem t_leatref26_Reduce (N : Nat) : FCOK Try.prog N 24 c_leatref26_Reduce := fun_ok facts (ok_leatref24_Cut N) (by kernel_rfl) (by kernel_rfl) (q_leatref26_Reduce N) (fun t => by kernel_rfl)
def o_leatref26_Reduce : List (Nat × FC) := (24, c_leatref26_Reduce) :: o_leatref24_Cut
theorem ok_leatref26_Reduce (N : Nat) : OrcOK Try.prog o_leatref26_Reduce N := orc_cons (t_leatref26_Reduce N) (ok_leatref24_Cut N)
def s_leatlaw26_PragueGrows (_ : Nat) : List (Nat × LC) := []
noncomputable def e_leatlaw26_PragueGrows (N : Nat) : Env := mkEnv Try.prog o_leatref26_Reduce (s_leatlaw26_PragueGrows N) N
theorem q_leatlaw26_PragueGrows (N : Nat) : LoopsFor (e_leatlaw26_PragueGrows N) Try.prog 8 0 := ⟨by kernel_rfl, fun j hj => match j, hj with
  | _ + 0, h => absurd h (by omega)⟩
theorem okL_leatlaw26_PragueGrows (N : Nat) : OrcOK Try.prog o_leatref26_Reduce N := ok_leatref26_Reduce N
theorem w_leatlaw26_PragueGrows (N : Nat) (x : RT [.agg [.int .i64, .int .i64, .int .i64], .agg [.int .i64, .int .i64], .agg [.int .i64, .int .i64]]) : uncR [.agg [.int .i64, .int .i64, .int .i64], .agg [.int .i64, .int .i64], .agg [.int .i64, .int .i64]] (leatlaw26_PragueGrows N) x = evFn (e_leatlaw26_PragueGrows N) 13 8 (encA 0 [.agg [.int .i64, .int .i64, .int .i64], .agg [.int .i64, .int .i64], .agg [.int .i64, .int .i64]] x).1 (encA 0 [.agg [.int .i64, .int .i64, .int .i64], .agg [.int .i64, .int .i64], .agg [.int .i64, .int .i64]] x).2 (decR [.sc .bool]) := by kernel_rfl
end Go.Proofs.YtlnbhofiihkpoaaRRR.W
