/- The functions of the seat, as the evaluator tells them, each with its contract. Printed by genW.py. -/
import Derived.Test.YtfoickedejcffaaW0
import Derived.Test.YtfoickedejcffaaRows
namespace Go.Proofs.Ytfoickedejcffaa.W
open Go.Ev Go.RowKit
theorem facts : Facts Try.prog := ⟨by kernel_rfl, names_of (by kernel_rfl)⟩
def o_0 : List (Nat × FC) := []
theorem ok_0 (N : Nat) : OrcOK Try.prog o_0 N := orc_nil
def p_leatref02_Bits_3 : List Pat := [.sc (.int .u64), .sc (.int .i64), .any, .any, .any, .sl 0, .sc (.int .i64), .any, .any, .any, .any, .any, .any, .any, .any, .any, .any, .any, .any, .any, .any]
def h_leatref02_Bits_3 : List HPat := [.rows 3 [.int .i64]]
def x_leatref02_Bits_3 : List XP := [⟨.exit 0, [.any, .any, .any, .any, .any, .sl 0, .any, .any, .any, .any, .any, .any, .any, .any, .any, .any, .any, .any, .any, .any, .any], [.rows 3 [.int .i64]]⟩]
def lc_leatref02_Bits_3 (N : Nat) : LC := mkLC p_leatref02_Bits_3 h_leatref02_Bits_3 x_leatref02_Bits_3 (leatref02_Bits_L3 N)
def s_leatref02_Bits (N : Nat) : List (Nat × LC) := [(3, lc_leatref02_Bits_3 N)]
noncomputable def e_leatref02_Bits (N : Nat) : Env := mkEnv Try.prog o_0 (s_leatref02_Bits N) N
theorem k_leatref02_Bits_3 (N : Nat) : LCOK (e_leatref02_Bits N) 12 (loopAt Try.prog 12 0) (lc_leatref02_Bits_3 N) := mkLC_ok (by kernel_rfl) (by kernel_rfl) (fun F x => by kernel_rfl)
theorem q_leatref02_Bits (N : Nat) : LoopsFor (e_leatref02_Bits N) Try.prog 12 1 := ⟨by kernel_rfl, fun j hj => match j, hj with
  | 0, _ => ⟨lc_leatref02_Bits_3 N, by kernel_rfl, k_leatref02_Bits_3 N⟩
  | _ + 1, h => absurd h (by omega)⟩
def c_leatref02_Bits : FC := mkF [.sc (.int .u64), .sc (.int .i64)] [.row 3 [.int .i64]] leatref02_Bits
theorem t_leatref02_Bits (N : Nat) : FCOK Try.prog N 12 c_leatref02_Bits := fun_ok facts (ok_0 N) (by kernel_rfl) (by kernel_rfl) (q_leatref02_Bits N) (fun t => by kernel_rfl)
def o_leatref02_Bits : List (Nat × FC) := (12, c_leatref02_Bits) :: o_0
theorem ok_leatref02_Bits (N : Nat) : OrcOK Try.prog o_leatref02_Bits N := orc_cons (t_leatref02_Bits N) (ok_0 N)
def p_leatref02_Add_4 : List Pat := [.sl 0, .sl 1, .any, .any, .any, .sl 2, .sc (.int .i64), .sc (.int .i64), .any, .any, .any, .any, .any, .any, .any, .any, .any, .any, .any, .any, .any, .any, .any, .any, .any, .any, .any, .any, .any, .any, .any, .any, .any, .any, .any, .any, .any, .any, .any, .any, .any, .any, .any, .any, .any, .any, .any, .any, .any, .any, .any, .any, .any]
def h_leatref02_Add_4 : List HPat := [.ext 3 [.int .i64], .ext 3 [.int .i64], .rows 3 [.int .i64]]
def x_leatref02_Add_4 : List XP := [⟨.exit 0, [.any, .any, .any, .any, .any, .sl 0, .sc (.int .i64), .any, .any, .any, .any, .any, .any, .any, .any, .any, .any, .any, .any, .any, .any, .any, .any, .any, .any, .any, .any, .any, .any, .any, .any, .any, .any, .any, .any, .any, .any, .any, .any, .any, .any, .any, .any, .any, .any, .any, .any, .any, .any, .any, .any, .any, .any], [.rows 3 [.int .i64]]⟩]
def lc_leatref02_Add_4 (N : Nat) : LC := mkLC p_leatref02_Add_4 h_leatref02_Add_4 x_leatref02_Add_4 (leatref02_Add_L4 N)
def s_leatref02_Add (N : Nat) : List (Nat × LC) := [(4, lc_leatref02_Add_4 N)]
noncomputable def e_leatref02_Add (N : Nat) : Env := mkEnv Try.prog o_leatref02_Bits (s_leatref02_Add N) N
theorem k_leatref02_Add_4 (N : Nat) : LCOK (e_leatref02_Add N) 12 (loopAt Try.prog 14 0) (lc_leatref02_Add_4 N) := mkLC_ok (by kernel_rfl) (by kernel_rfl) (fun F x => by kernel_rfl)
theorem q_leatref02_Add (N : Nat) : LoopsFor (e_leatref02_Add N) Try.prog 14 1 := ⟨by kernel_rfl, fun j hj => match j, hj with
  | 0, _ => ⟨lc_leatref02_Add_4 N, by kernel_rfl, k_leatref02_Add_4 N⟩
  | _ + 1, h => absurd h (by omega)⟩
def c_leatref02_Add : FC := mkF [.row 3 [.int .i64], .row 3 [.int .i64]] [.row 3 [.int .i64]] leatref02_Add
theorem t_leatref02_Add (N : Nat) : FCOK Try.prog N 14 c_leatref02_Add := fun_ok facts (ok_leatref02_Bits N) (by kernel_rfl) (by kernel_rfl) (q_leatref02_Add N) (fun t => by kernel_rfl)
def o_leatref02_Add : List (Nat × FC) := (14, c_leatref02_Add) :: o_leatref02_Bits
theorem ok_leatref02_Add (N : Nat) : OrcOK Try.prog o_leatref02_Add N := orc_cons (t_leatref02_Add N) (ok_leatref02_Bits N)
def p_leatref02_Mul_3 : List Pat := [.sl 0, .sl 1, .any, .any, .any, .sl 2, .sc (.int .i64), .any, .any, .any, .any, .any, .any, .any, .any, .any, .any, .any, .any, .any, .any, .any, .any, .any, .any, .any]
def h_leatref02_Mul_3 : List HPat := [.ext 3 [.int .i64], .ext 3 [.int .i64], .rows 3 [.int .i64]]
def x_leatref02_Mul_3 : List XP := [⟨.exit 0, [.any, .any, .any, .any, .any, .sl 0, .any, .any, .any, .any, .any, .any, .any, .any, .any, .any, .any, .any, .any, .any, .any, .any, .any, .any, .any, .any], [.rows 3 [.int .i64]]⟩]
def lc_leatref02_Mul_3 (N : Nat) : LC := mkLC p_leatref02_Mul_3 h_leatref02_Mul_3 x_leatref02_Mul_3 (leatref02_Mul_L3 N)
def s_leatref02_Mul (N : Nat) : List (Nat × LC) := [(3, lc_leatref02_Mul_3 N)]
noncomputable def e_leatref02_Mul (N : Nat) : Env := mkEnv Try.prog o_leatref02_Add (s_leatref02_Mul N) N
theorem k_leatref02_Mul_3 (N : Nat) : LCOK (e_leatref02_Mul N) 12 (loopAt Try.prog 11 0) (lc_leatref02_Mul_3 N) := mkLC_ok (by kernel_rfl) (by kernel_rfl) (fun F x => by kernel_rfl)
theorem q_leatref02_Mul (N : Nat) : LoopsFor (e_leatref02_Mul N) Try.prog 11 1 := ⟨by kernel_rfl, fun j hj => match j, hj with
  | 0, _ => ⟨lc_leatref02_Mul_3 N, by kernel_rfl, k_leatref02_Mul_3 N⟩
  | _ + 1, h => absurd h (by omega)⟩
def c_leatref02_Mul : FC := mkF [.row 3 [.int .i64], .row 3 [.int .i64]] [.row 3 [.int .i64]] leatref02_Mul
theorem t_leatref02_Mul (N : Nat) : FCOK Try.prog N 11 c_leatref02_Mul := fun_ok facts (ok_leatref02_Add N) (by kernel_rfl) (by kernel_rfl) (q_leatref02_Mul N) (fun t => by kernel_rfl)
def o_leatref02_Mul : List (Nat × FC) := (11, c_leatref02_Mul) :: o_leatref02_Add
theorem ok_leatref02_Mul (N : Nat) : OrcOK Try.prog o_leatref02_Mul N := orc_cons (t_leatref02_Mul N) (ok_leatref02_Add N)
def c_bits_Add64 : FC := add64C
theorem t_bits_Add64 (N : Nat) : FCOK Try.prog N 40 c_bits_Add64 := add64_ok Try.func40 (by kernel_rfl) (by kernel_rfl) (by kernel_rfl) (by kernel_rfl)
def o_bits_Add64 : List (Nat × FC) := (40, c_bits_Add64) :: o_leatref02_Mul
theorem ok_bits_Add64 (N : Nat) : OrcOK Try.prog o_bits_Add64 N := orc_cons (t_bits_Add64 N) (ok_leatref02_Mul N)
def s_wide_Add (_ : Nat) : List (Nat × LC) := []
noncomputable def e_wide_Add (N : Nat) : Env := mkEnv Try.prog o_bits_Add64 (s_wide_Add N) N
theorem q_wide_Add (N : Nat) : LoopsFor (e_wide_Add N) Try.prog 13 0 := ⟨by kernel_rfl, fun j hj => match j, hj with
  | _ + 0, h => absurd h (by omega)⟩
def c_wide_Add : FC := mkF [.agg [.int .u64, .int .u64], .agg [.int .u64, .int .u64]] [.agg [.int .u64, .int .u64], .sc (.bool)] wide_Add
theorem t_wide_Add (N : Nat) : FCOK Try.prog N 13 c_wide_Add := fun_ok facts (ok_bits_Add64 N) (by kernel_rfl) (by kernel_rfl) (q_wide_Add N) (fun t => by kernel_rfl)
def o_wide_Add : List (Nat × FC) := (13, c_wide_Add) :: o_bits_Add64
theorem ok_wide_Add (N : Nat) : OrcOK Try.prog o_wide_Add N := orc_cons (t_wide_Add N) (ok_bits_Add64 N)
def s_leatref02_Wide (_ : Nat) : List (Nat × LC) := []
noncomputable def e_leatref02_Wide (N : Nat) : Env := mkEnv Try.prog o_wide_Add (s_leatref02_Wide N) N
theorem q_leatref02_Wide (N : Nat) : LoopsFor (e_leatref02_Wide N) Try.prog 41 0 := ⟨by kernel_rfl, fun j hj => match j, hj with
  | _ + 0, h => absurd h (by omega)⟩
def c_leatref02_Wide : FC := mkF [.sc (.int .u64), .sc (.int .u64)] [.row 3 [.int .i64]] leatref02_Wide
theorem t_leatref02_Wide (N : Nat) : FCOK Try.prog N 41 c_leatref02_Wide := fun_ok facts (ok_wide_Add N) (by kernel_rfl) (by kernel_rfl) (q_leatref02_Wide N) (fun t => by kernel_rfl)
def o_leatref02_Wide : List (Nat × FC) := (41, c_leatref02_Wide) :: o_wide_Add
theorem ok_leatref02_Wide (N : Nat) : OrcOK Try.prog o_leatref02_Wide N := orc_cons (t_leatref02_Wide N) (ok_wide_Add N)
def s_leatlaw02_bits (_ : Nat) : List (Nat × LC) := []
noncomputable def e_leatlaw02_bits (N : Nat) : Env := mkEnv Try.prog o_leatref02_Wide (s_leatlaw02_bits N) N
theorem q_leatlaw02_bits (N : Nat) : LoopsFor (e_leatlaw02_bits N) Try.prog 15 0 := ⟨by kernel_rfl, fun j hj => match j, hj with
  | _ + 0, h => absurd h (by omega)⟩
def c_leatlaw02_bits : FC := mkF [.agg [.int .u64, .int .u64]] [.row 3 [.int .i64]] leatlaw02_bits
theorem t_leatlaw02_bits (N : Nat) : FCOK Try.prog N 15 c_leatlaw02_bits := fun_ok facts (ok_leatref02_Wide N) (by kernel_rfl) (by kernel_rfl) (q_leatlaw02_bits N) (fun t => by kernel_rfl)
def o_leatlaw02_bits : List (Nat × FC) := (15, c_leatlaw02_bits) :: o_leatref02_Wide
theorem ok_leatlaw02_bits (N : Nat) : OrcOK Try.prog o_leatlaw02_bits N := orc_cons (t_leatlaw02_bits N) (ok_leatref02_Wide N)
def s_bits_Mul64 (_ : Nat) : List (Nat × LC) := []
noncomputable def e_bits_Mul64 (N : Nat) : Env := mkEnv Try.prog o_leatlaw02_bits (s_bits_Mul64 N) N
theorem q_bits_Mul64 (N : Nat) : LoopsFor (e_bits_Mul64 N) Try.prog 42 0 := ⟨by kernel_rfl, fun j hj => match j, hj with
  | _ + 0, h => absurd h (by omega)⟩
def c_bits_Mul64 : FC := mkF [.sc (.int .u64), .sc (.int .u64)] [.sc (.int .u64), .sc (.int .u64)] bits_Mul64
theorem t_bits_Mul64 (N : Nat) : FCOK Try.prog N 42 c_bits_Mul64 := fun_ok facts (ok_leatlaw02_bits N) (by kernel_rfl) (by kernel_rfl) (q_bits_Mul64 N) (fun t => by kernel_rfl)
def o_bits_Mul64 : List (Nat × FC) := (42, c_bits_Mul64) :: o_leatlaw02_bits
theorem ok_bits_Mul64 (N : Nat) : OrcOK Try.prog o_bits_Mul64 N := orc_cons (t_bits_Mul64 N) (ok_leatlaw02_bits N)
def s_wide_Mul (_ : Nat) : List (Nat × LC) := []
noncomputable def e_wide_Mul (N : Nat) : Env := mkEnv Try.prog o_bits_Mul64 (s_wide_Mul N) N
theorem q_wide_Mul (N : Nat) : LoopsFor (e_wide_Mul N) Try.prog 17 0 := ⟨by kernel_rfl, fun j hj => match j, hj with
  | _ + 0, h => absurd h (by omega)⟩
def c_wide_Mul : FC := mkF [.sc (.int .u64), .sc (.int .u64)] [.agg [.int .u64, .int .u64]] wide_Mul
theorem t_wide_Mul (N : Nat) : FCOK Try.prog N 17 c_wide_Mul := fun_ok facts (ok_bits_Mul64 N) (by kernel_rfl) (by kernel_rfl) (q_wide_Mul N) (fun t => by kernel_rfl)
def o_wide_Mul : List (Nat × FC) := (17, c_wide_Mul) :: o_bits_Mul64
theorem ok_wide_Mul (N : Nat) : OrcOK Try.prog o_wide_Mul N := orc_cons (t_wide_Mul N) (ok_bits_Mul64 N)
def p_leatref02_Cmp_2 : List Pat := [.sl 0, .sl 1, .any, .any, .any, .sc (.int .i64), .any, .any, .any, .any, .any, .any, .any, .any, .any, .any, .any, .any, .any, .any, .any, .any, .any, .any, .any, .any, .any, .any, .any, .any, .any, .any, .any, .any, .any, .any, .any, .any, .any, .any]
def h_leatref02_Cmp_2 : List HPat := [.ext 3 [.int .i64], .ext 3 [.int .i64]]
def x_leatref02_Cmp_2 : List XP := [⟨.ret, [.any, .any, .any, .any, .sc (.int .i64), .any, .any, .any, .any, .any, .any, .any, .any, .any, .any, .any, .any, .any, .any, .any, .any, .any, .any, .any, .any, .any, .any, .any, .any, .any, .any, .any, .any, .any, .any, .any, .any, .any, .any, .any], []⟩, ⟨.exit 0, [.any, .any, .any, .any, .any, .any, .any, .any, .any, .any, .any, .any, .any, .any, .any, .any, .any, .any, .any, .any, .any, .any, .any, .any, .any, .any, .any, .any, .any, .any, .any, .any, .any, .any, .any, .any, .any, .any, .any, .any], []⟩]
def lc_leatref02_Cmp_2 (N : Nat) : LC := mkLC p_leatref02_Cmp_2 h_leatref02_Cmp_2 x_leatref02_Cmp_2 (leatref02_Cmp_L2 N)
def s_leatref02_Cmp (N : Nat) : List (Nat × LC) := [(2, lc_leatref02_Cmp_2 N)]
noncomputable def e_leatref02_Cmp (N : Nat) : Env := mkEnv Try.prog o_wide_Mul (s_leatref02_Cmp N) N
theorem k_leatref02_Cmp_2 (N : Nat) : LCOK (e_leatref02_Cmp N) 12 (loopAt Try.prog 16 0) (lc_leatref02_Cmp_2 N) := mkLC_ok (by kernel_rfl) (by kernel_rfl) (fun F x => by kernel_rfl)
theorem q_leatref02_Cmp (N : Nat) : LoopsFor (e_leatref02_Cmp N) Try.prog 16 1 := ⟨by kernel_rfl, fun j hj => match j, hj with
  | 0, _ => ⟨lc_leatref02_Cmp_2 N, by kernel_rfl, k_leatref02_Cmp_2 N⟩
  | _ + 1, h => absurd h (by omega)⟩
def c_leatref02_Cmp : FC := mkF [.row 3 [.int .i64], .row 3 [.int .i64]] [.sc (.int .i64)] leatref02_Cmp
theorem t_leatref02_Cmp (N : Nat) : FCOK Try.prog N 16 c_leatref02_Cmp := fun_ok facts (ok_wide_Mul N) (by kernel_rfl) (by kernel_rfl) (q_leatref02_Cmp N) (fun t => by kernel_rfl)
def o_leatref02_Cmp : List (Nat × FC) := (16, c_leatref02_Cmp) :: o_wide_Mul
theorem ok_leatref02_Cmp (N : Nat) : OrcOK Try.prog o_leatref02_Cmp N := orc_cons (t_leatref02_Cmp N) (ok_wide_Mul N)
def p_leatref02_Num_3 : List Pat := [.sl 0, .sc (.int .i64), .any, .any, .any, .sc (.int .u64), .sc (.int .i64), .any, .any, .any, .any, .any, .any, .any, .any, .any, .any, .any, .any, .any, .any, .any, .any, .any, .any, .any, .any, .any, .any, .any, .any]
def h_leatref02_Num_3 : List HPat := [.ext 3 [.int .i64]]
def x_leatref02_Num_3 : List XP := [⟨.exit 0, [.any, .any, .any, .any, .any, .sc (.int .u64), .any, .any, .any, .any, .any, .any, .any, .any, .any, .any, .any, .any, .any, .any, .any, .any, .any, .any, .any, .any, .any, .any, .any, .any, .any], []⟩]
def lc_leatref02_Num_3 (N : Nat) : LC := mkLC p_leatref02_Num_3 h_leatref02_Num_3 x_leatref02_Num_3 (leatref02_Num_L3 N)
def s_leatref02_Num (N : Nat) : List (Nat × LC) := [(3, lc_leatref02_Num_3 N)]
noncomputable def e_leatref02_Num (N : Nat) : Env := mkEnv Try.prog o_leatref02_Cmp (s_leatref02_Num N) N
theorem k_leatref02_Num_3 (N : Nat) : LCOK (e_leatref02_Num N) 12 (loopAt Try.prog 18 0) (lc_leatref02_Num_3 N) := mkLC_ok (by kernel_rfl) (by kernel_rfl) (fun F x => by kernel_rfl)
theorem q_leatref02_Num (N : Nat) : LoopsFor (e_leatref02_Num N) Try.prog 18 1 := ⟨by kernel_rfl, fun j hj => match j, hj with
  | 0, _ => ⟨lc_leatref02_Num_3 N, by kernel_rfl, k_leatref02_Num_3 N⟩
  | _ + 1, h => absurd h (by omega)⟩
def c_leatref02_Num : FC := mkF [.row 3 [.int .i64], .sc (.int .i64)] [.sc (.int .u64)] leatref02_Num
theorem t_leatref02_Num (N : Nat) : FCOK Try.prog N 18 c_leatref02_Num := fun_ok facts (ok_leatref02_Cmp N) (by kernel_rfl) (by kernel_rfl) (q_leatref02_Num N) (fun t => by kernel_rfl)
def o_leatref02_Num : List (Nat × FC) := (18, c_leatref02_Num) :: o_leatref02_Cmp
theorem ok_leatref02_Num (N : Nat) : OrcOK Try.prog o_leatref02_Num N := orc_cons (t_leatref02_Num N) (ok_leatref02_Cmp N)
def s_cmp_isNaN_uint64 (_ : Nat) : List (Nat × LC) := []
noncomputable def e_cmp_isNaN_uint64 (N : Nat) : Env := mkEnv Try.prog o_leatref02_Num (s_cmp_isNaN_uint64 N) N
theorem q_cmp_isNaN_uint64 (N : Nat) : LoopsFor (e_cmp_isNaN_uint64 N) Try.prog 58 0 := ⟨by kernel_rfl, fun j hj => match j, hj with
  | _ + 0, h => absurd h (by omega)⟩
def c_cmp_isNaN_uint64 : FC := mkF [.sc (.int .u64)] [.sc (.bool)] cmp_isNaN_uint64
theorem t_cmp_isNaN_uint64 (N : Nat) : FCOK Try.prog N 58 c_cmp_isNaN_uint64 := fun_ok facts (ok_leatref02_Num N) (by kernel_rfl) (by kernel_rfl) (q_cmp_isNaN_uint64 N) (fun t => by kernel_rfl)
def o_cmp_isNaN_uint64 : List (Nat × FC) := (58, c_cmp_isNaN_uint64) :: o_leatref02_Num
theorem ok_cmp_isNaN_uint64 (N : Nat) : OrcOK Try.prog o_cmp_isNaN_uint64 N := orc_cons (t_cmp_isNaN_uint64 N) (ok_leatref02_Num N)
def s_cmp_Compare_uint64 (_ : Nat) : List (Nat × LC) := []
noncomputable def e_cmp_Compare_uint64 (N : Nat) : Env := mkEnv Try.prog o_cmp_isNaN_uint64 (s_cmp_Compare_uint64 N) N
theorem q_cmp_Compare_uint64 (N : Nat) : LoopsFor (e_cmp_Compare_uint64 N) Try.prog 44 0 := ⟨by kernel_rfl, fun j hj => match j, hj with
  | _ + 0, h => absurd h (by omega)⟩
def c_cmp_Compare_uint64 : FC := mkF [.sc (.int .u64), .sc (.int .u64)] [.sc (.int .i64)] cmp_Compare_uint64
theorem t_cmp_Compare_uint64 (N : Nat) : FCOK Try.prog N 44 c_cmp_Compare_uint64 := fun_ok facts (ok_cmp_isNaN_uint64 N) (by kernel_rfl) (by kernel_rfl) (q_cmp_Compare_uint64 N) (fun t => by kernel_rfl)
def o_cmp_Compare_uint64 : List (Nat × FC) := (44, c_cmp_Compare_uint64) :: o_cmp_isNaN_uint64
theorem ok_cmp_Compare_uint64 (N : Nat) : OrcOK Try.prog o_cmp_Compare_uint64 N := orc_cons (t_cmp_Compare_uint64 N) (ok_cmp_isNaN_uint64 N)
def p_cmp_Or_int_3 : List Pat := [.any, .any, .any, .sc (.int .i64), .any, .any, .sl 0, .sc (.int .i64), .sc (.int .i64), .any, .any, .any, .any, .any, .any, .any, .any, .any]
def h_cmp_Or_int_3 : List HPat := [.ext 3 [.int .i64]]
def x_cmp_Or_int_3 : List XP := [⟨.ret, [.any, .any, .sc (.int .i64), .any, .any, .any, .any, .any, .any, .any, .any, .any, .any, .any, .any, .any, .any, .any], []⟩, ⟨.exit 0, [.any, .any, .any, .sc (.int .i64), .any, .any, .any, .any, .any, .any, .any, .any, .any, .any, .any, .any, .any, .any], []⟩]
def lc_cmp_Or_int_3 (N : Nat) : LC := mkLC p_cmp_Or_int_3 h_cmp_Or_int_3 x_cmp_Or_int_3 (cmp_Or_int_L3 N)
def s_cmp_Or_int (N : Nat) : List (Nat × LC) := [(3, lc_cmp_Or_int_3 N)]
noncomputable def e_cmp_Or_int (N : Nat) : Env := mkEnv Try.prog o_cmp_Compare_uint64 (s_cmp_Or_int N) N
theorem k_cmp_Or_int_3 (N : Nat) : LCOK (e_cmp_Or_int N) 12 (loopAt Try.prog 43 0) (lc_cmp_Or_int_3 N) := mkLC_ok (by kernel_rfl) (by kernel_rfl) (fun F x => by kernel_rfl)
theorem q_cmp_Or_int (N : Nat) : LoopsFor (e_cmp_Or_int N) Try.prog 43 1 := ⟨by kernel_rfl, fun j hj => match j, hj with
  | 0, _ => ⟨lc_cmp_Or_int_3 N, by kernel_rfl, k_cmp_Or_int_3 N⟩
  | _ + 1, h => absurd h (by omega)⟩
def c_cmp_Or_int : FC := mkF [.row 3 [.int .i64]] [.sc (.int .i64)] cmp_Or_int
theorem t_cmp_Or_int (N : Nat) : FCOK Try.prog N 43 c_cmp_Or_int := fun_ok facts (ok_cmp_Compare_uint64 N) (by kernel_rfl) (by kernel_rfl) (q_cmp_Or_int N) (fun t => by kernel_rfl)
def o_cmp_Or_int : List (Nat × FC) := (43, c_cmp_Or_int) :: o_cmp_Compare_uint64
theorem ok_cmp_Or_int (N : Nat) : OrcOK Try.prog o_cmp_Or_int N := orc_cons (t_cmp_Or_int N) (ok_cmp_Compare_uint64 N)
def s_wide_Cmp (_ : Nat) : List (Nat × LC) := []
noncomputable def e_wide_Cmp (N : Nat) : Env := mkEnv Try.prog o_cmp_Or_int (s_wide_Cmp N) N
theorem q_wide_Cmp (N : Nat) : LoopsFor (e_wide_Cmp N) Try.prog 19 0 := ⟨by kernel_rfl, fun j hj => match j, hj with
  | _ + 0, h => absurd h (by omega)⟩
def c_wide_Cmp : FC := mkF [.agg [.int .u64, .int .u64], .agg [.int .u64, .int .u64]] [.sc (.int .i64)] wide_Cmp
theorem t_wide_Cmp (N : Nat) : FCOK Try.prog N 19 c_wide_Cmp := fun_ok facts (ok_cmp_Or_int N) (by kernel_rfl) (by kernel_rfl) (q_wide_Cmp N) (fun t => by kernel_rfl)
def o_wide_Cmp : List (Nat × FC) := (19, c_wide_Cmp) :: o_cmp_Or_int
theorem ok_wide_Cmp (N : Nat) : OrcOK Try.prog o_wide_Cmp N := orc_cons (t_wide_Cmp N) (ok_cmp_Or_int N)
def s_bits_Len64 (_ : Nat) : List (Nat × LC) := []
noncomputable def e_bits_Len64 (N : Nat) : Env := mkEnv Try.prog o_wide_Cmp (s_bits_Len64 N) N
theorem q_bits_Len64 (N : Nat) : LoopsFor (e_bits_Len64 N) Try.prog 63 0 := ⟨by kernel_rfl, fun j hj => match j, hj with
  | _ + 0, h => absurd h (by omega)⟩
def c_bits_Len64 : FC := mkF [.sc (.int .u64)] [.sc (.int .i64)] bits_Len64
theorem t_bits_Len64 (N : Nat) : FCOK Try.prog N 63 c_bits_Len64 := fun_ok facts (ok_wide_Cmp N) (by kernel_rfl) (by kernel_rfl) (q_bits_Len64 N) (fun t => by kernel_rfl)
def o_bits_Len64 : List (Nat × FC) := (63, c_bits_Len64) :: o_wide_Cmp
theorem ok_bits_Len64 (N : Nat) : OrcOK Try.prog o_bits_Len64 N := orc_cons (t_bits_Len64 N) (ok_wide_Cmp N)
def s_bits_LeadingZeros64 (_ : Nat) : List (Nat × LC) := []
noncomputable def e_bits_LeadingZeros64 (N : Nat) : Env := mkEnv Try.prog o_bits_Len64 (s_bits_LeadingZeros64 N) N
theorem q_bits_LeadingZeros64 (N : Nat) : LoopsFor (e_bits_LeadingZeros64 N) Try.prog 59 0 := ⟨by kernel_rfl, fun j hj => match j, hj with
  | _ + 0, h => absurd h (by omega)⟩
def c_bits_LeadingZeros64 : FC := mkF [.sc (.int .u64)] [.sc (.int .i64)] bits_LeadingZeros64
theorem t_bits_LeadingZeros64 (N : Nat) : FCOK Try.prog N 59 c_bits_LeadingZeros64 := fun_ok facts (ok_bits_Len64 N) (by kernel_rfl) (by kernel_rfl) (q_bits_LeadingZeros64 N) (fun t => by kernel_rfl)
def o_bits_LeadingZeros64 : List (Nat × FC) := (59, c_bits_LeadingZeros64) :: o_bits_Len64
theorem ok_bits_LeadingZeros64 (N : Nat) : OrcOK Try.prog o_bits_LeadingZeros64 N := orc_cons (t_bits_LeadingZeros64 N) (ok_bits_Len64 N)
def p_bits_Div64_17 : List Pat := [.any, .any, .sc (.int .u64), .any, .any, .any, .any, .any, .sc (.int .u64), .sc (.int .u64), .sc (.int .u64), .sc (.int .u64), .any, .sc (.int .u64), .sc (.int .u64), .sc (.int .u64), .sc (.int .u64), .any, .any, .any, .any, .any, .any, .any, .any, .any, .any, .any, .any, .any, .any, .any, .any, .any, .any, .any, .any, .any, .any, .any, .any, .any, .any, .any, .any, .any, .any, .any, .any, .any, .any, .any, .any, .any, .any, .any, .any, .any, .any, .any, .any, .any, .any, .any, .any, .any, .any, .any, .any, .any, .any, .any, .any, .any, .any, .any, .any, .any, .any, .any, .any, .any, .any, .any, .any, .any, .any, .any, .any, .any, .any, .any, .any, .any, .any, .any, .any, .any, .any, .any, .any, .any, .any, .any, .any, .any, .any, .any, .any, .any, .any, .any, .any, .any, .any, .any, .any, .any, .any, .any, .any, .any, .any, .any, .any, .any, .any, .any, .any, .any, .any, .any, .any, .any, .any]
def h_bits_Div64_17 : List HPat := []
def x_bits_Div64_17 : List XP := [⟨.exit 0, [.any, .any, .sc (.int .u64), .any, .any, .any, .any, .any, .sc (.int .u64), .sc (.int .u64), .sc (.int .u64), .sc (.int .u64), .any, .sc (.int .u64), .sc (.int .u64), .sc (.int .u64), .any, .any, .any, .any, .any, .any, .any, .any, .any, .any, .any, .any, .any, .any, .any, .any, .any, .any, .any, .any, .any, .any, .any, .any, .any, .any, .any, .any, .any, .any, .any, .any, .any, .any, .any, .any, .any, .any, .any, .any, .any, .any, .any, .any, .any, .any, .any, .any, .any, .any, .any, .any, .any, .any, .any, .any, .any, .any, .any, .any, .any, .any, .any, .any, .any, .any, .any, .any, .any, .any, .any, .any, .any, .any, .any, .any, .any, .any, .any, .any, .any, .any, .any, .any, .any, .any, .any, .any, .any, .any, .any, .any, .any, .any, .any, .any, .any, .any, .any, .any, .any, .any, .any, .any, .any, .any, .any, .any, .any, .any, .any, .any, .any, .any, .any, .any, .any, .any, .any], []⟩]
def lc_bits_Div64_17 (N : Nat) : LC := mkLC p_bits_Div64_17 h_bits_Div64_17 x_bits_Div64_17 (bits_Div64_L17 N)
def p_bits_Div64_24 : List Pat := [.any, .any, .sc (.int .u64), .any, .any, .any, .any, .any, .sc (.int .u64), .sc (.int .u64), .sc (.int .u64), .any, .any, .any, .sc (.int .u64), .sc (.int .u64), .sc (.int .u64), .sc (.int .u64), .sc (.int .u64), .any, .any, .any, .any, .any, .any, .any, .any, .any, .any, .any, .any, .any, .any, .any, .any, .any, .any, .any, .any, .any, .any, .any, .any, .any, .any, .any, .any, .any, .any, .any, .any, .any, .any, .any, .any, .any, .any, .any, .any, .any, .any, .any, .any, .any, .any, .any, .any, .any, .any, .any, .any, .any, .any, .any, .any, .any, .any, .any, .any, .any, .any, .any, .any, .any, .any, .any, .any, .any, .any, .any, .any, .any, .any, .any, .any, .any, .any, .any, .any, .any, .any, .any, .any, .any, .any, .any, .any, .any, .any, .any, .any, .any, .any, .any, .any, .any, .any, .any, .any, .any, .any, .any, .any, .any, .any, .any, .any, .any, .any, .any, .any, .any, .any, .any, .any]
def h_bits_Div64_24 : List HPat := []
def x_bits_Div64_24 : List XP := [⟨.exit 2, [.any, .any, .sc (.int .u64), .any, .any, .any, .any, .any, .sc (.int .u64), .any, .any, .any, .any, .any, .sc (.int .u64), .sc (.int .u64), .any, .sc (.int .u64), .sc (.int .u64), .any, .any, .any, .any, .any, .any, .any, .any, .any, .any, .any, .any, .any, .any, .any, .any, .any, .any, .any, .any, .any, .any, .any, .any, .any, .any, .any, .any, .any, .any, .any, .any, .any, .any, .any, .any, .any, .any, .any, .any, .any, .any, .any, .any, .any, .any, .any, .any, .any, .any, .any, .any, .any, .any, .any, .any, .any, .any, .any, .any, .any, .any, .any, .any, .any, .any, .any, .any, .any, .any, .any, .any, .any, .any, .any, .any, .any, .any, .any, .any, .any, .any, .any, .any, .any, .any, .any, .any, .any, .any, .any, .any, .any, .any, .any, .any, .any, .any, .any, .any, .any, .any, .any, .any, .any, .any, .any, .any, .any, .any, .any, .any, .any, .any, .any, .any], []⟩]
def lc_bits_Div64_24 (N : Nat) : LC := mkLC p_bits_Div64_24 h_bits_Div64_24 x_bits_Div64_24 (bits_Div64_L24 N)
def s_bits_Div64 (N : Nat) : List (Nat × LC) := [(17, lc_bits_Div64_17 N), (24, lc_bits_Div64_24 N)]
noncomputable def e_bits_Div64 (N : Nat) : Env := mkEnv Try.prog o_bits_LeadingZeros64 (s_bits_Div64 N) N
theorem k_bits_Div64_17 (N : Nat) : LCOK (e_bits_Div64 N) 12 (loopAt Try.prog 47 0) (lc_bits_Div64_17 N) := mkLC_ok (by kernel_rfl) (by kernel_rfl) (fun F x => by kernel_rfl)
theorem k_bits_Div64_24 (N : Nat) : LCOK (e_bits_Div64 N) 12 (loopAt Try.prog 47 1) (lc_bits_Div64_24 N) := mkLC_ok (by kernel_rfl) (by kernel_rfl) (fun F x => by kernel_rfl)
theorem q_bits_Div64 (N : Nat) : LoopsFor (e_bits_Div64 N) Try.prog 47 2 := ⟨by kernel_rfl, fun j hj => match j, hj with
  | 0, _ => ⟨lc_bits_Div64_17 N, by kernel_rfl, k_bits_Div64_17 N⟩
  | 1, _ => ⟨lc_bits_Div64_24 N, by kernel_rfl, k_bits_Div64_24 N⟩
  | _ + 2, h => absurd h (by omega)⟩
def c_bits_Div64 : FC := mkF [.sc (.int .u64), .sc (.int .u64), .sc (.int .u64)] [.sc (.int .u64), .sc (.int .u64)] bits_Div64
theorem t_bits_Div64 (N : Nat) : FCOK Try.prog N 47 c_bits_Div64 := fun_ok facts (ok_bits_LeadingZeros64 N) (by kernel_rfl) (by kernel_rfl) (q_bits_Div64 N) (fun t => by kernel_rfl)
def o_bits_Div64 : List (Nat × FC) := (47, c_bits_Div64) :: o_bits_LeadingZeros64
theorem ok_bits_Div64 (N : Nat) : OrcOK Try.prog o_bits_Div64 N := orc_cons (t_bits_Div64 N) (ok_bits_LeadingZeros64 N)
def s_wide_Div (_ : Nat) : List (Nat × LC) := []
noncomputable def e_wide_Div (N : Nat) : Env := mkEnv Try.prog o_bits_Div64 (s_wide_Div N) N
theorem q_wide_Div (N : Nat) : LoopsFor (e_wide_Div N) Try.prog 24 0 := ⟨by kernel_rfl, fun j hj => match j, hj with
  | _ + 0, h => absurd h (by omega)⟩
def c_wide_Div : FC := mkF [.agg [.int .u64, .int .u64], .sc (.int .u64)] [.agg [.int .u64, .int .u64], .sc (.int .u64)] wide_Div
theorem t_wide_Div (N : Nat) : FCOK Try.prog N 24 c_wide_Div := fun_ok facts (ok_bits_Div64 N) (by kernel_rfl) (by kernel_rfl) (q_wide_Div N) (fun t => by kernel_rfl)
def o_wide_Div : List (Nat × FC) := (24, c_wide_Div) :: o_bits_Div64
theorem ok_wide_Div (N : Nat) : OrcOK Try.prog o_wide_Div N := orc_cons (t_wide_Div N) (ok_bits_Div64 N)
def s_wide_muldiv (_ : Nat) : List (Nat × LC) := []
noncomputable def e_wide_muldiv (N : Nat) : Env := mkEnv Try.prog o_wide_Div (s_wide_muldiv N) N
theorem q_wide_muldiv (N : Nat) : LoopsFor (e_wide_muldiv N) Try.prog 45 0 := ⟨by kernel_rfl, fun j hj => match j, hj with
  | _ + 0, h => absurd h (by omega)⟩
def c_wide_muldiv : FC := mkF [.sc (.int .i64), .sc (.int .i64), .sc (.int .i64)] [.agg [.int .u64, .int .u64], .sc (.bool), .sc (.int .i64)] wide_muldiv
theorem t_wide_muldiv (N : Nat) : FCOK Try.prog N 45 c_wide_muldiv := fun_ok facts (ok_wide_Div N) (by kernel_rfl) (by kernel_rfl) (q_wide_muldiv N) (fun t => by kernel_rfl)
def o_wide_muldiv : List (Nat × FC) := (45, c_wide_muldiv) :: o_wide_Div
theorem ok_wide_muldiv (N : Nat) : OrcOK Try.prog o_wide_muldiv N := orc_cons (t_wide_muldiv N) (ok_wide_Div N)
def s_wide_told (_ : Nat) : List (Nat × LC) := []
noncomputable def e_wide_told (N : Nat) : Env := mkEnv Try.prog o_wide_muldiv (s_wide_told N) N
theorem q_wide_told (N : Nat) : LoopsFor (e_wide_told N) Try.prog 46 0 := ⟨by kernel_rfl, fun j hj => match j, hj with
  | _ + 0, h => absurd h (by omega)⟩
def c_wide_told : FC := mkF [.agg [.int .u64, .int .u64], .sc (.int .i64)] [.sc (.int .i64), .sc (.int .i64)] wide_told
theorem t_wide_told (N : Nat) : FCOK Try.prog N 46 c_wide_told := fun_ok facts (ok_wide_muldiv N) (by kernel_rfl) (by kernel_rfl) (q_wide_told N) (fun t => by kernel_rfl)
def o_wide_told : List (Nat × FC) := (46, c_wide_told) :: o_wide_muldiv
theorem ok_wide_told (N : Nat) : OrcOK Try.prog o_wide_told N := orc_cons (t_wide_told N) (ok_wide_muldiv N)
def s_wide_MulDiv (_ : Nat) : List (Nat × LC) := []
noncomputable def e_wide_MulDiv (N : Nat) : Env := mkEnv Try.prog o_wide_told (s_wide_MulDiv N) N
theorem q_wide_MulDiv (N : Nat) : LoopsFor (e_wide_MulDiv N) Try.prog 21 0 := ⟨by kernel_rfl, fun j hj => match j, hj with
  | _ + 0, h => absurd h (by omega)⟩
def c_wide_MulDiv : FC := mkF [.sc (.int .i64), .sc (.int .i64), .sc (.int .i64)] [.sc (.int .i64), .sc (.int .i64)] wide_MulDiv
theorem t_wide_MulDiv (N : Nat) : FCOK Try.prog N 21 c_wide_MulDiv := fun_ok facts (ok_wide_told N) (by kernel_rfl) (by kernel_rfl) (q_wide_MulDiv N) (fun t => by kernel_rfl)
def o_wide_MulDiv : List (Nat × FC) := (21, c_wide_MulDiv) :: o_wide_told
theorem ok_wide_MulDiv (N : Nat) : OrcOK Try.prog o_wide_MulDiv N := orc_cons (t_wide_MulDiv N) (ok_wide_told N)
def s_wide_MulDivUp (_ : Nat) : List (Nat × LC) := []
noncomputable def e_wide_MulDivUp (N : Nat) : Env := mkEnv Try.prog o_wide_MulDiv (s_wide_MulDivUp N) N
theorem q_wide_MulDivUp (N : Nat) : LoopsFor (e_wide_MulDivUp N) Try.prog 22 0 := ⟨by kernel_rfl, fun j hj => match j, hj with
  | _ + 0, h => absurd h (by omega)⟩
def c_wide_MulDivUp : FC := mkF [.sc (.int .i64), .sc (.int .i64), .sc (.int .i64)] [.sc (.int .i64), .sc (.int .i64)] wide_MulDivUp
theorem t_wide_MulDivUp (N : Nat) : FCOK Try.prog N 22 c_wide_MulDivUp := fun_ok facts (ok_wide_MulDiv N) (by kernel_rfl) (by kernel_rfl) (q_wide_MulDivUp N) (fun t => by kernel_rfl)
def o_wide_MulDivUp : List (Nat × FC) := (22, c_wide_MulDivUp) :: o_wide_MulDiv
theorem ok_wide_MulDivUp (N : Nat) : OrcOK Try.prog o_wide_MulDivUp N := orc_cons (t_wide_MulDivUp N) (ok_wide_MulDiv N)
def s_leatlaw02_works (_ : Nat) : List (Nat × LC) := []
noncomputable def e_leatlaw02_works (N : Nat) : Env := mkEnv Try.prog o_wide_MulDivUp (s_leatlaw02_works N) N
theorem q_leatlaw02_works (N : Nat) : LoopsFor (e_leatlaw02_works N) Try.prog 20 0 := ⟨by kernel_rfl, fun j hj => match j, hj with
  | _ + 0, h => absurd h (by omega)⟩
def c_leatlaw02_works : FC := mkF [] [.sc (.bool)] leatlaw02_works
theorem t_leatlaw02_works (N : Nat) : FCOK Try.prog N 20 c_leatlaw02_works := fun_ok facts (ok_wide_MulDivUp N) (by kernel_rfl) (by kernel_rfl) (q_leatlaw02_works N) (fun t => by kernel_rfl)
def o_leatlaw02_works : List (Nat × FC) := (20, c_leatlaw02_works) :: o_wide_MulDivUp
theorem ok_leatlaw02_works (N : Nat) : OrcOK Try.prog o_leatlaw02_works N := orc_cons (t_leatlaw02_works N) (ok_wide_MulDivUp N)
def p_leatref02_Sub_4 : List Pat := [.sl 0, .sl 1, .any, .any, .any, .sl 2, .sc (.int .i64), .sc (.int .i64), .any, .any, .any, .any, .any, .any, .any, .any, .any, .any, .any, .any, .any, .any, .any, .any, .any, .any, .any, .any, .any, .any, .any, .any, .any, .any, .any, .any, .any, .any, .any, .any]
def h_leatref02_Sub_4 : List HPat := [.ext 3 [.int .i64], .ext 3 [.int .i64], .rows 3 [.int .i64]]
def x_leatref02_Sub_4 : List XP := [⟨.exit 0, [.any, .any, .any, .any, .any, .sl 0, .any, .any, .any, .any, .any, .any, .any, .any, .any, .any, .any, .any, .any, .any, .any, .any, .any, .any, .any, .any, .any, .any, .any, .any, .any, .any, .any, .any, .any, .any, .any, .any, .any, .any], [.rows 3 [.int .i64]]⟩]
def lc_leatref02_Sub_4 (N : Nat) : LC := mkLC p_leatref02_Sub_4 h_leatref02_Sub_4 x_leatref02_Sub_4 (leatref02_Sub_L4 N)
def s_leatref02_Sub (N : Nat) : List (Nat × LC) := [(4, lc_leatref02_Sub_4 N)]
noncomputable def e_leatref02_Sub (N : Nat) : Env := mkEnv Try.prog o_leatlaw02_works (s_leatref02_Sub N) N
theorem k_leatref02_Sub_4 (N : Nat) : LCOK (e_leatref02_Sub N) 12 (loopAt Try.prog 48 0) (lc_leatref02_Sub_4 N) := mkLC_ok (by kernel_rfl) (by kernel_rfl) (fun F x => by kernel_rfl)
theorem q_leatref02_Sub (N : Nat) : LoopsFor (e_leatref02_Sub N) Try.prog 48 1 := ⟨by kernel_rfl, fun j hj => match j, hj with
  | 0, _ => ⟨lc_leatref02_Sub_4 N, by kernel_rfl, k_leatref02_Sub_4 N⟩
  | _ + 1, h => absurd h (by omega)⟩
def c_leatref02_Sub : FC := mkF [.row 3 [.int .i64], .row 3 [.int .i64]] [.row 3 [.int .i64]] leatref02_Sub
theorem t_leatref02_Sub (N : Nat) : FCOK Try.prog N 48 c_leatref02_Sub := fun_ok facts (ok_leatlaw02_works N) (by kernel_rfl) (by kernel_rfl) (q_leatref02_Sub N) (fun t => by kernel_rfl)
def o_leatref02_Sub : List (Nat × FC) := (48, c_leatref02_Sub) :: o_leatlaw02_works
theorem ok_leatref02_Sub (N : Nat) : OrcOK Try.prog o_leatref02_Sub N := orc_cons (t_leatref02_Sub N) (ok_leatlaw02_works N)
def p_leatref02_Div_4 : List Pat := [.sl 0, .sl 1, .any, .any, .any, .any, .sl 2, .sl 3, .sc (.int .i64), .any, .any, .any, .any, .any, .any, .any, .any, .any, .any, .any, .any, .any, .any, .any, .any, .any, .any, .any, .any, .any, .any, .any, .any, .any, .any, .any, .any, .any, .any]
def h_leatref02_Div_4 : List HPat := [.ext 3 [.int .i64], .ext 3 [.int .i64], .rows 3 [.int .i64], .rows 3 [.int .i64]]
def x_leatref02_Div_4 : List XP := [⟨.exit 0, [.any, .any, .any, .any, .any, .any, .sl 0, .sl 1, .any, .any, .any, .any, .any, .any, .any, .any, .any, .any, .any, .any, .any, .any, .any, .any, .any, .any, .any, .any, .any, .any, .any, .any, .any, .any, .any, .any, .any, .any, .any], [.rows 3 [.int .i64], .rows 3 [.int .i64]]⟩]
def lc_leatref02_Div_4 (N : Nat) : LC := mkLC p_leatref02_Div_4 h_leatref02_Div_4 x_leatref02_Div_4 (leatref02_Div_L4 N)
def s_leatref02_Div (N : Nat) : List (Nat × LC) := [(4, lc_leatref02_Div_4 N)]
noncomputable def e_leatref02_Div (N : Nat) : Env := mkEnv Try.prog o_leatref02_Sub (s_leatref02_Div N) N
theorem k_leatref02_Div_4 (N : Nat) : LCOK (e_leatref02_Div N) 12 (loopAt Try.prog 26 0) (lc_leatref02_Div_4 N) := mkLC_ok (by kernel_rfl) (by kernel_rfl) (fun F x => by kernel_rfl)
theorem q_leatref02_Div (N : Nat) : LoopsFor (e_leatref02_Div N) Try.prog 26 1 := ⟨by kernel_rfl, fun j hj => match j, hj with
  | 0, _ => ⟨lc_leatref02_Div_4 N, by kernel_rfl, k_leatref02_Div_4 N⟩
  | _ + 1, h => absurd h (by omega)⟩
def c_leatref02_Div : FC := mkF [.row 3 [.int .i64], .row 3 [.int .i64]] [.row 3 [.int .i64], .row 3 [.int .i64]] leatref02_Div
theorem t_leatref02_Div (N : Nat) : FCOK Try.prog N 26 c_leatref02_Div := fun_ok facts (ok_leatref02_Sub N) (by kernel_rfl) (by kernel_rfl) (q_leatref02_Div N) (fun t => by kernel_rfl)
def o_leatref02_Div : List (Nat × FC) := (26, c_leatref02_Div) :: o_leatref02_Sub
theorem ok_leatref02_Div (N : Nat) : OrcOK Try.prog o_leatref02_Div N := orc_cons (t_leatref02_Div N) (ok_leatref02_Sub N)
def s_leatref02_MulDiv (_ : Nat) : List (Nat × LC) := []
noncomputable def e_leatref02_MulDiv (N : Nat) : Env := mkEnv Try.prog o_leatref02_Div (s_leatref02_MulDiv N) N
theorem q_leatref02_MulDiv (N : Nat) : LoopsFor (e_leatref02_MulDiv N) Try.prog 23 0 := ⟨by kernel_rfl, fun j hj => match j, hj with
  | _ + 0, h => absurd h (by omega)⟩
def c_leatref02_MulDiv : FC := mkF [.sc (.int .i64), .sc (.int .i64), .sc (.int .i64), .sc (.bool)] [.sc (.int .i64), .sc (.int .i64)] leatref02_MulDiv
theorem t_leatref02_MulDiv (N : Nat) : FCOK Try.prog N 23 c_leatref02_MulDiv := fun_ok facts (ok_leatref02_Div N) (by kernel_rfl) (by kernel_rfl) (q_leatref02_MulDiv N) (fun t => by kernel_rfl)
def o_leatref02_MulDiv : List (Nat × FC) := (23, c_leatref02_MulDiv) :: o_leatref02_Div
theorem ok_leatref02_MulDiv (N : Nat) : OrcOK Try.prog o_leatref02_MulDiv N := orc_cons (t_leatref02_MulDiv N) (ok_leatref02_Div N)
def s_leatlaw02_WideMulDivs (_ : Nat) : List (Nat × LC) := []
noncomputable def e_leatlaw02_WideMulDivs (N : Nat) : Env := mkEnv Try.prog o_leatref02_MulDiv (s_leatlaw02_WideMulDivs N) N
theorem q_leatlaw02_WideMulDivs (N : Nat) : LoopsFor (e_leatlaw02_WideMulDivs N) Try.prog 4 0 := ⟨by kernel_rfl, fun j hj => match j, hj with
  | _ + 0, h => absurd h (by omega)⟩
theorem okL_leatlaw02_WideMulDivs (N : Nat) : OrcOK Try.prog o_leatref02_MulDiv N := ok_leatref02_MulDiv N
theorem w_leatlaw02_WideMulDivs (N : Nat) (x : RT [.sc (.int .i64), .sc (.int .i64), .sc (.int .i64)]) : uncR [.sc (.int .i64), .sc (.int .i64), .sc (.int .i64)] (leatlaw02_WideMulDivs N) x = evFn (e_leatlaw02_WideMulDivs N) 13 4 (encA 0 [.sc (.int .i64), .sc (.int .i64), .sc (.int .i64)] x).1 (encA 0 [.sc (.int .i64), .sc (.int .i64), .sc (.int .i64)] x).2 (decR [.sc .bool]) := by kernel_rfl
def s_leatlaw02_WideBack (_ : Nat) : List (Nat × LC) := []
noncomputable def e_leatlaw02_WideBack (N : Nat) : Env := mkEnv Try.prog o_leatref02_MulDiv (s_leatlaw02_WideBack N) N
theorem q_leatlaw02_WideBack (N : Nat) : LoopsFor (e_leatlaw02_WideBack N) Try.prog 5 0 := ⟨by kernel_rfl, fun j hj => match j, hj with
  | _ + 0, h => absurd h (by omega)⟩
theorem okL_leatlaw02_WideBack (N : Nat) : OrcOK Try.prog o_leatref02_MulDiv N := ok_leatref02_MulDiv N
theorem w_leatlaw02_WideBack (N : Nat) (x : RT [.sc (.int .u64), .sc (.int .u64), .agg [.int .u64, .int .u64]]) : uncR [.sc (.int .u64), .sc (.int .u64), .agg [.int .u64, .int .u64]] (leatlaw02_WideBack N) x = evFn (e_leatlaw02_WideBack N) 13 5 (encA 0 [.sc (.int .u64), .sc (.int .u64), .agg [.int .u64, .int .u64]] x).1 (encA 0 [.sc (.int .u64), .sc (.int .u64), .agg [.int .u64, .int .u64]] x).2 (decR [.sc .bool]) := by kernel_rfl
def p_wide_Root_3 : List Pat := [.any, .ptr 0 0, .any, .sc (.int .u64), .sc (.int .i64), .any, .any, .any, .any, .any, .any, .any, .any, .any, .any, .any, .any, .any, .any, .any, .any, .any]
def h_wide_Root_3 : List HPat := [.cells [.sc (.int .u64), .sc (.int .u64)]]
def x_wide_Root_3 : List XP := [⟨.exit 0, [.any, .any, .any, .sc (.int .u64), .any, .any, .any, .any, .any, .any, .any, .any, .any, .any, .any, .any, .any, .any, .any, .any, .any, .any], []⟩]
def lc_wide_Root_3 (N : Nat) : LC := mkLC p_wide_Root_3 h_wide_Root_3 x_wide_Root_3 (wide_Root_L3 N)
def s_wide_Root (N : Nat) : List (Nat × LC) := [(3, lc_wide_Root_3 N)]
noncomputable def e_wide_Root (N : Nat) : Env := mkEnv Try.prog o_leatref02_MulDiv (s_wide_Root N) N
theorem k_wide_Root_3 (N : Nat) : LCOK (e_wide_Root N) 12 (loopAt Try.prog 25 0) (lc_wide_Root_3 N) := mkLC_ok (by kernel_rfl) (by kernel_rfl) (fun F x => by kernel_rfl)
theorem q_wide_Root (N : Nat) : LoopsFor (e_wide_Root N) Try.prog 25 1 := ⟨by kernel_rfl, fun j hj => match j, hj with
  | 0, _ => ⟨lc_wide_Root_3 N, by kernel_rfl, k_wide_Root_3 N⟩
  | _ + 1, h => absurd h (by omega)⟩
def c_wide_Root : FC := mkF [.agg [.int .u64, .int .u64]] [.sc (.int .u64)] wide_Root
theorem t_wide_Root (N : Nat) : FCOK Try.prog N 25 c_wide_Root := fun_ok facts (ok_leatref02_MulDiv N) (by kernel_rfl) (by kernel_rfl) (q_wide_Root N) (fun t => by kernel_rfl)
def o_wide_Root : List (Nat × FC) := (25, c_wide_Root) :: o_leatref02_MulDiv
theorem ok_wide_Root (N : Nat) : OrcOK Try.prog o_wide_Root N := orc_cons (t_wide_Root N) (ok_leatref02_MulDiv N)
def s_leatlaw02_WideDivs (_ : Nat) : List (Nat × LC) := []
noncomputable def e_leatlaw02_WideDivs (N : Nat) : Env := mkEnv Try.prog o_wide_Root (s_leatlaw02_WideDivs N) N
theorem q_leatlaw02_WideDivs (N : Nat) : LoopsFor (e_leatlaw02_WideDivs N) Try.prog 6 0 := ⟨by kernel_rfl, fun j hj => match j, hj with
  | _ + 0, h => absurd h (by omega)⟩
theorem okL_leatlaw02_WideDivs (N : Nat) : OrcOK Try.prog o_wide_Root N := ok_wide_Root N
theorem w_leatlaw02_WideDivs (N : Nat) (x : RT [.agg [.int .u64, .int .u64], .sc (.int .u64)]) : uncR [.agg [.int .u64, .int .u64], .sc (.int .u64)] (leatlaw02_WideDivs N) x = evFn (e_leatlaw02_WideDivs N) 13 6 (encA 0 [.agg [.int .u64, .int .u64], .sc (.int .u64)] x).1 (encA 0 [.agg [.int .u64, .int .u64], .sc (.int .u64)] x).2 (decR [.sc .bool]) := by kernel_rfl
def s_fixed_Ratio (_ : Nat) : List (Nat × LC) := []
noncomputable def e_fixed_Ratio (N : Nat) : Env := mkEnv Try.prog o_wide_Root (s_fixed_Ratio N) N
theorem q_fixed_Ratio (N : Nat) : LoopsFor (e_fixed_Ratio N) Try.prog 27 0 := ⟨by kernel_rfl, fun j hj => match j, hj with
  | _ + 0, h => absurd h (by omega)⟩
def c_fixed_Ratio : FC := mkF [.sc (.int .i64), .sc (.int .i64)] [.sc (.int .i64)] fixed_Ratio
theorem t_fixed_Ratio (N : Nat) : FCOK Try.prog N 27 c_fixed_Ratio := fun_ok facts (ok_wide_Root N) (by kernel_rfl) (by kernel_rfl) (q_fixed_Ratio N) (fun t => by kernel_rfl)
def o_fixed_Ratio : List (Nat × FC) := (27, c_fixed_Ratio) :: o_wide_Root
theorem ok_fixed_Ratio (N : Nat) : OrcOK Try.prog o_fixed_Ratio N := orc_cons (t_fixed_Ratio N) (ok_wide_Root N)
def s_leatref04_quo (_ : Nat) : List (Nat × LC) := []
noncomputable def e_leatref04_quo (N : Nat) : Env := mkEnv Try.prog o_fixed_Ratio (s_leatref04_quo N) N
theorem q_leatref04_quo (N : Nat) : LoopsFor (e_leatref04_quo N) Try.prog 49 0 := ⟨by kernel_rfl, fun j hj => match j, hj with
  | _ + 0, h => absurd h (by omega)⟩
def c_leatref04_quo : FC := mkF [.sc (.int .i64), .sc (.int .i64), .sc (.int .i64)] [.sc (.int .i64)] leatref04_quo
theorem t_leatref04_quo (N : Nat) : FCOK Try.prog N 49 c_leatref04_quo := fun_ok facts (ok_fixed_Ratio N) (by kernel_rfl) (by kernel_rfl) (q_leatref04_quo N) (fun t => by kernel_rfl)
def o_leatref04_quo : List (Nat × FC) := (49, c_leatref04_quo) :: o_fixed_Ratio
theorem ok_leatref04_quo (N : Nat) : OrcOK Try.prog o_leatref04_quo N := orc_cons (t_leatref04_quo N) (ok_fixed_Ratio N)
def s_leatref04_Ratio (_ : Nat) : List (Nat × LC) := []
noncomputable def e_leatref04_Ratio (N : Nat) : Env := mkEnv Try.prog o_leatref04_quo (s_leatref04_Ratio N) N
theorem q_leatref04_Ratio (N : Nat) : LoopsFor (e_leatref04_Ratio N) Try.prog 28 0 := ⟨by kernel_rfl, fun j hj => match j, hj with
  | _ + 0, h => absurd h (by omega)⟩
def c_leatref04_Ratio : FC := mkF [.sc (.int .i64), .sc (.int .i64)] [.sc (.int .i64)] leatref04_Ratio
theorem t_leatref04_Ratio (N : Nat) : FCOK Try.prog N 28 c_leatref04_Ratio := fun_ok facts (ok_leatref04_quo N) (by kernel_rfl) (by kernel_rfl) (q_leatref04_Ratio N) (fun t => by kernel_rfl)
def o_leatref04_Ratio : List (Nat × FC) := (28, c_leatref04_Ratio) :: o_leatref04_quo
theorem ok_leatref04_Ratio (N : Nat) : OrcOK Try.prog o_leatref04_Ratio N := orc_cons (t_leatref04_Ratio N) (ok_leatref04_quo N)
def s_sat_Clamp (_ : Nat) : List (Nat × LC) := []
noncomputable def e_sat_Clamp (N : Nat) : Env := mkEnv Try.prog o_leatref04_Ratio (s_sat_Clamp N) N
theorem q_sat_Clamp (N : Nat) : LoopsFor (e_sat_Clamp N) Try.prog 60 0 := ⟨by kernel_rfl, fun j hj => match j, hj with
  | _ + 0, h => absurd h (by omega)⟩
def c_sat_Clamp : FC := mkF [.sc (.int .i64), .sc (.int .i64), .sc (.int .i64)] [.sc (.int .i64)] sat_Clamp
theorem t_sat_Clamp (N : Nat) : FCOK Try.prog N 60 c_sat_Clamp := fun_ok facts (ok_leatref04_Ratio N) (by kernel_rfl) (by kernel_rfl) (q_sat_Clamp N) (fun t => by kernel_rfl)
def o_sat_Clamp : List (Nat × FC) := (60, c_sat_Clamp) :: o_leatref04_Ratio
theorem ok_sat_Clamp (N : Nat) : OrcOK Try.prog o_sat_Clamp N := orc_cons (t_sat_Clamp N) (ok_leatref04_Ratio N)
def s_fixed_share (_ : Nat) : List (Nat × LC) := []
noncomputable def e_fixed_share (N : Nat) : Env := mkEnv Try.prog o_sat_Clamp (s_fixed_share N) N
theorem q_fixed_share (N : Nat) : LoopsFor (e_fixed_share N) Try.prog 50 0 := ⟨by kernel_rfl, fun j hj => match j, hj with
  | _ + 0, h => absurd h (by omega)⟩
def c_fixed_share : FC := mkF [.sc (.int .i64)] [.sc (.int .i64)] fixed_share
theorem t_fixed_share (N : Nat) : FCOK Try.prog N 50 c_fixed_share := fun_ok facts (ok_sat_Clamp N) (by kernel_rfl) (by kernel_rfl) (q_fixed_share N) (fun t => by kernel_rfl)
def o_fixed_share : List (Nat × FC) := (50, c_fixed_share) :: o_sat_Clamp
theorem ok_fixed_share (N : Nat) : OrcOK Try.prog o_fixed_share N := orc_cons (t_fixed_share N) (ok_sat_Clamp N)
def s_sat_Div (_ : Nat) : List (Nat × LC) := []
noncomputable def e_sat_Div (N : Nat) : Env := mkEnv Try.prog o_fixed_share (s_sat_Div N) N
theorem q_sat_Div (N : Nat) : LoopsFor (e_sat_Div N) Try.prog 51 0 := ⟨by kernel_rfl, fun j hj => match j, hj with
  | _ + 0, h => absurd h (by omega)⟩
def c_sat_Div : FC := mkF [.sc (.int .i64), .sc (.int .i64)] [.sc (.int .i64)] sat_Div
theorem t_sat_Div (N : Nat) : FCOK Try.prog N 51 c_sat_Div := fun_ok facts (ok_fixed_share N) (by kernel_rfl) (by kernel_rfl) (q_sat_Div N) (fun t => by kernel_rfl)
def o_sat_Div : List (Nat × FC) := (51, c_sat_Div) :: o_fixed_share
theorem ok_sat_Div (N : Nat) : OrcOK Try.prog o_sat_Div N := orc_cons (t_sat_Div N) (ok_fixed_share N)
def s_sat_Mod (_ : Nat) : List (Nat × LC) := []
noncomputable def e_sat_Mod (N : Nat) : Env := mkEnv Try.prog o_sat_Div (s_sat_Mod N) N
theorem q_sat_Mod (N : Nat) : LoopsFor (e_sat_Mod N) Try.prog 52 0 := ⟨by kernel_rfl, fun j hj => match j, hj with
  | _ + 0, h => absurd h (by omega)⟩
def c_sat_Mod : FC := mkF [.sc (.int .i64), .sc (.int .i64)] [.sc (.int .i64)] sat_Mod
theorem t_sat_Mod (N : Nat) : FCOK Try.prog N 52 c_sat_Mod := fun_ok facts (ok_sat_Div N) (by kernel_rfl) (by kernel_rfl) (q_sat_Mod N) (fun t => by kernel_rfl)
def o_sat_Mod : List (Nat × FC) := (52, c_sat_Mod) :: o_sat_Div
theorem ok_sat_Mod (N : Nat) : OrcOK Try.prog o_sat_Mod N := orc_cons (t_sat_Mod N) (ok_sat_Div N)
def s_fixed_Part (_ : Nat) : List (Nat × LC) := []
noncomputable def e_fixed_Part (N : Nat) : Env := mkEnv Try.prog o_sat_Mod (s_fixed_Part N) N
theorem q_fixed_Part (N : Nat) : LoopsFor (e_fixed_Part N) Try.prog 29 0 := ⟨by kernel_rfl, fun j hj => match j, hj with
  | _ + 0, h => absurd h (by omega)⟩
def c_fixed_Part : FC := mkF [.sc (.int .i64), .sc (.int .i64)] [.sc (.int .i64)] fixed_Part
theorem t_fixed_Part (N : Nat) : FCOK Try.prog N 29 c_fixed_Part := fun_ok facts (ok_sat_Mod N) (by kernel_rfl) (by kernel_rfl) (q_fixed_Part N) (fun t => by kernel_rfl)
def o_fixed_Part : List (Nat × FC) := (29, c_fixed_Part) :: o_sat_Mod
theorem ok_fixed_Part (N : Nat) : OrcOK Try.prog o_fixed_Part N := orc_cons (t_fixed_Part N) (ok_sat_Mod N)
def s_leatref04_Share (_ : Nat) : List (Nat × LC) := []
noncomputable def e_leatref04_Share (N : Nat) : Env := mkEnv Try.prog o_fixed_Part (s_leatref04_Share N) N
theorem q_leatref04_Share (N : Nat) : LoopsFor (e_leatref04_Share N) Try.prog 37 0 := ⟨by kernel_rfl, fun j hj => match j, hj with
  | _ + 0, h => absurd h (by omega)⟩
def c_leatref04_Share : FC := mkF [.sc (.int .i64)] [.sc (.int .i64)] leatref04_Share
theorem t_leatref04_Share (N : Nat) : FCOK Try.prog N 37 c_leatref04_Share := fun_ok facts (ok_fixed_Part N) (by kernel_rfl) (by kernel_rfl) (q_leatref04_Share N) (fun t => by kernel_rfl)
def o_leatref04_Share : List (Nat × FC) := (37, c_leatref04_Share) :: o_fixed_Part
theorem ok_leatref04_Share (N : Nat) : OrcOK Try.prog o_leatref04_Share N := orc_cons (t_leatref04_Share N) (ok_fixed_Part N)
def s_leatref04_Part (_ : Nat) : List (Nat × LC) := []
noncomputable def e_leatref04_Part (N : Nat) : Env := mkEnv Try.prog o_leatref04_Share (s_leatref04_Part N) N
theorem q_leatref04_Part (N : Nat) : LoopsFor (e_leatref04_Part N) Try.prog 30 0 := ⟨by kernel_rfl, fun j hj => match j, hj with
  | _ + 0, h => absurd h (by omega)⟩
def c_leatref04_Part : FC := mkF [.sc (.int .i64), .sc (.int .i64)] [.sc (.int .i64)] leatref04_Part
theorem t_leatref04_Part (N : Nat) : FCOK Try.prog N 30 c_leatref04_Part := fun_ok facts (ok_leatref04_Share N) (by kernel_rfl) (by kernel_rfl) (q_leatref04_Part N) (fun t => by kernel_rfl)
def o_leatref04_Part : List (Nat × FC) := (30, c_leatref04_Part) :: o_leatref04_Share
theorem ok_leatref04_Part (N : Nat) : OrcOK Try.prog o_leatref04_Part N := orc_cons (t_leatref04_Part N) (ok_leatref04_Share N)
def s_sat_end (_ : Nat) : List (Nat × LC) := []
noncomputable def e_sat_end (N : Nat) : Env := mkEnv Try.prog o_leatref04_Part (s_sat_end N) N
theorem q_sat_end (N : Nat) : LoopsFor (e_sat_end N) Try.prog 61 0 := ⟨by kernel_rfl, fun j hj => match j, hj with
  | _ + 0, h => absurd h (by omega)⟩
def c_sat_end : FC := mkF [.sc (.bool)] [.sc (.int .i64)] sat_end
theorem t_sat_end (N : Nat) : FCOK Try.prog N 61 c_sat_end := fun_ok facts (ok_leatref04_Part N) (by kernel_rfl) (by kernel_rfl) (q_sat_end N) (fun t => by kernel_rfl)
def o_sat_end : List (Nat × FC) := (61, c_sat_end) :: o_leatref04_Part
theorem ok_sat_end (N : Nat) : OrcOK Try.prog o_sat_end N := orc_cons (t_sat_end N) (ok_leatref04_Part N)
def s_sat_Sub (_ : Nat) : List (Nat × LC) := []
noncomputable def e_sat_Sub (N : Nat) : Env := mkEnv Try.prog o_sat_end (s_sat_Sub N) N
theorem q_sat_Sub (N : Nat) : LoopsFor (e_sat_Sub N) Try.prog 54 0 := ⟨by kernel_rfl, fun j hj => match j, hj with
  | _ + 0, h => absurd h (by omega)⟩
def c_sat_Sub : FC := mkF [.sc (.int .i64), .sc (.int .i64)] [.sc (.int .i64)] sat_Sub
theorem t_sat_Sub (N : Nat) : FCOK Try.prog N 54 c_sat_Sub := fun_ok facts (ok_sat_end N) (by kernel_rfl) (by kernel_rfl) (q_sat_Sub N) (fun t => by kernel_rfl)
def o_sat_Sub : List (Nat × FC) := (54, c_sat_Sub) :: o_sat_end
theorem ok_sat_Sub (N : Nat) : OrcOK Try.prog o_sat_Sub N := orc_cons (t_sat_Sub N) (ok_sat_end N)
def s_sat_Add (_ : Nat) : List (Nat × LC) := []
noncomputable def e_sat_Add (N : Nat) : Env := mkEnv Try.prog o_sat_Sub (s_sat_Add N) N
theorem q_sat_Add (N : Nat) : LoopsFor (e_sat_Add N) Try.prog 53 0 := ⟨by kernel_rfl, fun j hj => match j, hj with
  | _ + 0, h => absurd h (by omega)⟩
def c_sat_Add : FC := mkF [.sc (.int .i64), .sc (.int .i64)] [.sc (.int .i64)] sat_Add
theorem t_sat_Add (N : Nat) : FCOK Try.prog N 53 c_sat_Add := fun_ok facts (ok_sat_Sub N) (by kernel_rfl) (by kernel_rfl) (q_sat_Add N) (fun t => by kernel_rfl)
def o_sat_Add : List (Nat × FC) := (53, c_sat_Add) :: o_sat_Sub
theorem ok_sat_Add (N : Nat) : OrcOK Try.prog o_sat_Add N := orc_cons (t_sat_Add N) (ok_sat_Sub N)
def s_fixed_Toward (_ : Nat) : List (Nat × LC) := []
noncomputable def e_fixed_Toward (N : Nat) : Env := mkEnv Try.prog o_sat_Add (s_fixed_Toward N) N
theorem q_fixed_Toward (N : Nat) : LoopsFor (e_fixed_Toward N) Try.prog 32 0 := ⟨by kernel_rfl, fun j hj => match j, hj with
  | _ + 0, h => absurd h (by omega)⟩
def c_fixed_Toward : FC := mkF [.sc (.int .i64), .sc (.int .i64), .sc (.int .i64)] [.sc (.int .i64)] fixed_Toward
theorem t_fixed_Toward (N : Nat) : FCOK Try.prog N 32 c_fixed_Toward := fun_ok facts (ok_sat_Add N) (by kernel_rfl) (by kernel_rfl) (q_fixed_Toward N) (fun t => by kernel_rfl)
def o_fixed_Toward : List (Nat × FC) := (32, c_fixed_Toward) :: o_sat_Add
theorem ok_fixed_Toward (N : Nat) : OrcOK Try.prog o_fixed_Toward N := orc_cons (t_fixed_Toward N) (ok_sat_Add N)
def s_leatlaw04_works (_ : Nat) : List (Nat × LC) := []
noncomputable def e_leatlaw04_works (N : Nat) : Env := mkEnv Try.prog o_fixed_Toward (s_leatlaw04_works N) N
theorem q_leatlaw04_works (N : Nat) : LoopsFor (e_leatlaw04_works N) Try.prog 31 0 := ⟨by kernel_rfl, fun j hj => match j, hj with
  | _ + 0, h => absurd h (by omega)⟩
def c_leatlaw04_works : FC := mkF [] [.sc (.bool)] leatlaw04_works
theorem t_leatlaw04_works (N : Nat) : FCOK Try.prog N 31 c_leatlaw04_works := fun_ok facts (ok_fixed_Toward N) (by kernel_rfl) (by kernel_rfl) (q_leatlaw04_works N) (fun t => by kernel_rfl)
def o_leatlaw04_works : List (Nat × FC) := (31, c_leatlaw04_works) :: o_fixed_Toward
theorem ok_leatlaw04_works (N : Nat) : OrcOK Try.prog o_leatlaw04_works N := orc_cons (t_leatlaw04_works N) (ok_fixed_Toward N)
def s_leatlaw04_FixedShares (_ : Nat) : List (Nat × LC) := []
noncomputable def e_leatlaw04_FixedShares (N : Nat) : Env := mkEnv Try.prog o_leatlaw04_works (s_leatlaw04_FixedShares N) N
theorem q_leatlaw04_FixedShares (N : Nat) : LoopsFor (e_leatlaw04_FixedShares N) Try.prog 7 0 := ⟨by kernel_rfl, fun j hj => match j, hj with
  | _ + 0, h => absurd h (by omega)⟩
theorem okL_leatlaw04_FixedShares (N : Nat) : OrcOK Try.prog o_leatlaw04_works N := ok_leatlaw04_works N
theorem w_leatlaw04_FixedShares (N : Nat) (x : RT [.sc (.int .i64), .sc (.int .i64), .sc (.int .i64)]) : uncR [.sc (.int .i64), .sc (.int .i64), .sc (.int .i64)] (leatlaw04_FixedShares N) x = evFn (e_leatlaw04_FixedShares N) 13 7 (encA 0 [.sc (.int .i64), .sc (.int .i64), .sc (.int .i64)] x).1 (encA 0 [.sc (.int .i64), .sc (.int .i64), .sc (.int .i64)] x).2 (decR [.sc .bool]) := by kernel_rfl
def s_leatlaw04_FixedBetween (_ : Nat) : List (Nat × LC) := []
noncomputable def e_leatlaw04_FixedBetween (N : Nat) : Env := mkEnv Try.prog o_leatlaw04_works (s_leatlaw04_FixedBetween N) N
theorem q_leatlaw04_FixedBetween (N : Nat) : LoopsFor (e_leatlaw04_FixedBetween N) Try.prog 8 0 := ⟨by kernel_rfl, fun j hj => match j, hj with
  | _ + 0, h => absurd h (by omega)⟩
theorem okL_leatlaw04_FixedBetween (N : Nat) : OrcOK Try.prog o_leatlaw04_works N := ok_leatlaw04_works N
theorem w_leatlaw04_FixedBetween (N : Nat) (x : RT [.sc (.int .i64), .agg [.int .i64, .int .i64], .sc (.int .i64)]) : uncR [.sc (.int .i64), .agg [.int .i64, .int .i64], .sc (.int .i64)] (leatlaw04_FixedBetween N) x = evFn (e_leatlaw04_FixedBetween N) 13 8 (encA 0 [.sc (.int .i64), .agg [.int .i64, .int .i64], .sc (.int .i64)] x).1 (encA 0 [.sc (.int .i64), .agg [.int .i64, .int .i64], .sc (.int .i64)] x).2 (decR [.sc .bool]) := by kernel_rfl
def s_leatref01_Add (_ : Nat) : List (Nat × LC) := []
noncomputable def e_leatref01_Add (N : Nat) : Env := mkEnv Try.prog o_leatlaw04_works (s_leatref01_Add N) N
theorem q_leatref01_Add (N : Nat) : LoopsFor (e_leatref01_Add N) Try.prog 55 0 := ⟨by kernel_rfl, fun j hj => match j, hj with
  | _ + 0, h => absurd h (by omega)⟩
def c_leatref01_Add : FC := mkF [.sc (.int .i64), .sc (.int .i64)] [.sc (.int .i64)] leatref01_Add
theorem t_leatref01_Add (N : Nat) : FCOK Try.prog N 55 c_leatref01_Add := fun_ok facts (ok_leatlaw04_works N) (by kernel_rfl) (by kernel_rfl) (q_leatref01_Add N) (fun t => by kernel_rfl)
def o_leatref01_Add : List (Nat × FC) := (55, c_leatref01_Add) :: o_leatlaw04_works
theorem ok_leatref01_Add (N : Nat) : OrcOK Try.prog o_leatref01_Add N := orc_cons (t_leatref01_Add N) (ok_leatlaw04_works N)
def s_leatref01_Sub (_ : Nat) : List (Nat × LC) := []
noncomputable def e_leatref01_Sub (N : Nat) : Env := mkEnv Try.prog o_leatref01_Add (s_leatref01_Sub N) N
theorem q_leatref01_Sub (N : Nat) : LoopsFor (e_leatref01_Sub N) Try.prog 57 0 := ⟨by kernel_rfl, fun j hj => match j, hj with
  | _ + 0, h => absurd h (by omega)⟩
def c_leatref01_Sub : FC := mkF [.sc (.int .i64), .sc (.int .i64)] [.sc (.int .i64)] leatref01_Sub
theorem t_leatref01_Sub (N : Nat) : FCOK Try.prog N 57 c_leatref01_Sub := fun_ok facts (ok_leatref01_Add N) (by kernel_rfl) (by kernel_rfl) (q_leatref01_Sub N) (fun t => by kernel_rfl)
def o_leatref01_Sub : List (Nat × FC) := (57, c_leatref01_Sub) :: o_leatref01_Add
theorem ok_leatref01_Sub (N : Nat) : OrcOK Try.prog o_leatref01_Sub N := orc_cons (t_leatref01_Sub N) (ok_leatref01_Add N)
def s_leatref01_Neg (_ : Nat) : List (Nat × LC) := []
noncomputable def e_leatref01_Neg (N : Nat) : Env := mkEnv Try.prog o_leatref01_Sub (s_leatref01_Neg N) N
theorem q_leatref01_Neg (N : Nat) : LoopsFor (e_leatref01_Neg N) Try.prog 62 0 := ⟨by kernel_rfl, fun j hj => match j, hj with
  | _ + 0, h => absurd h (by omega)⟩
def c_leatref01_Neg : FC := mkF [.sc (.int .i64)] [.sc (.int .i64)] leatref01_Neg
theorem t_leatref01_Neg (N : Nat) : FCOK Try.prog N 62 c_leatref01_Neg := fun_ok facts (ok_leatref01_Sub N) (by kernel_rfl) (by kernel_rfl) (q_leatref01_Neg N) (fun t => by kernel_rfl)
def o_leatref01_Neg : List (Nat × FC) := (62, c_leatref01_Neg) :: o_leatref01_Sub
theorem ok_leatref01_Neg (N : Nat) : OrcOK Try.prog o_leatref01_Neg N := orc_cons (t_leatref01_Neg N) (ok_leatref01_Sub N)
def s_leatref01_Div (_ : Nat) : List (Nat × LC) := []
noncomputable def e_leatref01_Div (N : Nat) : Env := mkEnv Try.prog o_leatref01_Neg (s_leatref01_Div N) N
theorem q_leatref01_Div (N : Nat) : LoopsFor (e_leatref01_Div N) Try.prog 56 0 := ⟨by kernel_rfl, fun j hj => match j, hj with
  | _ + 0, h => absurd h (by omega)⟩
def c_leatref01_Div : FC := mkF [.sc (.int .i64), .sc (.int .i64)] [.sc (.int .i64)] leatref01_Div
theorem t_leatref01_Div (N : Nat) : FCOK Try.prog N 56 c_leatref01_Div := fun_ok facts (ok_leatref01_Neg N) (by kernel_rfl) (by kernel_rfl) (q_leatref01_Div N) (fun t => by kernel_rfl)
def o_leatref01_Div : List (Nat × FC) := (56, c_leatref01_Div) :: o_leatref01_Neg
theorem ok_leatref01_Div (N : Nat) : OrcOK Try.prog o_leatref01_Div N := orc_cons (t_leatref01_Div N) (ok_leatref01_Neg N)
def p_leatref04_Toward_3 : List Pat := [.sc (.int .i64), .sc (.int .i64), .sc (.int .i64), .any, .any, .any, .any, .sc (.int .i64), .sc (.int .i64), .any, .any, .any, .any, .any, .any, .any, .any, .any, .any, .any, .any, .any, .any, .any, .any]
def h_leatref04_Toward_3 : List HPat := []
def x_leatref04_Toward_3 : List XP := [⟨.exit 0, [.sc (.int .i64), .sc (.int .i64), .any, .any, .any, .any, .any, .sc (.int .i64), .any, .any, .any, .any, .any, .any, .any, .any, .any, .any, .any, .any, .any, .any, .any, .any, .any], []⟩]
def lc_leatref04_Toward_3 (N : Nat) : LC := mkLC p_leatref04_Toward_3 h_leatref04_Toward_3 x_leatref04_Toward_3 (leatref04_Toward_L3 N)
def s_leatref04_Toward (N : Nat) : List (Nat × LC) := [(3, lc_leatref04_Toward_3 N)]
noncomputable def e_leatref04_Toward (N : Nat) : Env := mkEnv Try.prog o_leatref01_Div (s_leatref04_Toward N) N
theorem k_leatref04_Toward_3 (N : Nat) : LCOK (e_leatref04_Toward N) 12 (loopAt Try.prog 33 0) (lc_leatref04_Toward_3 N) := mkLC_ok (by kernel_rfl) (by kernel_rfl) (fun F x => by kernel_rfl)
theorem q_leatref04_Toward (N : Nat) : LoopsFor (e_leatref04_Toward N) Try.prog 33 1 := ⟨by kernel_rfl, fun j hj => match j, hj with
  | 0, _ => ⟨lc_leatref04_Toward_3 N, by kernel_rfl, k_leatref04_Toward_3 N⟩
  | _ + 1, h => absurd h (by omega)⟩
def c_leatref04_Toward : FC := mkF [.sc (.int .i64), .sc (.int .i64), .sc (.int .i64)] [.sc (.int .i64)] leatref04_Toward
theorem t_leatref04_Toward (N : Nat) : FCOK Try.prog N 33 c_leatref04_Toward := fun_ok facts (ok_leatref01_Div N) (by kernel_rfl) (by kernel_rfl) (q_leatref04_Toward N) (fun t => by kernel_rfl)
def o_leatref04_Toward : List (Nat × FC) := (33, c_leatref04_Toward) :: o_leatref01_Div
theorem ok_leatref04_Toward (N : Nat) : OrcOK Try.prog o_leatref04_Toward N := orc_cons (t_leatref04_Toward N) (ok_leatref01_Div N)
def p_fixed_Halve_2 : List Pat := [.sc (.int .i64), .any, .any, .any, .any, .any, .any, .sc (.int .i64), .sc (.int .i64), .any, .any, .any, .any, .any]
def h_fixed_Halve_2 : List HPat := []
def x_fixed_Halve_2 : List XP := [⟨.exit 0, [.sc (.int .i64), .any, .any, .any, .any, .any, .any, .any, .any, .any, .any, .any, .any, .any], []⟩]
def lc_fixed_Halve_2 (N : Nat) : LC := mkLC p_fixed_Halve_2 h_fixed_Halve_2 x_fixed_Halve_2 (fixed_Halve_L2 N)
def s_fixed_Halve (N : Nat) : List (Nat × LC) := [(2, lc_fixed_Halve_2 N)]
noncomputable def e_fixed_Halve (N : Nat) : Env := mkEnv Try.prog o_leatref04_Toward (s_fixed_Halve N) N
theorem k_fixed_Halve_2 (N : Nat) : LCOK (e_fixed_Halve N) 12 (loopAt Try.prog 34 0) (lc_fixed_Halve_2 N) := mkLC_ok (by kernel_rfl) (by kernel_rfl) (fun F x => by kernel_rfl)
theorem q_fixed_Halve (N : Nat) : LoopsFor (e_fixed_Halve N) Try.prog 34 1 := ⟨by kernel_rfl, fun j hj => match j, hj with
  | 0, _ => ⟨lc_fixed_Halve_2 N, by kernel_rfl, k_fixed_Halve_2 N⟩
  | _ + 1, h => absurd h (by omega)⟩
def c_fixed_Halve : FC := mkF [.sc (.int .i64), .sc (.int .i64)] [.sc (.int .i64)] fixed_Halve
theorem t_fixed_Halve (N : Nat) : FCOK Try.prog N 34 c_fixed_Halve := fun_ok facts (ok_leatref04_Toward N) (by kernel_rfl) (by kernel_rfl) (q_fixed_Halve N) (fun t => by kernel_rfl)
def o_fixed_Halve : List (Nat × FC) := (34, c_fixed_Halve) :: o_leatref04_Toward
theorem ok_fixed_Halve (N : Nat) : OrcOK Try.prog o_fixed_Halve N := orc_cons (t_fixed_Halve N) (ok_leatref04_Toward N)
def p_leatref04_Halve_2 : List Pat := [.sc (.int .i64), .sc (.int .i64), .any, .any, .any, .sc (.int .i64), .any, .any, .any, .any, .any, .any, .any, .any, .any, .any, .any, .any]
def h_leatref04_Halve_2 : List HPat := []
def x_leatref04_Halve_2 : List XP := [⟨.exit 0, [.sc (.int .i64), .any, .any, .any, .any, .any, .any, .any, .any, .any, .any, .any, .any, .any, .any, .any, .any, .any], []⟩]
def lc_leatref04_Halve_2 (N : Nat) : LC := mkLC p_leatref04_Halve_2 h_leatref04_Halve_2 x_leatref04_Halve_2 (leatref04_Halve_L2 N)
def s_leatref04_Halve (N : Nat) : List (Nat × LC) := [(2, lc_leatref04_Halve_2 N)]
noncomputable def e_leatref04_Halve (N : Nat) : Env := mkEnv Try.prog o_fixed_Halve (s_leatref04_Halve N) N
theorem k_leatref04_Halve_2 (N : Nat) : LCOK (e_leatref04_Halve N) 12 (loopAt Try.prog 35 0) (lc_leatref04_Halve_2 N) := mkLC_ok (by kernel_rfl) (by kernel_rfl) (fun F x => by kernel_rfl)
theorem q_leatref04_Halve (N : Nat) : LoopsFor (e_leatref04_Halve N) Try.prog 35 1 := ⟨by kernel_rfl, fun j hj => match j, hj with
  | 0, _ => ⟨lc_leatref04_Halve_2 N, by kernel_rfl, k_leatref04_Halve_2 N⟩
  | _ + 1, h => absurd h (by omega)⟩
def c_leatref04_Halve : FC := mkF [.sc (.int .i64), .sc (.int .i64)] [.sc (.int .i64)] leatref04_Halve
theorem t_leatref04_Halve (N : Nat) : FCOK Try.prog N 35 c_leatref04_Halve := fun_ok facts (ok_fixed_Halve N) (by kernel_rfl) (by kernel_rfl) (q_leatref04_Halve N) (fun t => by kernel_rfl)
def o_leatref04_Halve : List (Nat × FC) := (35, c_leatref04_Halve) :: o_fixed_Halve
theorem ok_leatref04_Halve (N : Nat) : OrcOK Try.prog o_leatref04_Halve N := orc_cons (t_leatref04_Halve N) (ok_fixed_Halve N)
def s_leatlaw04_FixedSteps (_ : Nat) : List (Nat × LC) := []
noncomputable def e_leatlaw04_FixedSteps (N : Nat) : Env := mkEnv Try.prog o_leatref04_Halve (s_leatlaw04_FixedSteps N) N
theorem q_leatlaw04_FixedSteps (N : Nat) : LoopsFor (e_leatlaw04_FixedSteps N) Try.prog 9 0 := ⟨by kernel_rfl, fun j hj => match j, hj with
  | _ + 0, h => absurd h (by omega)⟩
theorem okL_leatlaw04_FixedSteps (N : Nat) : OrcOK Try.prog o_leatref04_Halve N := ok_leatref04_Halve N
theorem w_leatlaw04_FixedSteps (N : Nat) (x : RT [.sc (.int .i64), .sc (.int .i64), .sc (.int .i64)]) : uncR [.sc (.int .i64), .sc (.int .i64), .sc (.int .i64)] (leatlaw04_FixedSteps N) x = evFn (e_leatlaw04_FixedSteps N) 13 9 (encA 0 [.sc (.int .i64), .sc (.int .i64), .sc (.int .i64)] x).1 (encA 0 [.sc (.int .i64), .sc (.int .i64), .sc (.int .i64)] x).2 (decR [.sc .bool]) := by kernel_rfl
def s_fixed_Mul (_ : Nat) : List (Nat × LC) := []
noncomputable def e_fixed_Mul (N : Nat) : Env := mkEnv Try.prog o_leatref04_Halve (s_fixed_Mul N) N
theorem q_fixed_Mul (N : Nat) : LoopsFor (e_fixed_Mul N) Try.prog 36 0 := ⟨by kernel_rfl, fun j hj => match j, hj with
  | _ + 0, h => absurd h (by omega)⟩
def c_fixed_Mul : FC := mkF [.sc (.int .i64), .sc (.int .i64)] [.sc (.int .i64)] fixed_Mul
theorem t_fixed_Mul (N : Nat) : FCOK Try.prog N 36 c_fixed_Mul := fun_ok facts (ok_leatref04_Halve N) (by kernel_rfl) (by kernel_rfl) (q_fixed_Mul N) (fun t => by kernel_rfl)
def o_fixed_Mul : List (Nat × FC) := (36, c_fixed_Mul) :: o_leatref04_Halve
theorem ok_fixed_Mul (N : Nat) : OrcOK Try.prog o_fixed_Mul N := orc_cons (t_fixed_Mul N) (ok_leatref04_Halve N)
def s_fixed_Root (_ : Nat) : List (Nat × LC) := []
noncomputable def e_fixed_Root (N : Nat) : Env := mkEnv Try.prog o_fixed_Mul (s_fixed_Root N) N
theorem q_fixed_Root (N : Nat) : LoopsFor (e_fixed_Root N) Try.prog 38 0 := ⟨by kernel_rfl, fun j hj => match j, hj with
  | _ + 0, h => absurd h (by omega)⟩
def c_fixed_Root : FC := mkF [.sc (.int .i64)] [.sc (.int .i64)] fixed_Root
theorem t_fixed_Root (N : Nat) : FCOK Try.prog N 38 c_fixed_Root := fun_ok facts (ok_fixed_Mul N) (by kernel_rfl) (by kernel_rfl) (q_fixed_Root N) (fun t => by kernel_rfl)
def o_fixed_Root : List (Nat × FC) := (38, c_fixed_Root) :: o_fixed_Mul
theorem ok_fixed_Root (N : Nat) : OrcOK Try.prog o_fixed_Root N := orc_cons (t_fixed_Root N) (ok_fixed_Mul N)
def p_leatref04_Root_3 : List Pat := [.sc (.int .i64), .any, .any, .sc (.int .i64), .sc (.int .i64), .any, .any, .any, .any, .any, .any, .any, .any, .any, .any, .any, .any, .any, .any, .any, .any, .any, .any, .any, .any, .any]
def h_leatref04_Root_3 : List HPat := []
def x_leatref04_Root_3 : List XP := [⟨.exit 0, [.any, .any, .any, .sc (.int .i64), .any, .any, .any, .any, .any, .any, .any, .any, .any, .any, .any, .any, .any, .any, .any, .any, .any, .any, .any, .any, .any, .any], []⟩]
def lc_leatref04_Root_3 (N : Nat) : LC := mkLC p_leatref04_Root_3 h_leatref04_Root_3 x_leatref04_Root_3 (leatref04_Root_L3 N)
def s_leatref04_Root (N : Nat) : List (Nat × LC) := [(3, lc_leatref04_Root_3 N)]
noncomputable def e_leatref04_Root (N : Nat) : Env := mkEnv Try.prog o_fixed_Root (s_leatref04_Root N) N
theorem k_leatref04_Root_3 (N : Nat) : LCOK (e_leatref04_Root N) 12 (loopAt Try.prog 39 0) (lc_leatref04_Root_3 N) := mkLC_ok (by kernel_rfl) (by kernel_rfl) (fun F x => by kernel_rfl)
theorem q_leatref04_Root (N : Nat) : LoopsFor (e_leatref04_Root N) Try.prog 39 1 := ⟨by kernel_rfl, fun j hj => match j, hj with
  | 0, _ => ⟨lc_leatref04_Root_3 N, by kernel_rfl, k_leatref04_Root_3 N⟩
  | _ + 1, h => absurd h (by omega)⟩
def c_leatref04_Root : FC := mkF [.sc (.int .i64)] [.sc (.int .i64)] leatref04_Root
theorem t_leatref04_Root (N : Nat) : FCOK Try.prog N 39 c_leatref04_Root := fun_ok facts (ok_fixed_Root N) (by kernel_rfl) (by kernel_rfl) (q_leatref04_Root N) (fun t => by kernel_rfl)
def o_leatref04_Root : List (Nat × FC) := (39, c_leatref04_Root) :: o_fixed_Root
theorem ok_leatref04_Root (N : Nat) : OrcOK Try.prog o_leatref04_Root N := orc_cons (t_leatref04_Root N) (ok_fixed_Root N)
def s_leatlaw04_FixedMuls (_ : Nat) : List (Nat × LC) := []
noncomputable def e_leatlaw04_FixedMuls (N : Nat) : Env := mkEnv Try.prog o_leatref04_Root (s_leatlaw04_FixedMuls N) N
theorem q_leatlaw04_FixedMuls (N : Nat) : LoopsFor (e_leatlaw04_FixedMuls N) Try.prog 10 0 := ⟨by kernel_rfl, fun j hj => match j, hj with
  | _ + 0, h => absurd h (by omega)⟩
theorem okL_leatlaw04_FixedMuls (N : Nat) : OrcOK Try.prog o_leatref04_Root N := ok_leatref04_Root N
theorem w_leatlaw04_FixedMuls (N : Nat) (x : RT [.sc (.int .i64), .sc (.int .i64)]) : uncR [.sc (.int .i64), .sc (.int .i64)] (leatlaw04_FixedMuls N) x = evFn (e_leatlaw04_FixedMuls N) 13 10 (encA 0 [.sc (.int .i64), .sc (.int .i64)] x).1 (encA 0 [.sc (.int .i64), .sc (.int .i64)] x).2 (decR [.sc .bool]) := by kernel_rfl
end Go.Proofs.Ytfoickedejcffaa.W
