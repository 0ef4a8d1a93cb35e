/- The functions of the seat, as the evaluator tells them, each with its contract. Printed by genW.py. -/
import Derived.Test.YtfoickedejcffaaW0
import Derived.Test.YtfoickedejcffaaRows
namespace Go.Proofs.Ytfoickedejcffaa.W
open Go.Ev Go.RowKit
theorem facts : Facts Try.prog := ⟨by kernel_rfl, names_of (by kernel_rfl)⟩
def o_0 : List (Nat × FC) := []
theorem ok_0 (N : Nat) : OrcOK Try.prog o_0 N := orc_nil
def p_leatref02_Bits_3 : List Pat := [.sc (.int .u64), .sc (.int .i64), .any, .any, .any, .sl 0, .sc (.int .i64), .any, .any, .any, .any, .any, .any, .any, .any, .any, .any, .any, .any, .any, .any]
def h_leatref02_Bits_3 : List HPat := [.rows 3 [.int .i64]]
def x_leatref02_Bits_3 : List XP := [⟨.exit 0, [.any, .any, .any, .any, .any, .sl 0, .any, .any, .any, .any, .any, .any, .any, .any, .any, .any, .any, .any, .any, .any, .any], [.rows 3 [.int .i64]]⟩]
def lc_leatref02_Bits_3 (N : Nat) : LC := mkLC p_leatref02_Bits_3 h_leatref02_Bits_3 x_leatref02_Bits_3 (leatref02_Bits_L3 N)
def s_leatref02_Bits (N : Nat) : List (Nat × LC) := [(3, lc_leatref02_Bits_3 N)]
noncomputable def e_leatref02_Bits (N : Nat) : Env := mkEnv Try.prog o_0 (s_leatref02_Bits N) N
theorem k_leatref02_Bits_3 (N : Nat) : LCOK (e_leatref02_Bits N) 12 (loopAt Try.prog 12 0) (lc_leatref02_Bits_3 N) := mkLC_ok (by kernel_rfl) (by kernel_rfl) (fun F x => by kernel_rfl)
theorem q_leatref02_Bits (N : Nat) : LoopsFor (e_leatref02_Bits N) Try.prog 12 1 := ⟨by kernel_rfl, fun j hj => match j, hj with
  | 0, _ => ⟨lc_leatref02_Bits_3 N, by kernel_rfl, k_leatref02_Bits_3 N⟩
  | _ + 1, h => absurd h (by omega)⟩
def c_leatref02_Bits : FC := mkF [.sc (.int .u64), .sc (.int .i64)] [.row 3 [.int .i64]] leatref02_Bits
theorem t_leatref02_Bits (N : Nat) : FCOK Try.prog N 12 c_leatref02_Bits := fun_ok facts (ok_0 N) (by kernel_rfl) (by kernel_rfl) (q_leatref02_Bits N) (fun t => by kernel_rfl)
def o_leatref02_Bits : List (Nat × FC) := (12, c_leatref02_Bits) :: o_0
theorem ok_leatref02_Bits (N : Nat) : OrcOK Try.prog o_leatref02_Bits N := orc_cons (t_leatref02_Bits N) (ok_0 N)
def p_leatref02_Add_4 : List Pat := [.sl 0, .sl 1, .any, .any, .any, .sl 2, .sc (.int .i64), .sc (.int .i64), .any, .any, .any, .any, .any, .any, .any, .any, .any, .any, .any, .any, .any, .any, .any, .any, .any, .any, .any, .any, .any, .any, .any, .any, .any, .any, .any, .any, .any, .any, .any, .any, .any, .any, .any, .any, .any, .any, .any, .any, .any, .any, .any, .any, .any]
def h_leatref02_Add_4 : List HPat := [.ext 3 [.int .i64], .ext 3 [.int .i64], .rows 3 [.int .i64]]
def x_leatref02_Add_4 : List XP := [⟨.exit 0, [.any, .any, .any, .any, .any, .sl 0, .sc (.int .i64), .any, .any, .any, .any, .any, .any, .any, .any, .any, .any, .any, .any, .any, .any, .any, .any, .any, .any, .any, .any, .any, .any, .any, .any, .any, .any, .any, .any, .any, .any, .any, .any, .any, .any, .any, .any, .any, .any, .any, .any, .any, .any, .any, .any, .any, .any], [.rows 3 [.int .i64]]⟩]
def lc_leatref02_Add_4 (N : Nat) : LC := mkLC p_leatref02_Add_4 h_leatref02_Add_4 x_leatref02_Add_4 (leatref02_Add_L4 N)
def s_leatref02_Add (N : Nat) : List (Nat × LC) := [(4, lc_leatref02_Add_4 N)]
noncomputable def e_leatref02_Add (N : Nat) : Env := mkEnv Try.prog o_leatref02_Bits (s_leatref02_Add N) N
theorem k_leatref02_Add_4 (N : Nat) : LCOK (e_leatref02_Add N) 12 (loopAt Try.prog 14 0) (lc_leatref02_Add_4 N) := mkLC_ok (by kernel_rfl) (by kernel_rfl) (fun F x => by kernel_rfl)
theorem q_leatref02_Add (N : Nat) : LoopsFor (e_leatref02_Add N) Try.prog 14 1 := ⟨by kernel_rfl, fun j hj => match j, hj with
  | 0, _ => ⟨lc_leatref02_Add_4 N, by kernel_rfl, k_leatref02_Add_4 N⟩
  | _ + 1, h => absurd h (by omega)⟩
def c_leatref02_Add : FC := mkF [.row 3 [.int .i64], .row 3 [.int .i64]] [.row 3 [.int .i64]] leatref02_Add
theorem t_leatref02_Add (N : Nat) : FCOK Try.prog N 14 c_leatref02_Add := fun_ok facts (ok_leatref02_Bits N) (by kernel_rfl) (by kernel_rfl) (q_leatref02_Add N) (fun t => by kernel_rfl)
def o_leatref02_Add : List (Nat × FC) := (14, c_leatref02_Add) :: o_leatref02_Bits
theorem ok_leatref02_Add (N : Nat) : OrcOK Try.prog o_leatref02_Add N := orc_cons (t_leatref02_Add N) (ok_leatref02_Bits N)
def p_leatref02_Mul_3 : List Pat := [.sl 0, .sl 1, .any, .any, .any, .sl 2, .sc (.int .i64), .any, .any, .any, .any, .any, .any, .any, .any, .any, .any, .any, .any, .any, .any, .any, .any, .any, .any, .any]
def h_leatref02_Mul_3 : List HPat := [.ext 3 [.int .i64], .ext 3 [.int .i64], .rows 3 [.int .i64]]
def x_leatref02_Mul_3 : List XP := [⟨.exit 0, [.any, .any, .any, .any, .any, .sl 0, .any, .any, .any, .any, .any, .any, .any, .any, .any, .any, .any, .any, .any, .any, .any, .any, .any, .any, .any, .any], [.rows 3 [.int .i64]]⟩]
def lc_leatref02_Mul_3 (N : Nat) : LC := mkLC p_leatref02_Mul_3 h_leatref02_Mul_3 x_leatref02_Mul_3 (leatref02_Mul_L3 N)
def s_leatref02_Mul (N : Nat) : List (Nat × LC) := [(3, lc_leatref02_Mul_3 N)]
noncomputable def e_leatref02_Mul (N : Nat) : Env := mkEnv Try.prog o_leatref02_Add (s_leatref02_Mul N) N
theorem k_leatref02_Mul_3 (N : Nat) : LCOK (e_leatref02_Mul N) 12 (loopAt Try.prog 11 0) (lc_leatref02_Mul_3 N) := mkLC_ok (by kernel_rfl) (by kernel_rfl) (fun F x => by kernel_rfl)
theorem q_leatref02_Mul (N : Nat) : LoopsFor (e_leatref02_Mul N) Try.prog 11 1 := ⟨by kernel_rfl, fun j hj => match j, hj with
  | 0, _ => ⟨lc_leatref02_Mul_3 N, by kernel_rfl, k_leatref02_Mul_3 N⟩
  | _ + 1, h => absurd h (by omega)⟩
def c_leatref02_Mul : FC := mkF [.row 3 [.int .i64], .row 3 [.int .i64]] [.row 3 [.int .i64]] leatref02_Mul
theorem t_leatref02_Mul (N : Nat) : FCOK Try.prog N 11 c_leatref02_Mul := fun_ok facts (ok_leatref02_Add N) (by kernel_rfl) (by kernel_rfl) (q_leatref02_Mul N) (fun t => by kernel_rfl)
def o_leatref02_Mul : List (Nat × FC) := (11, c_leatref02_Mul) :: o_leatref02_Add
theorem ok_leatref02_Mul (N : Nat) : OrcOK Try.prog o_leatref02_Mul N := orc_cons (t_leatref02_Mul N) (ok_leatref02_Add N)
def c_bits_Add64 : FC := add64C
theorem t_bits_Add64 (N : Nat) : FCOK Try.prog N 40 c_bits_Add64 := add64_ok Try.func40 (by kernel_rfl) (by kernel_rfl) (by kernel_rfl) (by kernel_rfl)
def o_bits_Add64 : List (Nat × FC) := (40, c_bits_Add64) :: o_leatref02_Mul
theorem ok_bits_Add64 (N : Nat) : OrcOK Try.prog o_bits_Add64 N := orc_cons (t_bits_Add64 N) (ok_leatref02_Mul N)
def s_wide_Add (_ : Nat) : List (Nat × LC) := []
noncomputable def e_wide_Add (N : Nat) : Env := mkEnv Try.prog o_bits_Add64 (s_wide_Add N) N
theorem q_wide_Add (N : Nat) : LoopsFor (e_wide_Add N) Try.prog 13 0 := ⟨by kernel_rfl, fun j hj => match j, hj with
  | _ + 0, h => absurd h (by omega)⟩
def c_wide_Add : FC := mkF [.agg [.int .u64, .int .u64], .agg [.int .u64, .int .u64]] [.agg [.int .u64, .int .u64], .sc (.bool)] wide_Add
theorem t_wide_Add (N : Nat) : FCOK Try.prog N 13 c_wide_Add := fun_ok facts (ok_bits_Add64 N) (by kernel_rfl) (by kernel_rfl) (q_wide_Add N) (fun t => by kernel_rfl)
def o_wide_Add : List (Nat × FC) := (13, c_wide_Add) :: o_bits_Add64
theorem ok_wide_Add (N : Nat) : OrcOK Try.prog o_wide_Add N := orc_cons (t_wide_Add N) (ok_bits_Add64 N)
def s_leatref02_Wide (_ : Nat) : List (Nat × LC) := []
noncomputable def e_leatref02_Wide (N : Nat) : Env := mkEnv Try.prog o_wide_Add (s_leatref02_Wide N) N
theorem q_leatref02_Wide (N : Nat) : LoopsFor (e_leatref02_Wide N) Try.prog 41 0 := ⟨by kernel_rfl, fun j hj => match j, hj with
  | _ + 0, h => absurd h (by omega)⟩
def c_leatref02_Wide : FC := mkF [.sc (.int .u64), .sc (.int .u64)] [.row 3 [.int .i64]] leatref02_Wide
theorem t_leatref02_Wide (N : Nat) : FCOK Try.prog N 41 c_leatref02_Wide := fun_ok facts (ok_wide_Add N) (by kernel_rfl) (by kernel_rfl) (q_leatref02_Wide N) (fun t => by kernel_rfl)
def o_leatref02_Wide : List (Nat × FC) := (41, c_leatref02_Wide) :: o_wide_Add
theorem ok_leatref02_Wide (N : Nat) : OrcOK Try.prog o_leatref02_Wide N := orc_cons (t_leatref02_Wide N) (ok_wide_Add N)
def s_leatlaw02_bits (_ : Nat) : List (Nat × LC) := []
noncomputable def e_leatlaw02_bits (N : Nat) : Env := mkEnv Try.prog o_leatref02_Wide (s_leatlaw02_bits N) N
theorem q_leatlaw02_bits (N : Nat) : LoopsFor (e_leatlaw02_bits N) Try.prog 15 0 := ⟨by kernel_rfl, fun j hj => match j, hj with
  | _ + 0, h => absurd h (by omega)⟩
def c_leatlaw02_bits : FC := mkF [.agg [.int .u64, .int .u64]] [.row 3 [.int .i64]] leatlaw02_bits
theorem t_leatlaw02_bits (N : Nat) : FCOK Try.prog N 15 c_leatlaw02_bits := fun_ok facts (ok_leatref02_Wide N) (by kernel_rfl) (by kernel_rfl) (q_leatlaw02_bits N) (fun t => by kernel_rfl)
def o_leatlaw02_bits : List (Nat × FC) := (15, c_leatlaw02_bits) :: o_leatref02_Wide
theorem ok_leatlaw02_bits (N : Nat) : OrcOK Try.prog o_leatlaw02_bits N := orc_cons (t_leatlaw02_bits N) (ok_leatref02_Wide N)
def s_bits_Mul64 (_ : Nat) : List (Nat × LC) := []
noncomputable def e_bits_Mul64 (N : Nat) : Env := mkEnv Try.prog o_leatlaw02_bits (s_bits_Mul64 N) N
theorem q_bits_Mul64 (N : Nat) : LoopsFor (e_bits_Mul64 N) Try.prog 42 0 := ⟨by kernel_rfl, fun j hj => match j, hj with
  | _ + 0, h => absurd h (by omega)⟩
def c_bits_Mul64 : FC := mkF [.sc (.int .u64), .sc (.int .u64)] [.sc (.int .u64), .sc (.int .u64)] bits_Mul64
theorem t_bits_Mul64 (N : Nat) : FCOK Try.prog N 42 c_bits_Mul64 := fun_ok facts (ok_leatlaw02_bits N) (by kernel_rfl) (by kernel_rfl) (q_bits_Mul64 N) (fun t => by kernel_rfl)
def o_bits_Mul64 : List (Nat × FC) := (42, c_bits_Mul64) :: o_leatlaw02_bits
theorem ok_bits_Mul64 (N : Nat) : OrcOK Try.prog o_bits_Mul64 N := orc_cons (t_bits_Mul64 N) (ok_leatlaw02_bits N)
def s_wide_Mul (_ : Nat) : List (Nat × LC) := []
noncomputable def e_wide_Mul (N : Nat) : Env := mkEnv Try.prog o_bits_Mul64 (s_wide_Mul N) N
theorem q_wide_Mul (N : Nat) : LoopsFor (e_wide_Mul N) Try.prog 17 0 := ⟨by kernel_rfl, fun j hj => match j, hj with
  | _ + 0, h => absurd h (by omega)⟩
def c_wide_Mul : FC := mkF [.sc (.int .u64), .sc (.int .u64)] [.agg [.int .u64, .int .u64]] wide_Mul
theorem t_wide_Mul (N : Nat) : FCOK Try.prog N 17 c_wide_Mul := fun_ok facts (ok_bits_Mul64 N) (by kernel_rfl) (by kernel_rfl) (q_wide_Mul N) (fun t => by kernel_rfl)
def o_wide_Mul : List (Nat × FC) := (17, c_wide_Mul) :: o_bits_Mul64
theorem ok_wide_Mul (N : Nat) : OrcOK Try.prog o_wide_Mul N := orc_cons (t_wide_Mul N) (ok_bits_Mul64 N)
def p_leatref02_Cmp_2 : List Pat := [.sl 0, .sl 1, .any, .any, .any, .sc (.int .i64), .any, .any, .any, .any, .any, .any, .any, .any, .any, .any, .any, .any, .any, .any, .any, .any, .any, .any, .any, .any, .any, .any, .any, .any, .any, .any, .any, .any, .any, .any, .any, .any, .any, .any]
def h_leatref02_Cmp_2 : List HPat := [.ext 3 [.int .i64], .ext 3 [.int .i64]]
def x_leatref02_Cmp_2 : List XP := [⟨.ret, [.any, .any, .any, .any, .sc (.int .i64), .any, .any, .any, .any, .any, .any, .any, .any, .any, .any, .any, .any, .any, .any, .any, .any, .any, .any, .any, .any, .any, .any, .any, .any, .any, .any, .any, .any, .any, .any, .any, .any, .any, .any, .any], []⟩, ⟨.exit 0, [.any, .any, .any, .any, .any, .any, .any, .any, .any, .any, .any, .any, .any, .any, .any, .any, .any, .any, .any, .any, .any, .any, .any, .any, .any, .any, .any, .any, .any, .any, .any, .any, .any, .any, .any, .any, .any, .any, .any, .any], []⟩]
def lc_leatref02_Cmp_2 (N : Nat) : LC := mkLC p_leatref02_Cmp_2 h_leatref02_Cmp_2 x_leatref02_Cmp_2 (leatref02_Cmp_L2 N)
def s_leatref02_Cmp (N : Nat) : List (Nat × LC) := [(2, lc_leatref02_Cmp_2 N)]
noncomputable def e_leatref02_Cmp (N : Nat) : Env := mkEnv Try.prog o_wide_Mul (s_leatref02_Cmp N) N
theorem k_leatref02_Cmp_2 (N : Nat) : LCOK (e_leatref02_Cmp N) 12 (loopAt Try.prog 16 0) (lc_leatref02_Cmp_2 N) := mkLC_ok (by kernel_rfl) (by kernel_rfl) (fun F x => by kernel_rfl)
theorem q_leatref02_Cmp (N : Nat) : LoopsFor (e_leatref02_Cmp N) Try.prog 16 1 := ⟨by kernel_rfl, fun j hj => match j, hj with
  | 0, _ => ⟨lc_leatref02_Cmp_2 N, by kernel_rfl, k_leatref02_Cmp_2 N⟩
  | _ + 1, h => absurd h (by omega)⟩
def c_leatref02_Cmp : FC := mkF [.row 3 [.int .i64], .row 3 [.int .i64]] [.sc (.int .i64)] leatref02_Cmp
theorem t_leatref02_Cmp (N : Nat) : FCOK Try.prog N 16 c_leatref02_Cmp := fun_ok facts (ok_wide_Mul N) (by kernel_rfl) (by kernel_rfl) (q_leatref02_Cmp N) (fun t => by kernel_rfl)
def o_leatref02_Cmp : List (Nat × FC) := (16, c_leatref02_Cmp) :: o_wide_Mul
theorem ok_leatref02_Cmp (N : Nat) : OrcOK Try.prog o_leatref02_Cmp N := orc_cons (t_leatref02_Cmp N) (ok_wide_Mul N)
def p_leatref02_Num_3 : List Pat := [.sl 0, .sc (.int .i64), .any, .any, .any, .sc (.int .u64), .sc (.int .i64), .any, .any, .any, .any, .any, .any, .any, .any, .any, .any, .any, .any, .any, .any, .any, .any, .any, .any, .any, .any, .any, .any, .any, .any]
def h_leatref02_Num_3 : List HPat := [.ext 3 [.int .i64]]
def x_leatref02_Num_3 : List XP := [⟨.exit 0, [.any, .any, .any, .any, .any, .sc (.int .u64), .any, .any, .any, .any, .any, .any, .any, .any, .any, .any, .any, .any, .any, .any, .any, .any, .any, .any, .any, .any, .any, .any, .any, .any, .any], []⟩]
def lc_leatref02_Num_3 (N : Nat) : LC := mkLC p_leatref02_Num_3 h_leatref02_Num_3 x_leatref02_Num_3 (leatref02_Num_L3 N)
def s_leatref02_Num (N : Nat) : List (Nat × LC) := [(3, lc_leatref02_Num_3 N)]
noncomputable def e_leatref02_Num (N : Nat) : Env := mkEnv Try.prog o_leatref02_Cmp (s_leatref02_Num N) N
theorem k_leatref02_Num_3 (N : Nat) : LCOK (e_leatref02_Num N) 12 (loopAt Try.prog 18 0) (lc_leatref02_Num_3 N) := mkLC_ok (by kernel_rfl) (by kernel_rfl) (fun F x => by kernel_rfl)
theorem q_leatref02_Num (N : Nat) : LoopsFor (e_leatref02_Num N) Try.prog 18 1 := ⟨by kernel_rfl, fun j hj => match j, hj with
  | 0, _ => ⟨lc_leatref02_Num_3 N, by kernel_rfl, k_leatref02_Num_3 N⟩
  | _ + 1, h => absurd h (by omega)⟩
def c_leatref02_Num : FC := mkF [.row 3 [.int .i64], .sc (.int .i64)] [.sc (.int .u64)] leatref02_Num
theorem t_leatref02_Num (N : Nat) : FCOK Try.prog N 18 c_leatref02_Num := fun_ok facts (ok_leatref02_Cmp N) (by kernel_rfl) (by kernel_rfl) (q_leatref02_Num N) (fun t => by kernel_rfl)
def o_leatref02_Num : List (Nat × FC) := (18, c_leatref02_Num) :: o_leatref02_Cmp
theorem ok_leatref02_Num (N : Nat) : OrcOK Try.prog o_leatref02_Num N := orc_cons (t_leatref02_Num N) (ok_leatref02_Cmp N)
def s_cmp_isNaN_uint64 (_ : Nat) : List (Nat × LC) := []
noncomputable def e_cmp_isNaN_uint64 (N : Nat) : Env := mkEnv Try.prog o_leatref02_Num (s_cmp_isNaN_uint64 N) N
theorem q_cmp_isNaN_uint64 (N : Nat) : LoopsFor (e_cmp_isNaN_uint64 N) Try.prog 58 0 := ⟨by kernel_rfl, fun j hj => match j, hj with
  | _ + 0, h => absurd h (by omega)⟩
def c_cmp_isNaN_uint64 : FC := mkF [.sc (.int .u64)] [.sc (.bool)] cmp_isNaN_uint64
theorem t_cmp_isNaN_uint64 (N : Nat) : FCOK Try.prog N 58 c_cmp_isNaN_uint64 := fun_ok facts (ok_leatref02_Num N) (by kernel_rfl) (by kernel_rfl) (q_cmp_isNaN_uint64 N) (fun t => by kernel_rfl)
def o_cmp_isNaN_uint64 : List (Nat × FC) := (58, c_cmp_isNaN_uint64) :: o_leatref02_Num
theorem ok_cmp_isNaN_uint64 (N : Nat) : OrcOK Try.prog o_cmp_isNaN_uint64 N := orc_cons (t_cmp_isNaN_uint64 N) (ok_leatref02_Num N)
def s_cmp_Compare_uint64 (_ : Nat) : List (Nat × LC) := []
noncomputable def e_cmp_Compare_uint64 (N : Nat) : Env := mkEnv Try.prog o_cmp_isNaN_uint64 (s_cmp_Compare_uint64 N) N
theorem q_cmp_Compare_uint64 (N : Nat) : LoopsFor (e_cmp_Compare_uint64 N) Try.prog 44 0 := ⟨by kernel_rfl, fun j hj => match j, hj with
  | _ + 0, h => absurd h (by omega)⟩
def c_cmp_Compare_uint64 : FC := mkF [.sc (.int .u64), .sc (.int .u64)] [.sc (.int .i64)] cmp_Compare_uint64
theorem t_cmp_Compare_uint64 (N : Nat) : FCOK Try.prog N 44 c_cmp_Compare_uint64 := fun_ok facts (ok_cmp_isNaN_uint64 N) (by kernel_rfl) (by kernel_rfl) (q_cmp_Compare_uint64 N) (fun t => by kernel_rfl)
def o_cmp_Compare_uint64 : List (Nat × FC) := (44, c_cmp_Compare_uint64) :: o_cmp_isNaN_uint64
theorem ok_cmp_Compare_uint64 (N : Nat) : OrcOK Try.prog o_cmp_Compare_uint64 N := orc_cons (t_cmp_Compare_uint64 N) (ok_cmp_isNaN_uint64 N)
def p_cmp_Or_int_3 : List Pat := [.any, .any, .any, .sc (.int .i64), .any, .any, .sl 0, .sc (.int .i64), .sc (.int .i64), .any, .any, .any, .any, .any, .any, .any, .any, .any]
def h_cmp_Or_int_3 : List HPat := [.ext 3 [.int .i64]]
def x_cmp_Or_int_3 : List XP := [⟨.ret, [.any, .any, .sc (.int .i64), .any, .any, .any, .any, .any, .any, .any, .any, .any, .any, .any, .any, .any, .any, .any], []⟩, ⟨.exit 0, [.any, .any, .any, .sc (.int .i64), .any, .any, .any, .any, .any, .any, .any, .any, .any, .any, .any, .any, .any, .any], []⟩]
def lc_cmp_Or_int_3 (N : Nat) : LC := mkLC p_cmp_Or_int_3 h_cmp_Or_int_3 x_cmp_Or_int_3 (cmp_Or_int_L3 N)
def s_cmp_Or_int (N : Nat) : List (Nat × LC) := [(3, lc_cmp_Or_int_3 N)]
noncomputable def e_cmp_Or_int (N : Nat) : Env := mkEnv Try.prog o_cmp_Compare_uint64 (s_cmp_Or_int N) N
theorem k_cmp_Or_int_3 (N : Nat) : LCOK (e_cmp_Or_int N) 12 (loopAt Try.prog 43 0) (lc_cmp_Or_int_3 N) := mkLC_ok (by kernel_rfl) (by kernel_rfl) (fun F x => by kernel_rfl)
theorem q_cmp_Or_int (N : Nat) : LoopsFor (e_cmp_Or_int N) Try.prog 43 1 := ⟨by kernel_rfl, fun j hj => match j, hj with
  | 0, _ => ⟨lc_cmp_Or_int_3 N, by kernel_rfl, k_cmp_Or_int_3 N⟩
  | _ + 1, h => absurd h (by omega)⟩
def c_cmp_Or_int : FC := mkF [.row 3 [.int .i64]] [.sc (.int .i64)] cmp_Or_int
theorem t_cmp_Or_int (N : Nat) : FCOK Try.prog N 43 c_cmp_Or_int := fun_ok facts (ok_cmp_Compare_uint64 N) (by kernel_rfl) (by kernel_rfl) (q_cmp_Or_int N) (fun t => by kernel_rfl)
def o_cmp_Or_int : List (Nat × FC) := (43, c_cmp_Or_int) :: o_cmp_Compare_uint64
theorem ok_cmp_Or_int (N : Nat) : OrcOK Try.prog o_cmp_Or_int N := orc_cons (t_cmp_Or_int N) (ok_cmp_Compare_uint64 N)
def s_wide_Cmp (_ : Nat) : List (Nat × LC) := []
noncomputable def e_wide_Cmp (N : Nat) : Env := mkEnv Try.prog o_cmp_Or_int (s_wide_Cmp N) N
theorem q_wide_Cmp (N : Nat) : LoopsFor (e_wide_Cmp N) Try.prog 19 0 := ⟨by kernel_rfl, fun j hj => match j, hj with
  | _ + 0, h => absurd h (by omega)⟩
def c_wide_Cmp : FC := mkF [.agg [.int .u64, .int .u64], .agg [.int .u64, .int .u64]] [.sc (.int .i64)] wide_Cmp
theorem t_wide_Cmp (N : Nat) : FCOK Try.prog N 19 c_wide_Cmp := fun_ok facts (ok_cmp_Or_int N) (by kernel_rfl) (by kernel_rfl) (q_wide_Cmp N) (fun t => by kernel_rfl)
def o_wide_Cmp : List (Nat × FC) := (19, c_wide_Cmp) :: o_cmp_Or_int
theorem ok_wide_Cmp (N : Nat) : OrcOK Try.prog o_wide_Cmp N := orc_cons (t_wide_Cmp N) (ok_cmp_Or_int N)
def s_bits_Len64 (_ : Nat) : List (Nat × LC) := []
noncomputable def e_bits_Len64 (N : Nat) : Env := mkEnv Try.prog o_wide_Cmp (s_bits_Len64 N) N
theorem q_bits_Len64 (N : Nat) : LoopsFor (e_bits_Len64 N) Try.prog 63 0 := ⟨by kernel_rfl, fun j hj => match j, hj with
  | _ + 0, h => absurd h (by omega)⟩
def c_bits_Len64 : FC := mkF [.sc (.int .u64)] [.sc (.int .i64)] bits_Len64
theorem t_bits_Len64 (N : Nat) : FCOK Try.prog N 63 c_bits_Len64 := fun_ok facts (ok_wide_Cmp N) (by kernel_rfl) (by kernel_rfl) (q_bits_Len64 N) (fun t => by kernel_rfl)
def o_bits_Len64 : List (Nat × FC) := (63, c_bits_Len64) :: o_wide_Cmp
theorem ok_bits_Len64 (N : Nat) : OrcOK Try.prog o_bits_Len64 N := orc_cons (t_bits_Len64 N) (ok_wide_Cmp N)
def s_bits_LeadingZeros64 (_ : Nat) : List (Nat × LC) := []
noncomputable def e_bits_LeadingZeros64 (N : Nat) : Env := mkEnv Try.prog o_bits_Len64 (s_bits_LeadingZeros64 N) N
theorem q_bits_LeadingZeros64 (N : Nat) : LoopsFor (e_bits_LeadingZeros64 N) Try.prog 59 0 := ⟨by kernel_rfl, fun j hj => match j, hj with
  | _ + 0, h => absurd h (by omega)⟩
def c_bits_LeadingZeros64 : FC := mkF [.sc (.int .u64)] [.sc (.int .i64)] bits_LeadingZeros64
theorem t_bits_LeadingZeros64 (N : Nat) : FCOK Try.prog N 59 c_bits_LeadingZeros64 := fun_ok facts (ok_bits_Len64 N) (by kernel_rfl) (by kernel_rfl) (q_bits_LeadingZeros64 N) (fun t => by kernel_rfl)
def o_bits_LeadingZeros64 : List (Nat × FC) := (59, c_bits_LeadingZeros64) :: o_bits_Len64
theorem ok_bits_LeadingZeros64 (N : Nat) : OrcOK Try.prog o_bits_LeadingZeros64 N := orc_cons (t_bits_LeadingZeros64 N) (ok_bits_Len64 N)
def p_bits_Div64_17 : List Pat := [.any, .any, .sc (.int .u64), .any, .any, .any, .any, .any, .sc (.int .u64), .sc (.int .u64), .sc (.int .u64), .sc (.int .u64), .any, .sc (.int .u64), .sc (.int .u64), .sc (.int .u64), .sc (.int .u64), .any, .any, .any, .any, .any, .any, .any, .any, .any, .any, .any, .any, .any, .any, .any, .any, .any, .any, .any, .any, .any, .any, .any, .any, .any, .any, .any, .any, .any, .any, .any, .any, .any, .any, .any, .any, .any, .any, .any, .any, .any, .any, .any, .any, .any, .any, .any, .any, .any, .any, .any, .any, .any, .any, .any, .any, .any, .any, .any, .any, .any, .any, .any, .any, .any, .any, .any, .any, .any, .any, .any, .any, .any, .any, .any, .any, .any, .any, .any, .any, .any, .any, .any, .any, .any, .any, .any, .any, .any, .any, .any, .any, .any, .any, .any, .any, .any, .any, .any, .any, .any, .any, .any, .any, .any, .any, .any, .any, .any, .any, .any, .any, .any, .any, .any, .any, .any, .any]
def h_bits_Div64_17 : List HPat := []
def x_bits_Div64_17 : List XP := [⟨.exit 0, [.any, .any, .sc (.int .u64), .any, .any, .any, .any, .any, .sc (.int .u64), .sc (.int .u64), .sc (.int .u64), .sc (.int .u64), .any, .sc (.int .u64), .sc (.int .u64), .sc (.int .u64), .any, .any, .any, .any, .any, .any, .any, .any, .any, .any, .any, .any, .any, .any, .any, .any, .any, .any, .any, .any, .any, .any, .any, .any, .any, .any, .any, .any, .any, .any, .any, .any, .any, .any, .any, .any, .any, .any, .any, .any, .any, .any, .any, .any, .any, .any, .any, .any, .any, .any, .any, .any, .any, .any, .any, .any, .any, .any, .any, .any, .any, .any, .any, .any, .any, .any, .any, .any, .any, .any, .any, .any, .any, .any, .any, .any, .any, .any, .any, .any, .any, .any, .any, .any, .any, .any, .any, .any, .any, .any, .any, .any, .any, .any, .any, .any, .any, .any, .any, .any, .any, .any, .any, .any, .any, .any, .any, .any, .any, .any, .any, .any, .any, .any, .any, .any, .any, .any, .any], []⟩]
def lc_bits_Div64_17 (N : Nat) : LC := mkLC p_bits_Div64_17 h_bits_Div64_17 x_bits_Div64_17 (bits_Div64_L17 N)
def p_bits_Div64_24 : List Pat := [.any, .any, .sc (.int .u64), .any, .any, .any, .any, .any, .sc (.int .u64), .sc (.int .u64), .sc (.int .u64), .any, .any, .any, .sc (.int .u64), .sc (.int .u64), .sc (.int .u64), .sc (.int .u64), .sc (.int .u64), .any, .any, .any, .any, .any, .any, .any, .any, .any, .any, .any, .any, .any, .any, .any, .any, .any, .any, .any, .any, .any, .any, .any, .any, .any, .any, .any, .any, .any, .any, .any, .any, .any, .any, .any, .any, .any, .any, .any, .any, .any, .any, .any, .any, .any, .any, .any, .any, .any, .any, .any, .any, .any, .any, .any, .any, .any, .any, .any, .any, .any, .any, .any, .any, .any, .any, .any, .any, .any, .any, .any, .any, .any, .any, .any, .any, .any, .any, .any, .any, .any, .any, .any, .any, .any, .any, .any, .any, .any, .any, .any, .any, .any, .any, .any, .any, .any, .any, .any, .any, .any, .any, .any, .any, .any, .any, .any, .any, .any, .any, .any, .any, .any, .any, .any, .any]
def h_bits_Div64_24 : List HPat := []
def x_bits_Div64_24 : List XP := [⟨.exit 2, [.any, .any, .sc (.int .u64), .any, .any, .any, .any, .any, .sc (.int .u64), .any, .any, .any, .any, .any, .sc (.int .u64), .sc (.int .u64), .any, .sc (.int .u64), .sc (.int .u64), .any, .any, .any, .any, .any, .any, .any, .any, .any, .any, .any, .any, .any, .any, .any, .any, .any, .any, .any, .any, .any, .any, .any, .any, .any, .any, .any, .any, .any, .any, .any, .any, .any, .any, .any, .any, .any, .any, .any, .any, .any, .any, .any, .any, .any, .any, .any, .any, .any, .any, .any, .any, .any, .any, .any, .any, .any, .any, .any, .any, .any, .any, .any, .any, .any, .any, .any, .any, .any, .any, .any, .any, .any, .any, .any, .any, .any, .any, .any, .any, .any, .any, .any, .any, .any, .any, .any, .any, .any, .any, .any, .any, .any, .any, .any, .any, .any, .any, .any, .any, .any, .any, .any, .any, .any, .any, .any, .any, .any, .any, .any, .any, .any, .any, .any, .any], []⟩]
def lc_bits_Div64_24 (N : Nat) : LC := mkLC p_bits_Div64_24 h_bits_Div64_24 x_bits_Div64_24 (bits_Div64_L24 N)
def s_bits_Div64 (N : Nat) : List (Nat × LC) := [(17, lc_bits_Div64_17 N), (24, lc_bits_Div64_24 N)]
noncomputable def e_bits_Div64 (N : Nat) : Env := mkEnv Try.prog o_bits_LeadingZeros64 (s_bits_Div64 N) N
theorem k_bits_Div64_17 (N : Nat) : LCOK (e_bits_Div64 N) 12 (loopAt Try.prog 47 0) (lc_bits_Div64_17 N) := mkLC_ok (by kernel_rfl) (by kernel_rfl) (fun F x => by kernel_rfl)
theorem k_bits_Div64_24 (N : Nat) : LCOK (e_bits_Div64 N) 12 (loopAt Try.prog 47 1) (lc_bits_Div64_24 N) := mkLC_ok (by kernel_rfl) (by kernel_rfl) (fun F x => by kernel_rfl)
theorem q_bits_Div64 (N : Nat) : LoopsFor (e_bits_Div64 N) Try.prog 47 2 := ⟨by kernel_rfl, fun j hj => match j, hj with
  | 0, _ => ⟨lc_bits_Div64_17 N, by kernel_rfl, k_bits_Div64_17 N⟩
  | 1, _ => ⟨lc_bits_Div64_24 N, by kernel_rfl, k_bits_Div64_24 N⟩
  | _ + 2, h => absurd h (by omega)⟩
def c_bits_Div64 : FC := mkF [.sc (.int .u64), .sc (.int .u64), .sc (.int .u64)] [.sc (.int .u64), .sc (.int .u64)] bits_Div64
theorem t_bits_Div64 (N : Nat) : FCOK Try.prog N 47 c_bits_Div64 := fun_ok facts (ok_bits_LeadingZeros64 N) (by kernel_rfl) (by kernel_rfl) (q_bits_Div64 N) (fun t => by kernel_rfl)
def o_bits_Div64 : List (Nat × FC) := (47, c_bits_Div64) :: o_bits_LeadingZeros64
theorem ok_bits_Div64 (N : Nat) : OrcOK Try.prog o_bits_Div64 N := orc_cons (t_bits_Div64 N) (ok_bits_LeadingZeros64 N)
def s_wide_Div (_ : Nat) : List (Nat × LC) := []
noncomputable def e_wide_Div (N : Nat) : Env := mkEnv Try.prog o_bits_Div64 (s_wide_Div N) N
theorem q_wide_Div (N : Nat) : LoopsFor (e_wide_Div N) Try.prog 24 0 := ⟨by kernel_rfl, fun j hj => match j, hj with
  | _ + 0, h => absurd h (by omega)⟩
def c_wide_Div : FC := mkF [.agg [.int .u64, .int .u64], .sc (.int .u64)] [.agg [.int .u64, .int .u64], .sc (.int .u64)] wide_Div
theorem t_wide_Div (N : Nat) : FCOK Try.prog N 24 c_wide_Div := fun_ok facts (ok_bits_Div64 N) (by kernel_rfl) (by kernel_rfl) (q_wide_Div N) (fun t => by kernel_rfl)
def o_wide_Div : List (Nat × FC) := (24, c_wide_Div) :: o_bits_Div64
theorem ok_wide_Div (N : Nat) : OrcOK Try.prog o_wide_Div N := orc_cons (t_wide_Div N) (ok_bits_Div64 N)
def s_wide_muldiv (_ : Nat) : List (Nat × LC) := []
noncomputable def e_wide_muldiv (N : Nat) : Env := mkEnv Try.prog o_wide_Div (s_wide_muldiv N) N
theorem q_wide_muldiv (N : Nat) : LoopsFor (e_wide_muldiv N) Try.prog 45 0 := ⟨by kernel_rfl, fun j hj => match j, hj with
  | _ + 0, h => absurd h (by omega)⟩
def c_wide_muldiv : FC := mkF [.sc (.int .i64), .sc (.int .i64), .sc (.int .i64)] [.agg [.int .u64, .int .u64], .sc (.bool), .sc (.int .i64)] wide_muldiv
theorem t_wide_muldiv (N : Nat) : FCOK Try.prog N 45 c_wide_muldiv := fun_ok facts (ok_wide_Div N) (by kernel_rfl) (by kernel_rfl) (q_wide_muldiv N) (fun t => by kernel_rfl)
def o_wide_muldiv : List (Nat × FC) := (45, c_wide_muldiv) :: o_wide_Div
theorem ok_wide_muldiv (N : Nat) : OrcOK Try.prog o_wide_muldiv N := orc_cons (t_wide_muldiv N) (ok_wide_Div N)
def s_wide_told (_ : Nat) : List (Nat × LC) := []
noncomputable def e_wide_told (N : Nat) : Env := mkEnv Try.prog o_wide_muldiv (s_wide_told N) N
theorem q_wide_told (N : Nat) : LoopsFor (e_wide_told N) Try.prog 46 0 := ⟨by kernel_rfl, fun j hj => match j, hj with
  | _ + 0, h => absurd h (by omega)⟩
def c_wide_told : FC := mkF [.agg [.int .u64, .int .u64], .sc (.int .i64)] [.sc (.int .i64), .sc (.int .i64)] wide_told
theorem t_wide_told (N : Nat) : FCOK Try.prog N 46 c_wide_told := fun_ok facts (ok_wide_muldiv N) (by kernel_rfl) (by kernel_rfl) (q_wide_told N) (fun t => by kernel_rfl)
def o_wide_told : List (Nat × FC) := (46, c_wide_told) :: o_wide_muldiv
theorem ok_wide_told (N : Nat) : OrcOK Try.prog o_wide_told N := orc_cons (t_wide_told N) (ok_wide_muldiv N)
def s_wide_MulDiv (_ : Nat) : List (Nat × LC) := []
noncomputable def e_wide_MulDiv (N : Nat) : Env := mkEnv Try.prog o_wide_told (s_wide_MulDiv N) N
theorem q_wide_MulDiv (N : Nat) : LoopsFor (e_wide_MulDiv N) Try.prog 21 0 := ⟨by kernel_rfl, fun j hj => match j, hj with
  | _ + 0, h => absurd h (by omega)⟩
def c_wide_MulDiv : FC := mkF [.sc (.int .i64), .sc (.int .i64), .sc (.int .i64)] [.sc (.int .i64), .sc (.int .i64)] wide_MulDiv
theorem t_wide_MulDiv (N : Nat) : FCOK Try.prog N 21 c_wide_MulDiv := fun_ok facts (ok_wide_told N) (by kernel_rfl) (by kernel_rfl) (q_wide_MulDiv N) (fun t => by kernel_rfl)
def o_wide_MulDiv : List (Nat × FC) := (21, c_wide_MulDiv) :: o_wide_told
theorem ok_wide_MulDiv (N : Nat) : OrcOK Try.prog o_wide_MulDiv N := orc_cons (t_wide_MulDiv N) (ok_wide_told N)
def s_wide_MulDivUp (_ : Nat) : List (Nat × LC) := []
noncomputable def e_wide_MulDivUp (N : Nat) : Env := mkEnv Try.prog o_wide_MulDiv (s_wide_MulDivUp N) N
theorem q_wide_MulDivUp (N : Nat) : LoopsFor (e_wide_MulDivUp N) Try.prog 22 0 := ⟨by kernel_rfl, fun j hj => match j, hj with
  | _ + 0, h => absurd h (by omega)⟩
def c_wide_MulDivUp : FC := mkF [.sc (.int .i64), .sc (.int .i64), .sc (.int .i64)] [.sc (.int .i64), .sc (.int .i64)] wide_MulDivUp
theorem t_wide_MulDivUp (N : Nat) : FCOK Try.prog N 22 c_wide_MulDivUp := fun_ok facts (ok_wide_MulDiv N) (by kernel_rfl) (by kernel_rfl) (q_wide_MulDivUp N) (fun t => by kernel_rfl)
def o_wide_MulDivUp : List (Nat × FC) := (22, c_wide_MulDivUp) :: o_wide_MulDiv
theorem ok_wide_MulDivUp (N : Nat) : OrcOK Try.prog o_wide_MulDivUp N := orc_cons (t_wide_MulDivUp N) (ok_wide_MulDiv N)
def s_leatlaw02_works (_ : Nat) : List (Nat × LC) := []
noncomputable def e_leatlaw02_works (N : Nat) : Env := mkEnv Try.prog o_wide_MulDivUp (s_leatlaw02_works N) N
theorem q_leatlaw02_works (N : Nat) : LoopsFor (e_leatlaw02_works N) Try.prog 20 0 := ⟨by kernel_rfl, fun j hj => match j, hj with
  | _ + 0, h => absurd h (by omega)⟩
def c_leatlaw02_works : FC := mkF [] [.sc (.bool)] leatlaw02_works
theorem t_leatlaw02_works (N : Nat) : FCOK Try.prog N 20 c_leatlaw02_works := fun_ok facts (ok_wide_MulDivUp N) (by kernel_rfl) (by kernel_rfl) (q_leatlaw02_works N) (fun t => by kernel_rfl)
def o_leatlaw02_works : List (Nat × FC) := (20, c_leatlaw02_works) :: o_wide_MulDivUp
theorem ok_leatlaw02_works (N : Nat) : OrcOK Try.prog o_leatlaw02_works N := orc_cons (t_leatlaw02_works N) (ok_wide_MulDivUp N)
def s_leatlaw02_WideMuls (_ : Nat) : List (Nat × LC) := []
noncomputable def e_leatlaw02_WideMuls (N : Nat) : Env := mkEnv Try.prog o_leatlaw02_works (s_leatlaw02_WideMuls N) N
theorem q_leatlaw02_WideMuls (N : Nat) : LoopsFor (e_leatlaw02_WideMuls N) Try.prog 3 0 := ⟨by kernel_rfl, fun j hj => match j, hj with
  | _ + 0, h => absurd h (by omega)⟩
theorem okL_leatlaw02_WideMuls (N : Nat) : OrcOK Try.prog o_leatlaw02_works N := ok_leatlaw02_works N
theorem w_leatlaw02_WideMuls (N : Nat) (x : RT [.sc (.int .u64), .sc (.int .u64), .agg [.int .u64, .int .u64, .int .u64, .int .u64]]) : uncR [.sc (.int .u64), .sc (.int .u64), .agg [.int .u64, .int .u64, .int .u64, .int .u64]] (leatlaw02_WideMuls N) x = evFn (e_leatlaw02_WideMuls N) 13 3 (encA 0 [.sc (.int .u64), .sc (.int .u64), .agg [.int .u64, .int .u64, .int .u64, .int .u64]] x).1 (encA 0 [.sc (.int .u64), .sc (.int .u64), .agg [.int .u64, .int .u64, .int .u64, .int .u64]] x).2 (decR [.sc .bool]) := by kernel_rfl
end Go.Proofs.Ytfoickedejcffaa.W
