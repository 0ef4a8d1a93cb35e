/- The functions of the seat, as the evaluator tells them, each with its contract. Printed by genW.py. -/
import Derived.Test.YtdoiofdepmiejaaDoorW0
import Derived.Test.YtdoiofdepmiejaaDoorRows
set_option maxRecDepth 100000
namespace Go.Proofs.YtdoiofdepmiejaaDoor.W
open Go.Ev Go.RowKit
theorem facts : Facts Tryd.prog := ⟨by kernel_rfl, names_of (by kernel_rfl)⟩
def o_0 : List (Nat × FC) := []
theorem ok_0 (N : Nat) : OrcOK Tryd.prog o_0 N := orc_nil
def c_stats_numbers : FC := numC
theorem t_stats_numbers (N : Nat) : FCOK Tryd.prog N 25 c_stats_numbers := numC_ok N
def o_stats_numbers : List (Nat × FC) := (25, c_stats_numbers) :: o_0
theorem ok_stats_numbers (N : Nat) : OrcOK Tryd.prog o_stats_numbers N := orc_cons (t_stats_numbers N) (ok_0 N)
def c_strings_Repeat : FC := repC
theorem t_strings_Repeat (N : Nat) : FCOK Tryd.prog N 31 c_strings_Repeat := repC_ok N
def o_strings_Repeat : List (Nat × FC) := (31, c_strings_Repeat) :: o_stats_numbers
theorem ok_strings_Repeat (N : Nat) : OrcOK Tryd.prog o_strings_Repeat N := orc_cons (t_strings_Repeat N) (ok_stats_numbers N)
def c_slices_Sort_int64_int64 : FC := sortC
theorem t_slices_Sort_int64_int64 (N : Nat) : FCOK Tryd.prog N 34 c_slices_Sort_int64_int64 := sortC_ok N
def o_slices_Sort_int64_int64 : List (Nat × FC) := (34, c_slices_Sort_int64_int64) :: o_strings_Repeat
theorem ok_slices_Sort_int64_int64 (N : Nat) : OrcOK Tryd.prog o_slices_Sort_int64_int64 N := orc_cons (t_slices_Sort_int64_int64 N) (ok_strings_Repeat N)
def c_leatref41_Text : FC := textC
theorem t_leatref41_Text (N : Nat) : FCOK Tryd.prog N 46 c_leatref41_Text := textC_ok N
def o_leatref41_Text : List (Nat × FC) := (46, c_leatref41_Text) :: o_slices_Sort_int64_int64
theorem ok_leatref41_Text (N : Nat) : OrcOK Tryd.prog o_leatref41_Text N := orc_cons (t_leatref41_Text N) (ok_slices_Sort_int64_int64 N)
def p_leatref52_sorted_6 : List Pat := [.sl 0, .any, .any, .sl 1, .sc (.int .i64), .sc (.int .i64), .any, .any, .any, .any, .any, .any, .any, .any, .any, .any, .any, .any, .any, .any, .any, .any, .any, .any, .any, .any, .any, .any, .any, .any, .any, .any, .any, .any, .any, .any, .any, .any, .any, .any, .any, .any, .any, .any, .any]
def h_leatref52_sorted_6 : List HPat := [.ext 2 [.int .i64], .ext 2 [.int .i64]]
def x_leatref52_sorted_6 : List XP := [⟨.exit 2, [.sl 0, .any, .any, .sl 1, .sc (.int .i64), .sc (.int .i64), .any, .any, .any, .any, .any, .any, .any, .any, .any, .any, .any, .any, .any, .any, .any, .any, .any, .any, .any, .any, .any, .any, .any, .any, .any, .any, .any, .any, .any, .any, .any, .any, .any, .any, .any, .any, .any, .any, .any], [.ext 2 [.int .i64], .ext 2 [.int .i64]]⟩]
def lc_leatref52_sorted_6 (N : Nat) : LC := mkLC 0 p_leatref52_sorted_6 h_leatref52_sorted_6 x_leatref52_sorted_6 (leatref52_sorted_L6 N)
def p_leatref52_sorted_3 : List Pat := [.sl 0, .any, .any, .sl 1, .sc (.int .i64), .any, .any, .any, .any, .any, .any, .any, .any, .any, .any, .any, .any, .any, .any, .any, .any, .any, .any, .any, .any, .any, .any, .any, .any, .any, .any, .any, .any, .any, .any, .any, .any, .any, .any, .any, .any, .any, .any, .any, .any]
def h_leatref52_sorted_3 : List HPat := [.ext 2 [.int .i64], .ext 2 [.int .i64]]
def x_leatref52_sorted_3 : List XP := [⟨.exit 0, [.any, .any, .any, .sl 0, .any, .any, .any, .any, .any, .any, .any, .any, .any, .any, .any, .any, .any, .any, .any, .any, .any, .any, .any, .any, .any, .any, .any, .any, .any, .any, .any, .any, .any, .any, .any, .any, .any, .any, .any, .any, .any, .any, .any, .any, .any], [.ext 2 [.int .i64]]⟩]
def lc_leatref52_sorted_3 (N : Nat) : LC := mkLC 0 p_leatref52_sorted_3 h_leatref52_sorted_3 x_leatref52_sorted_3 (leatref52_sorted_L3 N)
def s_leatref52_sorted (N : Nat) : List (Nat × LC) := [(6, lc_leatref52_sorted_6 N), (3, lc_leatref52_sorted_3 N)]
noncomputable def e_leatref52_sorted (N : Nat) : Env := mkEnvX 0 [] Tryd.prog o_leatref41_Text (s_leatref52_sorted N) N
theorem k_leatref52_sorted_6 (N : Nat) : LCOK (e_leatref52_sorted N) 12 (loopAt Tryd.prog 22 1) (lc_leatref52_sorted_6 N) := mkLC_ok rfl (by kernel_rfl) (by kernel_rfl) (fun F x => by kernel_rfl)
theorem k_leatref52_sorted_3 (N : Nat) : LCOK (e_leatref52_sorted N) 12 (loopAt Tryd.prog 22 0) (lc_leatref52_sorted_3 N) := mkLC_ok rfl (by kernel_rfl) (by kernel_rfl) (fun F x => by kernel_rfl)
theorem q_leatref52_sorted (N : Nat) : LoopsFor (e_leatref52_sorted N) Tryd.prog 22 2 := loops_mk (by kernel_rfl) (fun j hj => match j, hj with
  | 0, _ => .inl ⟨lc_leatref52_sorted_3 N, by kernel_rfl, k_leatref52_sorted_3 N⟩
  | 1, _ => .inl ⟨lc_leatref52_sorted_6 N, by kernel_rfl, k_leatref52_sorted_6 N⟩
  | _ + 2, h => absurd h (by omega)) (fun _ => rfl)
def a_leatref52_sorted : List Pat := [.sl 0]
def b_leatref52_sorted : List HPat := [.ext 2 [.int .i64]]
def ra_leatref52_sorted : List Pat := [.sl 0]
def rb_leatref52_sorted : List HPat := [.ext 2 [.int .i64]]
def c_leatref52_sorted : FC := mkFCH 0 a_leatref52_sorted b_leatref52_sorted ra_leatref52_sorted rb_leatref52_sorted leatref52_sorted
theorem t_leatref52_sorted (N : Nat) : FCOK Tryd.prog N 22 c_leatref52_sorted := eff_ok facts (ok_leatref41_Text N) (by kernel_rfl) (by kernel_rfl) (q_leatref52_sorted N) (fun t => by kernel_rfl)
def o_leatref52_sorted : List (Nat × FC) := (22, c_leatref52_sorted) :: o_leatref41_Text
theorem ok_leatref52_sorted (N : Nat) : OrcOK Tryd.prog o_leatref52_sorted N := orc_cons (t_leatref52_sorted N) (ok_leatref41_Text N)
def p_leatref02_Bits_3 : List Pat := [.sc (.int .u64), .sc (.int .i64), .any, .any, .any, .sl 0, .sc (.int .i64), .any, .any, .any, .any, .any, .any, .any, .any, .any, .any, .any, .any, .any, .any]
def h_leatref02_Bits_3 : List HPat := [.rows 3 [.int .i64]]
def x_leatref02_Bits_3 : List XP := [⟨.exit 0, [.any, .any, .any, .any, .any, .sl 0, .any, .any, .any, .any, .any, .any, .any, .any, .any, .any, .any, .any, .any, .any, .any], [.rows 3 [.int .i64]]⟩]
def lc_leatref02_Bits_3 (N : Nat) : LC := mkLC 0 p_leatref02_Bits_3 h_leatref02_Bits_3 x_leatref02_Bits_3 (leatref02_Bits_L3 N)
def s_leatref02_Bits (N : Nat) : List (Nat × LC) := [(3, lc_leatref02_Bits_3 N)]
noncomputable def e_leatref02_Bits (N : Nat) : Env := mkEnvX 0 [] Tryd.prog o_leatref52_sorted (s_leatref02_Bits N) N
theorem k_leatref02_Bits_3 (N : Nat) : LCOK (e_leatref02_Bits N) 12 (loopAt Tryd.prog 37 0) (lc_leatref02_Bits_3 N) := mkLC_ok rfl (by kernel_rfl) (by kernel_rfl) (fun F x => by kernel_rfl)
theorem q_leatref02_Bits (N : Nat) : LoopsFor (e_leatref02_Bits N) Tryd.prog 37 1 := loops_mk (by kernel_rfl) (fun j hj => match j, hj with
  | 0, _ => .inl ⟨lc_leatref02_Bits_3 N, by kernel_rfl, k_leatref02_Bits_3 N⟩
  | _ + 1, h => absurd h (by omega)) (fun _ => rfl)
def c_leatref02_Bits : FC := mkF [.sc (.int .u64), .sc (.int .i64)] [.row 3 [.int .i64]] leatref02_Bits
theorem t_leatref02_Bits (N : Nat) : FCOK Tryd.prog N 37 c_leatref02_Bits := fun_ok facts (ok_leatref52_sorted N) (by kernel_rfl) (by kernel_rfl) (q_leatref02_Bits N) (fun t => by kernel_rfl)
def o_leatref02_Bits : List (Nat × FC) := (37, c_leatref02_Bits) :: o_leatref52_sorted
theorem ok_leatref02_Bits (N : Nat) : OrcOK Tryd.prog o_leatref02_Bits N := orc_cons (t_leatref02_Bits N) (ok_leatref52_sorted N)
def p_leatref02_Add_4 : List Pat := [.sl 0, .sl 1, .any, .any, .any, .sl 2, .sc (.int .i64), .sc (.int .i64), .any, .any, .any, .any, .any, .any, .any, .any, .any, .any, .any, .any, .any, .any, .any, .any, .any, .any, .any, .any, .any, .any, .any, .any, .any, .any, .any, .any, .any, .any, .any, .any, .any, .any, .any, .any, .any, .any, .any, .any, .any, .any, .any, .any, .any]
def h_leatref02_Add_4 : List HPat := [.ext 3 [.int .i64], .ext 3 [.int .i64], .rows 3 [.int .i64]]
def x_leatref02_Add_4 : List XP := [⟨.exit 0, [.any, .any, .any, .any, .any, .sl 0, .sc (.int .i64), .any, .any, .any, .any, .any, .any, .any, .any, .any, .any, .any, .any, .any, .any, .any, .any, .any, .any, .any, .any, .any, .any, .any, .any, .any, .any, .any, .any, .any, .any, .any, .any, .any, .any, .any, .any, .any, .any, .any, .any, .any, .any, .any, .any, .any, .any], [.rows 3 [.int .i64]]⟩]
def lc_leatref02_Add_4 (N : Nat) : LC := mkLC 0 p_leatref02_Add_4 h_leatref02_Add_4 x_leatref02_Add_4 (leatref02_Add_L4 N)
def s_leatref02_Add (N : Nat) : List (Nat × LC) := [(4, lc_leatref02_Add_4 N)]
noncomputable def e_leatref02_Add (N : Nat) : Env := mkEnvX 0 [] Tryd.prog o_leatref02_Bits (s_leatref02_Add N) N
theorem k_leatref02_Add_4 (N : Nat) : LCOK (e_leatref02_Add N) 12 (loopAt Tryd.prog 39 0) (lc_leatref02_Add_4 N) := mkLC_ok rfl (by kernel_rfl) (by kernel_rfl) (fun F x => by kernel_rfl)
theorem q_leatref02_Add (N : Nat) : LoopsFor (e_leatref02_Add N) Tryd.prog 39 1 := loops_mk (by kernel_rfl) (fun j hj => match j, hj with
  | 0, _ => .inl ⟨lc_leatref02_Add_4 N, by kernel_rfl, k_leatref02_Add_4 N⟩
  | _ + 1, h => absurd h (by omega)) (fun _ => rfl)
def c_leatref02_Add : FC := mkF [.row 3 [.int .i64], .row 3 [.int .i64]] [.row 3 [.int .i64]] leatref02_Add
theorem t_leatref02_Add (N : Nat) : FCOK Tryd.prog N 39 c_leatref02_Add := fun_ok facts (ok_leatref02_Bits N) (by kernel_rfl) (by kernel_rfl) (q_leatref02_Add N) (fun t => by kernel_rfl)
def o_leatref02_Add : List (Nat × FC) := (39, c_leatref02_Add) :: o_leatref02_Bits
theorem ok_leatref02_Add (N : Nat) : OrcOK Tryd.prog o_leatref02_Add N := orc_cons (t_leatref02_Add N) (ok_leatref02_Bits N)
def p_leatref02_Mul_3 : List Pat := [.sl 0, .sl 1, .any, .any, .any, .sl 2, .sc (.int .i64), .any, .any, .any, .any, .any, .any, .any, .any, .any, .any, .any, .any, .any, .any, .any, .any, .any, .any, .any]
def h_leatref02_Mul_3 : List HPat := [.ext 3 [.int .i64], .ext 3 [.int .i64], .rows 3 [.int .i64]]
def x_leatref02_Mul_3 : List XP := [⟨.exit 0, [.any, .any, .any, .any, .any, .sl 0, .any, .any, .any, .any, .any, .any, .any, .any, .any, .any, .any, .any, .any, .any, .any, .any, .any, .any, .any, .any], [.rows 3 [.int .i64]]⟩]
def lc_leatref02_Mul_3 (N : Nat) : LC := mkLC 0 p_leatref02_Mul_3 h_leatref02_Mul_3 x_leatref02_Mul_3 (leatref02_Mul_L3 N)
def s_leatref02_Mul (N : Nat) : List (Nat × LC) := [(3, lc_leatref02_Mul_3 N)]
noncomputable def e_leatref02_Mul (N : Nat) : Env := mkEnvX 0 [] Tryd.prog o_leatref02_Add (s_leatref02_Mul N) N
theorem k_leatref02_Mul_3 (N : Nat) : LCOK (e_leatref02_Mul N) 12 (loopAt Tryd.prog 36 0) (lc_leatref02_Mul_3 N) := mkLC_ok rfl (by kernel_rfl) (by kernel_rfl) (fun F x => by kernel_rfl)
theorem q_leatref02_Mul (N : Nat) : LoopsFor (e_leatref02_Mul N) Tryd.prog 36 1 := loops_mk (by kernel_rfl) (fun j hj => match j, hj with
  | 0, _ => .inl ⟨lc_leatref02_Mul_3 N, by kernel_rfl, k_leatref02_Mul_3 N⟩
  | _ + 1, h => absurd h (by omega)) (fun _ => rfl)
def c_leatref02_Mul : FC := mkF [.row 3 [.int .i64], .row 3 [.int .i64]] [.row 3 [.int .i64]] leatref02_Mul
theorem t_leatref02_Mul (N : Nat) : FCOK Tryd.prog N 36 c_leatref02_Mul := fun_ok facts (ok_leatref02_Add N) (by kernel_rfl) (by kernel_rfl) (q_leatref02_Mul N) (fun t => by kernel_rfl)
def o_leatref02_Mul : List (Nat × FC) := (36, c_leatref02_Mul) :: o_leatref02_Add
theorem ok_leatref02_Mul (N : Nat) : OrcOK Tryd.prog o_leatref02_Mul N := orc_cons (t_leatref02_Mul N) (ok_leatref02_Add N)
def p_leatref02_Cmp_2 : List Pat := [.sl 0, .sl 1, .any, .any, .any, .sc (.int .i64), .any, .any, .any, .any, .any, .any, .any, .any, .any, .any, .any, .any, .any, .any, .any, .any, .any, .any, .any, .any, .any, .any, .any, .any, .any, .any, .any, .any, .any, .any, .any, .any, .any, .any]
def h_leatref02_Cmp_2 : List HPat := [.ext 3 [.int .i64], .ext 3 [.int .i64]]
def x_leatref02_Cmp_2 : List XP := [⟨.ret, [.any, .any, .any, .any, .sc (.int .i64), .any, .any, .any, .any, .any, .any, .any, .any, .any, .any, .any, .any, .any, .any, .any, .any, .any, .any, .any, .any, .any, .any, .any, .any, .any, .any, .any, .any, .any, .any, .any, .any, .any, .any, .any], []⟩, ⟨.exit 0, [.any, .any, .any, .any, .any, .any, .any, .any, .any, .any, .any, .any, .any, .any, .any, .any, .any, .any, .any, .any, .any, .any, .any, .any, .any, .any, .any, .any, .any, .any, .any, .any, .any, .any, .any, .any, .any, .any, .any, .any], []⟩]
def lc_leatref02_Cmp_2 (N : Nat) : LC := mkLC 0 p_leatref02_Cmp_2 h_leatref02_Cmp_2 x_leatref02_Cmp_2 (leatref02_Cmp_L2 N)
def s_leatref02_Cmp (N : Nat) : List (Nat × LC) := [(2, lc_leatref02_Cmp_2 N)]
noncomputable def e_leatref02_Cmp (N : Nat) : Env := mkEnvX 0 [] Tryd.prog o_leatref02_Mul (s_leatref02_Cmp N) N
theorem k_leatref02_Cmp_2 (N : Nat) : LCOK (e_leatref02_Cmp N) 12 (loopAt Tryd.prog 38 0) (lc_leatref02_Cmp_2 N) := mkLC_ok rfl (by kernel_rfl) (by kernel_rfl) (fun F x => by kernel_rfl)
theorem q_leatref02_Cmp (N : Nat) : LoopsFor (e_leatref02_Cmp N) Tryd.prog 38 1 := loops_mk (by kernel_rfl) (fun j hj => match j, hj with
  | 0, _ => .inl ⟨lc_leatref02_Cmp_2 N, by kernel_rfl, k_leatref02_Cmp_2 N⟩
  | _ + 1, h => absurd h (by omega)) (fun _ => rfl)
def c_leatref02_Cmp : FC := mkF [.row 3 [.int .i64], .row 3 [.int .i64]] [.sc (.int .i64)] leatref02_Cmp
theorem t_leatref02_Cmp (N : Nat) : FCOK Tryd.prog N 38 c_leatref02_Cmp := fun_ok facts (ok_leatref02_Mul N) (by kernel_rfl) (by kernel_rfl) (q_leatref02_Cmp N) (fun t => by kernel_rfl)
def o_leatref02_Cmp : List (Nat × FC) := (38, c_leatref02_Cmp) :: o_leatref02_Mul
theorem ok_leatref02_Cmp (N : Nat) : OrcOK Tryd.prog o_leatref02_Cmp N := orc_cons (t_leatref02_Cmp N) (ok_leatref02_Mul N)
def p_leatref02_Sub_4 : List Pat := [.sl 0, .sl 1, .any, .any, .any, .sl 2, .sc (.int .i64), .sc (.int .i64), .any, .any, .any, .any, .any, .any, .any, .any, .any, .any, .any, .any, .any, .any, .any, .any, .any, .any, .any, .any, .any, .any, .any, .any, .any, .any, .any, .any, .any, .any, .any, .any]
def h_leatref02_Sub_4 : List HPat := [.ext 3 [.int .i64], .ext 3 [.int .i64], .rows 3 [.int .i64]]
def x_leatref02_Sub_4 : List XP := [⟨.exit 0, [.any, .any, .any, .any, .any, .sl 0, .any, .any, .any, .any, .any, .any, .any, .any, .any, .any, .any, .any, .any, .any, .any, .any, .any, .any, .any, .any, .any, .any, .any, .any, .any, .any, .any, .any, .any, .any, .any, .any, .any, .any], [.rows 3 [.int .i64]]⟩]
def lc_leatref02_Sub_4 (N : Nat) : LC := mkLC 0 p_leatref02_Sub_4 h_leatref02_Sub_4 x_leatref02_Sub_4 (leatref02_Sub_L4 N)
def s_leatref02_Sub (N : Nat) : List (Nat × LC) := [(4, lc_leatref02_Sub_4 N)]
noncomputable def e_leatref02_Sub (N : Nat) : Env := mkEnvX 0 [] Tryd.prog o_leatref02_Cmp (s_leatref02_Sub N) N
theorem k_leatref02_Sub_4 (N : Nat) : LCOK (e_leatref02_Sub N) 12 (loopAt Tryd.prog 57 0) (lc_leatref02_Sub_4 N) := mkLC_ok rfl (by kernel_rfl) (by kernel_rfl) (fun F x => by kernel_rfl)
theorem q_leatref02_Sub (N : Nat) : LoopsFor (e_leatref02_Sub N) Tryd.prog 57 1 := loops_mk (by kernel_rfl) (fun j hj => match j, hj with
  | 0, _ => .inl ⟨lc_leatref02_Sub_4 N, by kernel_rfl, k_leatref02_Sub_4 N⟩
  | _ + 1, h => absurd h (by omega)) (fun _ => rfl)
def c_leatref02_Sub : FC := mkF [.row 3 [.int .i64], .row 3 [.int .i64]] [.row 3 [.int .i64]] leatref02_Sub
theorem t_leatref02_Sub (N : Nat) : FCOK Tryd.prog N 57 c_leatref02_Sub := fun_ok facts (ok_leatref02_Cmp N) (by kernel_rfl) (by kernel_rfl) (q_leatref02_Sub N) (fun t => by kernel_rfl)
def o_leatref02_Sub : List (Nat × FC) := (57, c_leatref02_Sub) :: o_leatref02_Cmp
theorem ok_leatref02_Sub (N : Nat) : OrcOK Tryd.prog o_leatref02_Sub N := orc_cons (t_leatref02_Sub N) (ok_leatref02_Cmp N)
def p_leatref02_Div_4 : List Pat := [.sl 0, .sl 1, .any, .any, .any, .any, .sl 2, .sl 3, .sc (.int .i64), .any, .any, .any, .any, .any, .any, .any, .any, .any, .any, .any, .any, .any, .any, .any, .any, .any, .any, .any, .any, .any, .any, .any, .any, .any, .any, .any, .any, .any, .any]
def h_leatref02_Div_4 : List HPat := [.ext 3 [.int .i64], .ext 3 [.int .i64], .rows 3 [.int .i64], .rows 3 [.int .i64]]
def x_leatref02_Div_4 : List XP := [⟨.exit 0, [.any, .any, .any, .any, .any, .any, .sl 0, .sl 1, .any, .any, .any, .any, .any, .any, .any, .any, .any, .any, .any, .any, .any, .any, .any, .any, .any, .any, .any, .any, .any, .any, .any, .any, .any, .any, .any, .any, .any, .any, .any], [.rows 3 [.int .i64], .rows 3 [.int .i64]]⟩]
def lc_leatref02_Div_4 (N : Nat) : LC := mkLC 0 p_leatref02_Div_4 h_leatref02_Div_4 x_leatref02_Div_4 (leatref02_Div_L4 N)
def s_leatref02_Div (N : Nat) : List (Nat × LC) := [(4, lc_leatref02_Div_4 N)]
noncomputable def e_leatref02_Div (N : Nat) : Env := mkEnvX 0 [] Tryd.prog o_leatref02_Sub (s_leatref02_Div N) N
theorem k_leatref02_Div_4 (N : Nat) : LCOK (e_leatref02_Div N) 12 (loopAt Tryd.prog 35 0) (lc_leatref02_Div_4 N) := mkLC_ok rfl (by kernel_rfl) (by kernel_rfl) (fun F x => by kernel_rfl)
theorem q_leatref02_Div (N : Nat) : LoopsFor (e_leatref02_Div N) Tryd.prog 35 1 := loops_mk (by kernel_rfl) (fun j hj => match j, hj with
  | 0, _ => .inl ⟨lc_leatref02_Div_4 N, by kernel_rfl, k_leatref02_Div_4 N⟩
  | _ + 1, h => absurd h (by omega)) (fun _ => rfl)
def c_leatref02_Div : FC := mkF [.row 3 [.int .i64], .row 3 [.int .i64]] [.row 3 [.int .i64], .row 3 [.int .i64]] leatref02_Div
theorem t_leatref02_Div (N : Nat) : FCOK Tryd.prog N 35 c_leatref02_Div := fun_ok facts (ok_leatref02_Sub N) (by kernel_rfl) (by kernel_rfl) (q_leatref02_Div N) (fun t => by kernel_rfl)
def o_leatref02_Div : List (Nat × FC) := (35, c_leatref02_Div) :: o_leatref02_Sub
theorem ok_leatref02_Div (N : Nat) : OrcOK Tryd.prog o_leatref02_Div N := orc_cons (t_leatref02_Div N) (ok_leatref02_Sub N)
def p_leatref02_Num_3 : List Pat := [.sl 0, .sc (.int .i64), .any, .any, .any, .sc (.int .u64), .sc (.int .i64), .any, .any, .any, .any, .any, .any, .any, .any, .any, .any, .any, .any, .any, .any, .any, .any, .any, .any, .any, .any, .any, .any, .any, .any]
def h_leatref02_Num_3 : List HPat := [.ext 3 [.int .i64]]
def x_leatref02_Num_3 : List XP := [⟨.exit 0, [.any, .any, .any, .any, .any, .sc (.int .u64), .any, .any, .any, .any, .any, .any, .any, .any, .any, .any, .any, .any, .any, .any, .any, .any, .any, .any, .any, .any, .any, .any, .any, .any, .any], []⟩]
def lc_leatref02_Num_3 (N : Nat) : LC := mkLC 0 p_leatref02_Num_3 h_leatref02_Num_3 x_leatref02_Num_3 (leatref02_Num_L3 N)
def s_leatref02_Num (N : Nat) : List (Nat × LC) := [(3, lc_leatref02_Num_3 N)]
noncomputable def e_leatref02_Num (N : Nat) : Env := mkEnvX 0 [] Tryd.prog o_leatref02_Div (s_leatref02_Num N) N
theorem k_leatref02_Num_3 (N : Nat) : LCOK (e_leatref02_Num N) 12 (loopAt Tryd.prog 40 0) (lc_leatref02_Num_3 N) := mkLC_ok rfl (by kernel_rfl) (by kernel_rfl) (fun F x => by kernel_rfl)
theorem q_leatref02_Num (N : Nat) : LoopsFor (e_leatref02_Num N) Tryd.prog 40 1 := loops_mk (by kernel_rfl) (fun j hj => match j, hj with
  | 0, _ => .inl ⟨lc_leatref02_Num_3 N, by kernel_rfl, k_leatref02_Num_3 N⟩
  | _ + 1, h => absurd h (by omega)) (fun _ => rfl)
def c_leatref02_Num : FC := mkF [.row 3 [.int .i64], .sc (.int .i64)] [.sc (.int .u64)] leatref02_Num
theorem t_leatref02_Num (N : Nat) : FCOK Tryd.prog N 40 c_leatref02_Num := fun_ok facts (ok_leatref02_Div N) (by kernel_rfl) (by kernel_rfl) (q_leatref02_Num N) (fun t => by kernel_rfl)
def o_leatref02_Num : List (Nat × FC) := (40, c_leatref02_Num) :: o_leatref02_Div
theorem ok_leatref02_Num (N : Nat) : OrcOK Tryd.prog o_leatref02_Num N := orc_cons (t_leatref02_Num N) (ok_leatref02_Div N)
def s_leatref02_MulDiv (_ : Nat) : List (Nat × LC) := []
noncomputable def e_leatref02_MulDiv (N : Nat) : Env := mkEnvX 0 [] Tryd.prog o_leatref02_Num (s_leatref02_MulDiv N) N
theorem q_leatref02_MulDiv (N : Nat) : LoopsFor (e_leatref02_MulDiv N) Tryd.prog 21 0 := loops_mk (by kernel_rfl) (fun j hj => match j, hj with
  | _ + 0, h => absurd h (by omega)) (fun _ => rfl)
def c_leatref02_MulDiv : FC := mkF [.sc (.int .i64), .sc (.int .i64), .sc (.int .i64), .sc (.bool)] [.sc (.int .i64), .sc (.int .i64)] leatref02_MulDiv
theorem t_leatref02_MulDiv (N : Nat) : FCOK Tryd.prog N 21 c_leatref02_MulDiv := fun_ok facts (ok_leatref02_Num N) (by kernel_rfl) (by kernel_rfl) (q_leatref02_MulDiv N) (fun t => by kernel_rfl)
def o_leatref02_MulDiv : List (Nat × FC) := (21, c_leatref02_MulDiv) :: o_leatref02_Num
theorem ok_leatref02_MulDiv (N : Nat) : OrcOK Tryd.prog o_leatref02_MulDiv N := orc_cons (t_leatref02_MulDiv N) (ok_leatref02_Num N)
def s_leatref52_Rank (_ : Nat) : List (Nat × LC) := []
noncomputable def e_leatref52_Rank (N : Nat) : Env := mkEnvX 0 [] Tryd.prog o_leatref02_MulDiv (s_leatref52_Rank N) N
theorem q_leatref52_Rank (N : Nat) : LoopsFor (e_leatref52_Rank N) Tryd.prog 7 0 := loops_mk (by kernel_rfl) (fun j hj => match j, hj with
  | _ + 0, h => absurd h (by omega)) (fun _ => rfl)
def c_leatref52_Rank : FC := mkF [.row 2 [.int .i64], .sc (.int .i64), .sc (.int .i64)] [.sc (.int .i64), .sc (.bool)] leatref52_Rank
theorem t_leatref52_Rank (N : Nat) : FCOK Tryd.prog N 7 c_leatref52_Rank := fun_ok facts (ok_leatref02_MulDiv N) (by kernel_rfl) (by kernel_rfl) (q_leatref52_Rank N) (fun t => by kernel_rfl)
def o_leatref52_Rank : List (Nat × FC) := (7, c_leatref52_Rank) :: o_leatref02_MulDiv
theorem ok_leatref52_Rank (N : Nat) : OrcOK Tryd.prog o_leatref52_Rank N := orc_cons (t_leatref52_Rank N) (ok_leatref02_MulDiv N)
def c_slices_Clone_int64_int64 : FC := cloneC 2 [.int .i64] 8
noncomputable def cl_slices_Clone_int64_int64 : CloneAt Tryd.prog 33 22 := { fn := Tryd.f33, i0 := 0, i1 := 1, o0 := cOp0 (bodyOf Tryd.prog 33), o1 := cOpI 0 (bodyOf Tryd.prog 33), o2 := cOpI 1 (bodyOf Tryd.prog 33), C := cC (bodyOf Tryd.prog 33), D := cD (bodyOf Tryd.prog 33), hfn := Tryd.func33, hb := by kernel_rfl, hn := by kernel_rfl, h0 := ⟨by kernel_rfl, by kernel_rfl, by kernel_rfl⟩, h1 := ⟨by kernel_rfl, by kernel_rfl, by kernel_rfl⟩, h2 := ⟨by kernel_rfl, by kernel_rfl, by kernel_rfl⟩ }
theorem t_slices_Clone_int64_int64 (N : Nat) : FCOK Tryd.prog N 33 c_slices_Clone_int64_int64 := clone_ok cl_slices_Clone_int64_int64 facts (by kernel_rfl) (by kernel_rfl) (by decide) (LoopsOK_none (by kernel_rfl)) (LoopsOK_none (by kernel_rfl)) (by kernel_rfl) (fun xs => by kernel_rfl)
def o_slices_Clone_int64_int64 : List (Nat × FC) := (33, c_slices_Clone_int64_int64) :: o_leatref52_Rank
theorem ok_slices_Clone_int64_int64 (N : Nat) : OrcOK Tryd.prog o_slices_Clone_int64_int64 N := orc_cons (t_slices_Clone_int64_int64 N) (ok_leatref52_Rank N)
def s_bits_Len64 (_ : Nat) : List (Nat × LC) := []
noncomputable def e_bits_Len64 (N : Nat) : Env := mkEnvX 0 [] Tryd.prog o_slices_Clone_int64_int64 (s_bits_Len64 N) N
theorem q_bits_Len64 (N : Nat) : LoopsFor (e_bits_Len64 N) Tryd.prog 80 0 := loops_mk (by kernel_rfl) (fun j hj => match j, hj with
  | _ + 0, h => absurd h (by omega)) (fun _ => rfl)
def c_bits_Len64 : FC := mkF [.sc (.int .u64)] [.sc (.int .i64)] bits_Len64
theorem t_bits_Len64 (N : Nat) : FCOK Tryd.prog N 80 c_bits_Len64 := fun_ok facts (ok_slices_Clone_int64_int64 N) (by kernel_rfl) (by kernel_rfl) (q_bits_Len64 N) (fun t => by kernel_rfl)
def o_bits_Len64 : List (Nat × FC) := (80, c_bits_Len64) :: o_slices_Clone_int64_int64
theorem ok_bits_Len64 (N : Nat) : OrcOK Tryd.prog o_bits_Len64 N := orc_cons (t_bits_Len64 N) (ok_slices_Clone_int64_int64 N)
def s_stats_sorted_int64 (_ : Nat) : List (Nat × LC) := []
noncomputable def e_stats_sorted_int64 (N : Nat) : Env := mkEnvX 0 [] Tryd.prog o_bits_Len64 (s_stats_sorted_int64 N) N
theorem q_stats_sorted_int64 (N : Nat) : LoopsFor (e_stats_sorted_int64 N) Tryd.prog 20 0 := loops_mk (by kernel_rfl) (fun j hj => match j, hj with
  | _ + 0, h => absurd h (by omega)) (fun _ => rfl)
def c_stats_sorted_int64 : FC := mkF [.row 2 [.int .i64]] [.row 2 [.int .i64]] stats_sorted_int64
theorem t_stats_sorted_int64 (N : Nat) : FCOK Tryd.prog N 20 c_stats_sorted_int64 := fun_ok facts (ok_bits_Len64 N) (by kernel_rfl) (by kernel_rfl) (q_stats_sorted_int64 N) (fun t => by kernel_rfl)
def o_stats_sorted_int64 : List (Nat × FC) := (20, c_stats_sorted_int64) :: o_bits_Len64
theorem ok_stats_sorted_int64 (N : Nat) : OrcOK Tryd.prog o_stats_sorted_int64 N := orc_cons (t_stats_sorted_int64 N) (ok_bits_Len64 N)
def s_sat_Clamp (_ : Nat) : List (Nat × LC) := []
noncomputable def e_sat_Clamp (N : Nat) : Env := mkEnvX 0 [] Tryd.prog o_stats_sorted_int64 (s_sat_Clamp N) N
theorem q_sat_Clamp (N : Nat) : LoopsFor (e_sat_Clamp N) Tryd.prog 27 0 := loops_mk (by kernel_rfl) (fun j hj => match j, hj with
  | _ + 0, h => absurd h (by omega)) (fun _ => rfl)
def c_sat_Clamp : FC := mkF [.sc (.int .i64), .sc (.int .i64), .sc (.int .i64)] [.sc (.int .i64)] sat_Clamp
theorem t_sat_Clamp (N : Nat) : FCOK Tryd.prog N 27 c_sat_Clamp := fun_ok facts (ok_stats_sorted_int64 N) (by kernel_rfl) (by kernel_rfl) (q_sat_Clamp N) (fun t => by kernel_rfl)
def o_sat_Clamp : List (Nat × FC) := (27, c_sat_Clamp) :: o_stats_sorted_int64
theorem ok_sat_Clamp (N : Nat) : OrcOK Tryd.prog o_sat_Clamp N := orc_cons (t_sat_Clamp N) (ok_stats_sorted_int64 N)
def s_bits_Mul64 (_ : Nat) : List (Nat × LC) := []
noncomputable def e_bits_Mul64 (N : Nat) : Env := mkEnvX 0 [] Tryd.prog o_sat_Clamp (s_bits_Mul64 N) N
theorem q_bits_Mul64 (N : Nat) : LoopsFor (e_bits_Mul64 N) Tryd.prog 66 0 := loops_mk (by kernel_rfl) (fun j hj => match j, hj with
  | _ + 0, h => absurd h (by omega)) (fun _ => rfl)
def c_bits_Mul64 : FC := mkF [.sc (.int .u64), .sc (.int .u64)] [.sc (.int .u64), .sc (.int .u64)] bits_Mul64
theorem t_bits_Mul64 (N : Nat) : FCOK Tryd.prog N 66 c_bits_Mul64 := fun_ok facts (ok_sat_Clamp N) (by kernel_rfl) (by kernel_rfl) (q_bits_Mul64 N) (fun t => by kernel_rfl)
def o_bits_Mul64 : List (Nat × FC) := (66, c_bits_Mul64) :: o_sat_Clamp
theorem ok_bits_Mul64 (N : Nat) : OrcOK Tryd.prog o_bits_Mul64 N := orc_cons (t_bits_Mul64 N) (ok_sat_Clamp N)
def s_wide_Mul (_ : Nat) : List (Nat × LC) := []
noncomputable def e_wide_Mul (N : Nat) : Env := mkEnvX 0 [] Tryd.prog o_bits_Mul64 (s_wide_Mul N) N
theorem q_wide_Mul (N : Nat) : LoopsFor (e_wide_Mul N) Tryd.prog 63 0 := loops_mk (by kernel_rfl) (fun j hj => match j, hj with
  | _ + 0, h => absurd h (by omega)) (fun _ => rfl)
def c_wide_Mul : FC := mkF [.sc (.int .u64), .sc (.int .u64)] [.agg [.int .u64, .int .u64]] wide_Mul
theorem t_wide_Mul (N : Nat) : FCOK Tryd.prog N 63 c_wide_Mul := fun_ok facts (ok_bits_Mul64 N) (by kernel_rfl) (by kernel_rfl) (q_wide_Mul N) (fun t => by kernel_rfl)
def o_wide_Mul : List (Nat × FC) := (63, c_wide_Mul) :: o_bits_Mul64
theorem ok_wide_Mul (N : Nat) : OrcOK Tryd.prog o_wide_Mul N := orc_cons (t_wide_Mul N) (ok_bits_Mul64 N)
def s_bits_LeadingZeros64 (_ : Nat) : List (Nat × LC) := []
noncomputable def e_bits_LeadingZeros64 (N : Nat) : Env := mkEnvX 0 [] Tryd.prog o_wide_Mul (s_bits_LeadingZeros64 N) N
theorem q_bits_LeadingZeros64 (N : Nat) : LoopsFor (e_bits_LeadingZeros64 N) Tryd.prog 100 0 := loops_mk (by kernel_rfl) (fun j hj => match j, hj with
  | _ + 0, h => absurd h (by omega)) (fun _ => rfl)
def c_bits_LeadingZeros64 : FC := mkF [.sc (.int .u64)] [.sc (.int .i64)] bits_LeadingZeros64
theorem t_bits_LeadingZeros64 (N : Nat) : FCOK Tryd.prog N 100 c_bits_LeadingZeros64 := fun_ok facts (ok_wide_Mul N) (by kernel_rfl) (by kernel_rfl) (q_bits_LeadingZeros64 N) (fun t => by kernel_rfl)
def o_bits_LeadingZeros64 : List (Nat × FC) := (100, c_bits_LeadingZeros64) :: o_wide_Mul
theorem ok_bits_LeadingZeros64 (N : Nat) : OrcOK Tryd.prog o_bits_LeadingZeros64 N := orc_cons (t_bits_LeadingZeros64 N) (ok_wide_Mul N)
def p_bits_Div64_17 : List Pat := [.any, .any, .sc (.int .u64), .any, .any, .any, .any, .any, .sc (.int .u64), .sc (.int .u64), .sc (.int .u64), .sc (.int .u64), .any, .sc (.int .u64), .sc (.int .u64), .sc (.int .u64), .sc (.int .u64), .any, .any, .any, .any, .any, .any, .any, .any, .any, .any, .any, .any, .any, .any, .any, .any, .any, .any, .any, .any, .any, .any, .any, .any, .any, .any, .any, .any, .any, .any, .any, .any, .any, .any, .any, .any, .any, .any, .any, .any, .any, .any, .any, .any, .any, .any, .any, .any, .any, .any, .any, .any, .any, .any, .any, .any, .any, .any, .any, .any, .any, .any, .any, .any, .any, .any, .any, .any, .any, .any, .any, .any, .any, .any, .any, .any, .any, .any, .any, .any, .any, .any, .any, .any, .any, .any, .any, .any, .any, .any, .any, .any, .any, .any, .any, .any, .any, .any, .any, .any, .any, .any, .any, .any, .any, .any, .any, .any, .any, .any, .any, .any, .any, .any, .any, .any, .any, .any]
def h_bits_Div64_17 : List HPat := []
def x_bits_Div64_17 : List XP := [⟨.exit 0, [.any, .any, .sc (.int .u64), .any, .any, .any, .any, .any, .sc (.int .u64), .sc (.int .u64), .sc (.int .u64), .sc (.int .u64), .any, .sc (.int .u64), .sc (.int .u64), .sc (.int .u64), .any, .any, .any, .any, .any, .any, .any, .any, .any, .any, .any, .any, .any, .any, .any, .any, .any, .any, .any, .any, .any, .any, .any, .any, .any, .any, .any, .any, .any, .any, .any, .any, .any, .any, .any, .any, .any, .any, .any, .any, .any, .any, .any, .any, .any, .any, .any, .any, .any, .any, .any, .any, .any, .any, .any, .any, .any, .any, .any, .any, .any, .any, .any, .any, .any, .any, .any, .any, .any, .any, .any, .any, .any, .any, .any, .any, .any, .any, .any, .any, .any, .any, .any, .any, .any, .any, .any, .any, .any, .any, .any, .any, .any, .any, .any, .any, .any, .any, .any, .any, .any, .any, .any, .any, .any, .any, .any, .any, .any, .any, .any, .any, .any, .any, .any, .any, .any, .any, .any], []⟩]
def lc_bits_Div64_17 (N : Nat) : LC := mkLC 0 p_bits_Div64_17 h_bits_Div64_17 x_bits_Div64_17 (bits_Div64_L17 N)
def p_bits_Div64_24 : List Pat := [.any, .any, .sc (.int .u64), .any, .any, .any, .any, .any, .sc (.int .u64), .sc (.int .u64), .sc (.int .u64), .any, .any, .any, .sc (.int .u64), .sc (.int .u64), .sc (.int .u64), .sc (.int .u64), .sc (.int .u64), .any, .any, .any, .any, .any, .any, .any, .any, .any, .any, .any, .any, .any, .any, .any, .any, .any, .any, .any, .any, .any, .any, .any, .any, .any, .any, .any, .any, .any, .any, .any, .any, .any, .any, .any, .any, .any, .any, .any, .any, .any, .any, .any, .any, .any, .any, .any, .any, .any, .any, .any, .any, .any, .any, .any, .any, .any, .any, .any, .any, .any, .any, .any, .any, .any, .any, .any, .any, .any, .any, .any, .any, .any, .any, .any, .any, .any, .any, .any, .any, .any, .any, .any, .any, .any, .any, .any, .any, .any, .any, .any, .any, .any, .any, .any, .any, .any, .any, .any, .any, .any, .any, .any, .any, .any, .any, .any, .any, .any, .any, .any, .any, .any, .any, .any, .any]
def h_bits_Div64_24 : List HPat := []
def x_bits_Div64_24 : List XP := [⟨.exit 2, [.any, .any, .sc (.int .u64), .any, .any, .any, .any, .any, .sc (.int .u64), .any, .any, .any, .any, .any, .sc (.int .u64), .sc (.int .u64), .any, .sc (.int .u64), .sc (.int .u64), .any, .any, .any, .any, .any, .any, .any, .any, .any, .any, .any, .any, .any, .any, .any, .any, .any, .any, .any, .any, .any, .any, .any, .any, .any, .any, .any, .any, .any, .any, .any, .any, .any, .any, .any, .any, .any, .any, .any, .any, .any, .any, .any, .any, .any, .any, .any, .any, .any, .any, .any, .any, .any, .any, .any, .any, .any, .any, .any, .any, .any, .any, .any, .any, .any, .any, .any, .any, .any, .any, .any, .any, .any, .any, .any, .any, .any, .any, .any, .any, .any, .any, .any, .any, .any, .any, .any, .any, .any, .any, .any, .any, .any, .any, .any, .any, .any, .any, .any, .any, .any, .any, .any, .any, .any, .any, .any, .any, .any, .any, .any, .any, .any, .any, .any, .any], []⟩]
def lc_bits_Div64_24 (N : Nat) : LC := mkLC 0 p_bits_Div64_24 h_bits_Div64_24 x_bits_Div64_24 (bits_Div64_L24 N)
def s_bits_Div64 (N : Nat) : List (Nat × LC) := [(17, lc_bits_Div64_17 N), (24, lc_bits_Div64_24 N)]
noncomputable def e_bits_Div64 (N : Nat) : Env := mkEnvX 0 [] Tryd.prog o_bits_LeadingZeros64 (s_bits_Div64 N) N
theorem k_bits_Div64_17 (N : Nat) : LCOK (e_bits_Div64 N) 12 (loopAt Tryd.prog 86 0) (lc_bits_Div64_17 N) := mkLC_ok rfl (by kernel_rfl) (by kernel_rfl) (fun F x => by kernel_rfl)
theorem k_bits_Div64_24 (N : Nat) : LCOK (e_bits_Div64 N) 12 (loopAt Tryd.prog 86 1) (lc_bits_Div64_24 N) := mkLC_ok rfl (by kernel_rfl) (by kernel_rfl) (fun F x => by kernel_rfl)
theorem q_bits_Div64 (N : Nat) : LoopsFor (e_bits_Div64 N) Tryd.prog 86 2 := loops_mk (by kernel_rfl) (fun j hj => match j, hj with
  | 0, _ => .inl ⟨lc_bits_Div64_17 N, by kernel_rfl, k_bits_Div64_17 N⟩
  | 1, _ => .inl ⟨lc_bits_Div64_24 N, by kernel_rfl, k_bits_Div64_24 N⟩
  | _ + 2, h => absurd h (by omega)) (fun _ => rfl)
def c_bits_Div64 : FC := mkF [.sc (.int .u64), .sc (.int .u64), .sc (.int .u64)] [.sc (.int .u64), .sc (.int .u64)] bits_Div64
theorem t_bits_Div64 (N : Nat) : FCOK Tryd.prog N 86 c_bits_Div64 := fun_ok facts (ok_bits_LeadingZeros64 N) (by kernel_rfl) (by kernel_rfl) (q_bits_Div64 N) (fun t => by kernel_rfl)
def o_bits_Div64 : List (Nat × FC) := (86, c_bits_Div64) :: o_bits_LeadingZeros64
theorem ok_bits_Div64 (N : Nat) : OrcOK Tryd.prog o_bits_Div64 N := orc_cons (t_bits_Div64 N) (ok_bits_LeadingZeros64 N)
def s_wide_Div (_ : Nat) : List (Nat × LC) := []
noncomputable def e_wide_Div (N : Nat) : Env := mkEnvX 0 [] Tryd.prog o_bits_Div64 (s_wide_Div N) N
theorem q_wide_Div (N : Nat) : LoopsFor (e_wide_Div N) Tryd.prog 62 0 := loops_mk (by kernel_rfl) (fun j hj => match j, hj with
  | _ + 0, h => absurd h (by omega)) (fun _ => rfl)
def c_wide_Div : FC := mkF [.agg [.int .u64, .int .u64], .sc (.int .u64)] [.agg [.int .u64, .int .u64], .sc (.int .u64)] wide_Div
theorem t_wide_Div (N : Nat) : FCOK Tryd.prog N 62 c_wide_Div := fun_ok facts (ok_bits_Div64 N) (by kernel_rfl) (by kernel_rfl) (q_wide_Div N) (fun t => by kernel_rfl)
def o_wide_Div : List (Nat × FC) := (62, c_wide_Div) :: o_bits_Div64
theorem ok_wide_Div (N : Nat) : OrcOK Tryd.prog o_wide_Div N := orc_cons (t_wide_Div N) (ok_bits_Div64 N)
def s_wide_muldiv (_ : Nat) : List (Nat × LC) := []
noncomputable def e_wide_muldiv (N : Nat) : Env := mkEnvX 0 [] Tryd.prog o_wide_Div (s_wide_muldiv N) N
theorem q_wide_muldiv (N : Nat) : LoopsFor (e_wide_muldiv N) Tryd.prog 48 0 := loops_mk (by kernel_rfl) (fun j hj => match j, hj with
  | _ + 0, h => absurd h (by omega)) (fun _ => rfl)
def c_wide_muldiv : FC := mkF [.sc (.int .i64), .sc (.int .i64), .sc (.int .i64)] [.agg [.int .u64, .int .u64], .sc (.bool), .sc (.int .i64)] wide_muldiv
theorem t_wide_muldiv (N : Nat) : FCOK Tryd.prog N 48 c_wide_muldiv := fun_ok facts (ok_wide_Div N) (by kernel_rfl) (by kernel_rfl) (q_wide_muldiv N) (fun t => by kernel_rfl)
def o_wide_muldiv : List (Nat × FC) := (48, c_wide_muldiv) :: o_wide_Div
theorem ok_wide_muldiv (N : Nat) : OrcOK Tryd.prog o_wide_muldiv N := orc_cons (t_wide_muldiv N) (ok_wide_Div N)
def c_bits_Add64 : FC := add64C
theorem t_bits_Add64 (N : Nat) : FCOK Tryd.prog N 69 c_bits_Add64 := add64_ok Tryd.func69 (by kernel_rfl) (by kernel_rfl) (by kernel_rfl) (by kernel_rfl)
def o_bits_Add64 : List (Nat × FC) := (69, c_bits_Add64) :: o_wide_muldiv
theorem ok_bits_Add64 (N : Nat) : OrcOK Tryd.prog o_bits_Add64 N := orc_cons (t_bits_Add64 N) (ok_wide_muldiv N)
def s_wide_Add (_ : Nat) : List (Nat × LC) := []
noncomputable def e_wide_Add (N : Nat) : Env := mkEnvX 0 [] Tryd.prog o_bits_Add64 (s_wide_Add N) N
theorem q_wide_Add (N : Nat) : LoopsFor (e_wide_Add N) Tryd.prog 54 0 := loops_mk (by kernel_rfl) (fun j hj => match j, hj with
  | _ + 0, h => absurd h (by omega)) (fun _ => rfl)
def c_wide_Add : FC := mkF [.agg [.int .u64, .int .u64], .agg [.int .u64, .int .u64]] [.agg [.int .u64, .int .u64], .sc (.bool)] wide_Add
theorem t_wide_Add (N : Nat) : FCOK Tryd.prog N 54 c_wide_Add := fun_ok facts (ok_bits_Add64 N) (by kernel_rfl) (by kernel_rfl) (q_wide_Add N) (fun t => by kernel_rfl)
def o_wide_Add : List (Nat × FC) := (54, c_wide_Add) :: o_bits_Add64
theorem ok_wide_Add (N : Nat) : OrcOK Tryd.prog o_wide_Add N := orc_cons (t_wide_Add N) (ok_bits_Add64 N)
def s_cmp_isNaN_uint64 (_ : Nat) : List (Nat × LC) := []
noncomputable def e_cmp_isNaN_uint64 (N : Nat) : Env := mkEnvX 0 [] Tryd.prog o_wide_Add (s_cmp_isNaN_uint64 N) N
theorem q_cmp_isNaN_uint64 (N : Nat) : LoopsFor (e_cmp_isNaN_uint64 N) Tryd.prog 101 0 := loops_mk (by kernel_rfl) (fun j hj => match j, hj with
  | _ + 0, h => absurd h (by omega)) (fun _ => rfl)
def c_cmp_isNaN_uint64 : FC := mkF [.sc (.int .u64)] [.sc (.bool)] cmp_isNaN_uint64
theorem t_cmp_isNaN_uint64 (N : Nat) : FCOK Tryd.prog N 101 c_cmp_isNaN_uint64 := fun_ok facts (ok_wide_Add N) (by kernel_rfl) (by kernel_rfl) (q_cmp_isNaN_uint64 N) (fun t => by kernel_rfl)
def o_cmp_isNaN_uint64 : List (Nat × FC) := (101, c_cmp_isNaN_uint64) :: o_wide_Add
theorem ok_cmp_isNaN_uint64 (N : Nat) : OrcOK Tryd.prog o_cmp_isNaN_uint64 N := orc_cons (t_cmp_isNaN_uint64 N) (ok_wide_Add N)
def s_cmp_Compare_uint64 (_ : Nat) : List (Nat × LC) := []
noncomputable def e_cmp_Compare_uint64 (N : Nat) : Env := mkEnvX 0 [] Tryd.prog o_cmp_isNaN_uint64 (s_cmp_Compare_uint64 N) N
theorem q_cmp_Compare_uint64 (N : Nat) : LoopsFor (e_cmp_Compare_uint64 N) Tryd.prog 88 0 := loops_mk (by kernel_rfl) (fun j hj => match j, hj with
  | _ + 0, h => absurd h (by omega)) (fun _ => rfl)
def c_cmp_Compare_uint64 : FC := mkF [.sc (.int .u64), .sc (.int .u64)] [.sc (.int .i64)] cmp_Compare_uint64
theorem t_cmp_Compare_uint64 (N : Nat) : FCOK Tryd.prog N 88 c_cmp_Compare_uint64 := fun_ok facts (ok_cmp_isNaN_uint64 N) (by kernel_rfl) (by kernel_rfl) (q_cmp_Compare_uint64 N) (fun t => by kernel_rfl)
def o_cmp_Compare_uint64 : List (Nat × FC) := (88, c_cmp_Compare_uint64) :: o_cmp_isNaN_uint64
theorem ok_cmp_Compare_uint64 (N : Nat) : OrcOK Tryd.prog o_cmp_Compare_uint64 N := orc_cons (t_cmp_Compare_uint64 N) (ok_cmp_isNaN_uint64 N)
def p_cmp_Or_int_3 : List Pat := [.any, .any, .any, .sc (.int .i64), .any, .any, .sl 0, .sc (.int .i64), .sc (.int .i64), .any, .any, .any, .any, .any, .any, .any, .any, .any]
def h_cmp_Or_int_3 : List HPat := [.ext 3 [.int .i64]]
def x_cmp_Or_int_3 : List XP := [⟨.ret, [.any, .any, .sc (.int .i64), .any, .any, .any, .any, .any, .any, .any, .any, .any, .any, .any, .any, .any, .any, .any], []⟩, ⟨.exit 0, [.any, .any, .any, .sc (.int .i64), .any, .any, .any, .any, .any, .any, .any, .any, .any, .any, .any, .any, .any, .any], []⟩]
def lc_cmp_Or_int_3 (N : Nat) : LC := mkLC 0 p_cmp_Or_int_3 h_cmp_Or_int_3 x_cmp_Or_int_3 (cmp_Or_int_L3 N)
def s_cmp_Or_int (N : Nat) : List (Nat × LC) := [(3, lc_cmp_Or_int_3 N)]
noncomputable def e_cmp_Or_int (N : Nat) : Env := mkEnvX 0 [] Tryd.prog o_cmp_Compare_uint64 (s_cmp_Or_int N) N
theorem k_cmp_Or_int_3 (N : Nat) : LCOK (e_cmp_Or_int N) 12 (loopAt Tryd.prog 87 0) (lc_cmp_Or_int_3 N) := mkLC_ok rfl (by kernel_rfl) (by kernel_rfl) (fun F x => by kernel_rfl)
theorem q_cmp_Or_int (N : Nat) : LoopsFor (e_cmp_Or_int N) Tryd.prog 87 1 := loops_mk (by kernel_rfl) (fun j hj => match j, hj with
  | 0, _ => .inl ⟨lc_cmp_Or_int_3 N, by kernel_rfl, k_cmp_Or_int_3 N⟩
  | _ + 1, h => absurd h (by omega)) (fun _ => rfl)
def c_cmp_Or_int : FC := mkF [.row 3 [.int .i64]] [.sc (.int .i64)] cmp_Or_int
theorem t_cmp_Or_int (N : Nat) : FCOK Tryd.prog N 87 c_cmp_Or_int := fun_ok facts (ok_cmp_Compare_uint64 N) (by kernel_rfl) (by kernel_rfl) (q_cmp_Or_int N) (fun t => by kernel_rfl)
def o_cmp_Or_int : List (Nat × FC) := (87, c_cmp_Or_int) :: o_cmp_Compare_uint64
theorem ok_cmp_Or_int (N : Nat) : OrcOK Tryd.prog o_cmp_Or_int N := orc_cons (t_cmp_Or_int N) (ok_cmp_Compare_uint64 N)
def s_wide_Cmp (_ : Nat) : List (Nat × LC) := []
noncomputable def e_wide_Cmp (N : Nat) : Env := mkEnvX 0 [] Tryd.prog o_cmp_Or_int (s_wide_Cmp N) N
theorem q_wide_Cmp (N : Nat) : LoopsFor (e_wide_Cmp N) Tryd.prog 64 0 := loops_mk (by kernel_rfl) (fun j hj => match j, hj with
  | _ + 0, h => absurd h (by omega)) (fun _ => rfl)
def c_wide_Cmp : FC := mkF [.agg [.int .u64, .int .u64], .agg [.int .u64, .int .u64]] [.sc (.int .i64)] wide_Cmp
theorem t_wide_Cmp (N : Nat) : FCOK Tryd.prog N 64 c_wide_Cmp := fun_ok facts (ok_cmp_Or_int N) (by kernel_rfl) (by kernel_rfl) (q_wide_Cmp N) (fun t => by kernel_rfl)
def o_wide_Cmp : List (Nat × FC) := (64, c_wide_Cmp) :: o_cmp_Or_int
theorem ok_wide_Cmp (N : Nat) : OrcOK Tryd.prog o_wide_Cmp N := orc_cons (t_wide_Cmp N) (ok_cmp_Or_int N)
def s_wide_told (_ : Nat) : List (Nat × LC) := []
noncomputable def e_wide_told (N : Nat) : Env := mkEnvX 0 [] Tryd.prog o_wide_Cmp (s_wide_told N) N
theorem q_wide_told (N : Nat) : LoopsFor (e_wide_told N) Tryd.prog 49 0 := loops_mk (by kernel_rfl) (fun j hj => match j, hj with
  | _ + 0, h => absurd h (by omega)) (fun _ => rfl)
def c_wide_told : FC := mkF [.agg [.int .u64, .int .u64], .sc (.int .i64)] [.sc (.int .i64), .sc (.int .i64)] wide_told
theorem t_wide_told (N : Nat) : FCOK Tryd.prog N 49 c_wide_told := fun_ok facts (ok_wide_Cmp N) (by kernel_rfl) (by kernel_rfl) (q_wide_told N) (fun t => by kernel_rfl)
def o_wide_told : List (Nat × FC) := (49, c_wide_told) :: o_wide_Cmp
theorem ok_wide_told (N : Nat) : OrcOK Tryd.prog o_wide_told N := orc_cons (t_wide_told N) (ok_wide_Cmp N)
def s_wide_MulDivUp (_ : Nat) : List (Nat × LC) := []
noncomputable def e_wide_MulDivUp (N : Nat) : Env := mkEnvX 0 [] Tryd.prog o_wide_told (s_wide_MulDivUp N) N
theorem q_wide_MulDivUp (N : Nat) : LoopsFor (e_wide_MulDivUp N) Tryd.prog 32 0 := loops_mk (by kernel_rfl) (fun j hj => match j, hj with
  | _ + 0, h => absurd h (by omega)) (fun _ => rfl)
def c_wide_MulDivUp : FC := mkF [.sc (.int .i64), .sc (.int .i64), .sc (.int .i64)] [.sc (.int .i64), .sc (.int .i64)] wide_MulDivUp
theorem t_wide_MulDivUp (N : Nat) : FCOK Tryd.prog N 32 c_wide_MulDivUp := fun_ok facts (ok_wide_told N) (by kernel_rfl) (by kernel_rfl) (q_wide_MulDivUp N) (fun t => by kernel_rfl)
def o_wide_MulDivUp : List (Nat × FC) := (32, c_wide_MulDivUp) :: o_wide_told
theorem ok_wide_MulDivUp (N : Nat) : OrcOK Tryd.prog o_wide_MulDivUp N := orc_cons (t_wide_MulDivUp N) (ok_wide_told N)
def s_stats_rank (_ : Nat) : List (Nat × LC) := []
noncomputable def e_stats_rank (N : Nat) : Env := mkEnvX 0 [] Tryd.prog o_wide_MulDivUp (s_stats_rank N) N
theorem q_stats_rank (N : Nat) : LoopsFor (e_stats_rank N) Tryd.prog 19 0 := loops_mk (by kernel_rfl) (fun j hj => match j, hj with
  | _ + 0, h => absurd h (by omega)) (fun _ => rfl)
def c_stats_rank : FC := mkF [.row 2 [.int .i64], .sc (.int .i64), .sc (.int .i64)] [.sc (.int .i64)] stats_rank
theorem t_stats_rank (N : Nat) : FCOK Tryd.prog N 19 c_stats_rank := fun_ok facts (ok_wide_MulDivUp N) (by kernel_rfl) (by kernel_rfl) (q_stats_rank N) (fun t => by kernel_rfl)
def o_stats_rank : List (Nat × FC) := (19, c_stats_rank) :: o_wide_MulDivUp
theorem ok_stats_rank (N : Nat) : OrcOK Tryd.prog o_stats_rank N := orc_cons (t_stats_rank N) (ok_wide_MulDivUp N)
def s_stats_Rank (_ : Nat) : List (Nat × LC) := []
noncomputable def e_stats_Rank (N : Nat) : Env := mkEnvX 0 [] Tryd.prog o_stats_rank (s_stats_Rank N) N
theorem q_stats_Rank (N : Nat) : LoopsFor (e_stats_Rank N) Tryd.prog 6 0 := loops_mk (by kernel_rfl) (fun j hj => match j, hj with
  | _ + 0, h => absurd h (by omega)) (fun _ => rfl)
def c_stats_Rank : FC := mkF [.row 2 [.int .i64], .sc (.int .i64), .sc (.int .i64)] [.sc (.int .i64), .sc (.bool)] stats_Rank
theorem t_stats_Rank (N : Nat) : FCOK Tryd.prog N 6 c_stats_Rank := fun_ok facts (ok_stats_rank N) (by kernel_rfl) (by kernel_rfl) (q_stats_Rank N) (fun t => by kernel_rfl)
def o_stats_Rank : List (Nat × FC) := (6, c_stats_Rank) :: o_stats_rank
theorem ok_stats_Rank (N : Nat) : OrcOK Tryd.prog o_stats_Rank N := orc_cons (t_stats_Rank N) (ok_stats_rank N)
def s_sat_end (_ : Nat) : List (Nat × LC) := []
noncomputable def e_sat_end (N : Nat) : Env := mkEnvX 0 [] Tryd.prog o_stats_Rank (s_sat_end N) N
theorem q_sat_end (N : Nat) : LoopsFor (e_sat_end N) Tryd.prog 58 0 := loops_mk (by kernel_rfl) (fun j hj => match j, hj with
  | _ + 0, h => absurd h (by omega)) (fun _ => rfl)
def c_sat_end : FC := mkF [.sc (.bool)] [.sc (.int .i64)] sat_end
theorem t_sat_end (N : Nat) : FCOK Tryd.prog N 58 c_sat_end := fun_ok facts (ok_stats_Rank N) (by kernel_rfl) (by kernel_rfl) (q_sat_end N) (fun t => by kernel_rfl)
def o_sat_end : List (Nat × FC) := (58, c_sat_end) :: o_stats_Rank
theorem ok_sat_end (N : Nat) : OrcOK Tryd.prog o_sat_end N := orc_cons (t_sat_end N) (ok_stats_Rank N)
def s_sat_Add (_ : Nat) : List (Nat × LC) := []
noncomputable def e_sat_Add (N : Nat) : Env := mkEnvX 0 [] Tryd.prog o_sat_end (s_sat_Add N) N
theorem q_sat_Add (N : Nat) : LoopsFor (e_sat_Add N) Tryd.prog 41 0 := loops_mk (by kernel_rfl) (fun j hj => match j, hj with
  | _ + 0, h => absurd h (by omega)) (fun _ => rfl)
def c_sat_Add : FC := mkF [.sc (.int .i64), .sc (.int .i64)] [.sc (.int .i64)] sat_Add
theorem t_sat_Add (N : Nat) : FCOK Tryd.prog N 41 c_sat_Add := fun_ok facts (ok_sat_end N) (by kernel_rfl) (by kernel_rfl) (q_sat_Add N) (fun t => by kernel_rfl)
def o_sat_Add : List (Nat × FC) := (41, c_sat_Add) :: o_sat_end
theorem ok_sat_Add (N : Nat) : OrcOK Tryd.prog o_sat_Add N := orc_cons (t_sat_Add N) (ok_sat_end N)
def p_sat_Sum_3 : List Pat := [.any, .any, .any, .sc (.int .i64), .any, .any, .sl 0, .sc (.int .i64), .sc (.int .i64), .any, .any, .any, .any, .any, .any, .any, .any]
def h_sat_Sum_3 : List HPat := [.ext 2 [.int .i64]]
def x_sat_Sum_3 : List XP := [⟨.exit 0, [.any, .any, .any, .sc (.int .i64), .any, .any, .any, .any, .any, .any, .any, .any, .any, .any, .any, .any, .any], []⟩]
def lc_sat_Sum_3 (N : Nat) : LC := mkLC 0 p_sat_Sum_3 h_sat_Sum_3 x_sat_Sum_3 (sat_Sum_L3 N)
def s_sat_Sum (N : Nat) : List (Nat × LC) := [(3, lc_sat_Sum_3 N)]
noncomputable def e_sat_Sum (N : Nat) : Env := mkEnvX 0 [] Tryd.prog o_sat_Add (s_sat_Sum N) N
theorem k_sat_Sum_3 (N : Nat) : LCOK (e_sat_Sum N) 12 (loopAt Tryd.prog 23 0) (lc_sat_Sum_3 N) := mkLC_ok rfl (by kernel_rfl) (by kernel_rfl) (fun F x => by kernel_rfl)
theorem q_sat_Sum (N : Nat) : LoopsFor (e_sat_Sum N) Tryd.prog 23 1 := loops_mk (by kernel_rfl) (fun j hj => match j, hj with
  | 0, _ => .inl ⟨lc_sat_Sum_3 N, by kernel_rfl, k_sat_Sum_3 N⟩
  | _ + 1, h => absurd h (by omega)) (fun _ => rfl)
def c_sat_Sum : FC := mkF [.row 2 [.int .i64]] [.sc (.int .i64)] sat_Sum
theorem t_sat_Sum (N : Nat) : FCOK Tryd.prog N 23 c_sat_Sum := fun_ok facts (ok_sat_Add N) (by kernel_rfl) (by kernel_rfl) (q_sat_Sum N) (fun t => by kernel_rfl)
def o_sat_Sum : List (Nat × FC) := (23, c_sat_Sum) :: o_sat_Add
theorem ok_sat_Sum (N : Nat) : OrcOK Tryd.prog o_sat_Sum N := orc_cons (t_sat_Sum N) (ok_sat_Add N)
def s_stats_Of (_ : Nat) : List (Nat × LC) := []
noncomputable def e_stats_Of (N : Nat) : Env := mkEnvX 0 [] Tryd.prog o_sat_Sum (s_stats_Of N) N
theorem q_stats_Of (N : Nat) : LoopsFor (e_stats_Of N) Tryd.prog 8 0 := loops_mk (by kernel_rfl) (fun j hj => match j, hj with
  | _ + 0, h => absurd h (by omega)) (fun _ => rfl)
def c_stats_Of : FC := mkF [.row 2 [.int .i64]] [.agg [.int .i64, .int .i64, .int .i64, .int .i64, .int .i64, .int .i64, .int .i64]] stats_Of
theorem t_stats_Of (N : Nat) : FCOK Tryd.prog N 8 c_stats_Of := fun_ok facts (ok_sat_Sum N) (by kernel_rfl) (by kernel_rfl) (q_stats_Of N) (fun t => by kernel_rfl)
def o_stats_Of : List (Nat × FC) := (8, c_stats_Of) :: o_sat_Sum
theorem ok_stats_Of (N : Nat) : OrcOK Tryd.prog o_stats_Of N := orc_cons (t_stats_Of N) (ok_sat_Sum N)
def s_leatref01_Add (_ : Nat) : List (Nat × LC) := []
noncomputable def e_leatref01_Add (N : Nat) : Env := mkEnvX 0 [] Tryd.prog o_stats_Of (s_leatref01_Add N) N
theorem q_leatref01_Add (N : Nat) : LoopsFor (e_leatref01_Add N) Tryd.prog 42 0 := loops_mk (by kernel_rfl) (fun j hj => match j, hj with
  | _ + 0, h => absurd h (by omega)) (fun _ => rfl)
def c_leatref01_Add : FC := mkF [.sc (.int .i64), .sc (.int .i64)] [.sc (.int .i64)] leatref01_Add
theorem t_leatref01_Add (N : Nat) : FCOK Tryd.prog N 42 c_leatref01_Add := fun_ok facts (ok_stats_Of N) (by kernel_rfl) (by kernel_rfl) (q_leatref01_Add N) (fun t => by kernel_rfl)
def o_leatref01_Add : List (Nat × FC) := (42, c_leatref01_Add) :: o_stats_Of
theorem ok_leatref01_Add (N : Nat) : OrcOK Tryd.prog o_leatref01_Add N := orc_cons (t_leatref01_Add N) (ok_stats_Of N)
def p_leatref01_Sum_3 : List Pat := [.sl 0, .any, .any, .sc (.int .i64), .sc (.int .i64), .any, .any, .any, .any, .any, .any, .any, .any, .any, .any, .any, .any, .any]
def h_leatref01_Sum_3 : List HPat := [.ext 2 [.int .i64]]
def x_leatref01_Sum_3 : List XP := [⟨.exit 0, [.any, .any, .any, .sc (.int .i64), .any, .any, .any, .any, .any, .any, .any, .any, .any, .any, .any, .any, .any, .any], []⟩]
def lc_leatref01_Sum_3 (N : Nat) : LC := mkLC 0 p_leatref01_Sum_3 h_leatref01_Sum_3 x_leatref01_Sum_3 (leatref01_Sum_L3 N)
def s_leatref01_Sum (N : Nat) : List (Nat × LC) := [(3, lc_leatref01_Sum_3 N)]
noncomputable def e_leatref01_Sum (N : Nat) : Env := mkEnvX 0 [] Tryd.prog o_leatref01_Add (s_leatref01_Sum N) N
theorem k_leatref01_Sum_3 (N : Nat) : LCOK (e_leatref01_Sum N) 12 (loopAt Tryd.prog 24 0) (lc_leatref01_Sum_3 N) := mkLC_ok rfl (by kernel_rfl) (by kernel_rfl) (fun F x => by kernel_rfl)
theorem q_leatref01_Sum (N : Nat) : LoopsFor (e_leatref01_Sum N) Tryd.prog 24 1 := loops_mk (by kernel_rfl) (fun j hj => match j, hj with
  | 0, _ => .inl ⟨lc_leatref01_Sum_3 N, by kernel_rfl, k_leatref01_Sum_3 N⟩
  | _ + 1, h => absurd h (by omega)) (fun _ => rfl)
def c_leatref01_Sum : FC := mkF [.row 2 [.int .i64]] [.sc (.int .i64)] leatref01_Sum
theorem t_leatref01_Sum (N : Nat) : FCOK Tryd.prog N 24 c_leatref01_Sum := fun_ok facts (ok_leatref01_Add N) (by kernel_rfl) (by kernel_rfl) (q_leatref01_Sum N) (fun t => by kernel_rfl)
def o_leatref01_Sum : List (Nat × FC) := (24, c_leatref01_Sum) :: o_leatref01_Add
theorem ok_leatref01_Sum (N : Nat) : OrcOK Tryd.prog o_leatref01_Sum N := orc_cons (t_leatref01_Sum N) (ok_leatref01_Add N)
def s_leatref52_Of (_ : Nat) : List (Nat × LC) := []
noncomputable def e_leatref52_Of (N : Nat) : Env := mkEnvX 0 [] Tryd.prog o_leatref01_Sum (s_leatref52_Of N) N
theorem q_leatref52_Of (N : Nat) : LoopsFor (e_leatref52_Of N) Tryd.prog 9 0 := loops_mk (by kernel_rfl) (fun j hj => match j, hj with
  | _ + 0, h => absurd h (by omega)) (fun _ => rfl)
def c_leatref52_Of : FC := mkF [.row 2 [.int .i64]] [.agg [.int .i64, .int .i64, .int .i64, .int .i64, .int .i64, .int .i64, .int .i64]] leatref52_Of
theorem t_leatref52_Of (N : Nat) : FCOK Tryd.prog N 9 c_leatref52_Of := fun_ok facts (ok_leatref01_Sum N) (by kernel_rfl) (by kernel_rfl) (q_leatref52_Of N) (fun t => by kernel_rfl)
def o_leatref52_Of : List (Nat × FC) := (9, c_leatref52_Of) :: o_leatref01_Sum
theorem ok_leatref52_Of (N : Nat) : OrcOK Tryd.prog o_leatref52_Of N := orc_cons (t_leatref52_Of N) (ok_leatref01_Sum N)
def p_leatref52_row_2 : List Pat := [.sc (.str), .sl 0, .any, .any, .any, .sc (.int .i64), .any, .any, .any, .any, .any, .any, .any, .any, .any, .any, .any, .any, .any, .any, .any, .any]
def h_leatref52_row_2 : List HPat := [.ext 2 [.int .i64]]
def x_leatref52_row_2 : List XP := [⟨.exit 0, [.sc (.str), .any, .any, .any, .any, .any, .any, .any, .any, .any, .any, .any, .any, .any, .any, .any, .any, .any, .any, .any, .any, .any], []⟩]
def lc_leatref52_row_2 (N : Nat) : LC := mkLC 0 p_leatref52_row_2 h_leatref52_row_2 x_leatref52_row_2 (leatref52_row_L2 N)
def s_leatref52_row (N : Nat) : List (Nat × LC) := [(2, lc_leatref52_row_2 N)]
noncomputable def e_leatref52_row (N : Nat) : Env := mkEnvX 0 [] Tryd.prog o_leatref52_Of (s_leatref52_row N) N
theorem k_leatref52_row_2 (N : Nat) : LCOK (e_leatref52_row N) 12 (loopAt Tryd.prog 26 0) (lc_leatref52_row_2 N) := mkLC_ok rfl (by kernel_rfl) (by kernel_rfl) (fun F x => by kernel_rfl)
theorem q_leatref52_row (N : Nat) : LoopsFor (e_leatref52_row N) Tryd.prog 26 1 := loops_mk (by kernel_rfl) (fun j hj => match j, hj with
  | 0, _ => .inl ⟨lc_leatref52_row_2 N, by kernel_rfl, k_leatref52_row_2 N⟩
  | _ + 1, h => absurd h (by omega)) (fun _ => rfl)
def c_leatref52_row : FC := mkF [.sc (.str), .row 2 [.int .i64]] [.sc (.str)] leatref52_row
theorem t_leatref52_row (N : Nat) : FCOK Tryd.prog N 26 c_leatref52_row := fun_ok facts (ok_leatref52_Of N) (by kernel_rfl) (by kernel_rfl) (q_leatref52_row N) (fun t => by kernel_rfl)
def o_leatref52_row : List (Nat × FC) := (26, c_leatref52_row) :: o_leatref52_Of
theorem ok_leatref52_row (N : Nat) : OrcOK Tryd.prog o_leatref52_row N := orc_cons (t_leatref52_row N) (ok_leatref52_Of N)
def s_leatref52_Line (_ : Nat) : List (Nat × LC) := []
noncomputable def e_leatref52_Line (N : Nat) : Env := mkEnvX 0 [] Tryd.prog o_leatref52_row (s_leatref52_Line N) N
theorem q_leatref52_Line (N : Nat) : LoopsFor (e_leatref52_Line N) Tryd.prog 11 0 := loops_mk (by kernel_rfl) (fun j hj => match j, hj with
  | _ + 0, h => absurd h (by omega)) (fun _ => rfl)
def c_leatref52_Line : FC := mkF [.sc (.str), .row 2 [.int .i64]] [.sc (.str)] leatref52_Line
theorem t_leatref52_Line (N : Nat) : FCOK Tryd.prog N 11 c_leatref52_Line := fun_ok facts (ok_leatref52_row N) (by kernel_rfl) (by kernel_rfl) (q_leatref52_Line N) (fun t => by kernel_rfl)
def o_leatref52_Line : List (Nat × FC) := (11, c_leatref52_Line) :: o_leatref52_row
theorem ok_leatref52_Line (N : Nat) : OrcOK Tryd.prog o_leatref52_Line N := orc_cons (t_leatref52_Line N) (ok_leatref52_row N)
def s_stats_Line (_ : Nat) : List (Nat × LC) := []
noncomputable def e_stats_Line (N : Nat) : Env := mkEnvX 0 [] Tryd.prog o_leatref52_Line (s_stats_Line N) N
theorem q_stats_Line (N : Nat) : LoopsFor (e_stats_Line N) Tryd.prog 10 0 := loops_mk (by kernel_rfl) (fun j hj => match j, hj with
  | _ + 0, h => absurd h (by omega)) (fun _ => rfl)
def c_stats_Line : FC := mkF [.sc (.str), .row 2 [.int .i64]] [.sc (.str)] stats_Line
theorem t_stats_Line (N : Nat) : FCOK Tryd.prog N 10 c_stats_Line := fun_ok facts (ok_leatref52_Line N) (by kernel_rfl) (by kernel_rfl) (q_stats_Line N) (fun t => by kernel_rfl)
def o_stats_Line : List (Nat × FC) := (10, c_stats_Line) :: o_leatref52_Line
theorem ok_stats_Line (N : Nat) : OrcOK Tryd.prog o_stats_Line N := orc_cons (t_stats_Line N) (ok_leatref52_Line N)
def s_wide_MulDiv (_ : Nat) : List (Nat × LC) := []
noncomputable def e_wide_MulDiv (N : Nat) : Env := mkEnvX 0 [] Tryd.prog o_stats_Line (s_wide_MulDiv N) N
theorem q_wide_MulDiv (N : Nat) : LoopsFor (e_wide_MulDiv N) Tryd.prog 30 0 := loops_mk (by kernel_rfl) (fun j hj => match j, hj with
  | _ + 0, h => absurd h (by omega)) (fun _ => rfl)
def c_wide_MulDiv : FC := mkF [.sc (.int .i64), .sc (.int .i64), .sc (.int .i64)] [.sc (.int .i64), .sc (.int .i64)] wide_MulDiv
theorem t_wide_MulDiv (N : Nat) : FCOK Tryd.prog N 30 c_wide_MulDiv := fun_ok facts (ok_stats_Line N) (by kernel_rfl) (by kernel_rfl) (q_wide_MulDiv N) (fun t => by kernel_rfl)
def o_wide_MulDiv : List (Nat × FC) := (30, c_wide_MulDiv) :: o_stats_Line
theorem ok_wide_MulDiv (N : Nat) : OrcOK Tryd.prog o_wide_MulDiv N := orc_cons (t_wide_MulDiv N) (ok_stats_Line N)
def s_stats_Bar (_ : Nat) : List (Nat × LC) := []
noncomputable def e_stats_Bar (N : Nat) : Env := mkEnvX 0 [] Tryd.prog o_wide_MulDiv (s_stats_Bar N) N
theorem q_stats_Bar (N : Nat) : LoopsFor (e_stats_Bar N) Tryd.prog 17 0 := loops_mk (by kernel_rfl) (fun j hj => match j, hj with
  | _ + 0, h => absurd h (by omega)) (fun _ => rfl)
def c_stats_Bar : FC := mkF [.sc (.int .i64), .sc (.int .i64), .sc (.int .i64)] [.sc (.str)] stats_Bar
theorem t_stats_Bar (N : Nat) : FCOK Tryd.prog N 17 c_stats_Bar := fun_ok facts (ok_wide_MulDiv N) (by kernel_rfl) (by kernel_rfl) (q_stats_Bar N) (fun t => by kernel_rfl)
def o_stats_Bar : List (Nat × FC) := (17, c_stats_Bar) :: o_wide_MulDiv
theorem ok_stats_Bar (N : Nat) : OrcOK Tryd.prog o_stats_Bar N := orc_cons (t_stats_Bar N) (ok_wide_MulDiv N)
def s_leatlaw52_works (_ : Nat) : List (Nat × LC) := []
noncomputable def e_leatlaw52_works (N : Nat) : Env := mkEnvX 0 [] Tryd.prog o_stats_Bar (s_leatlaw52_works N) N
theorem q_leatlaw52_works (N : Nat) : LoopsFor (e_leatlaw52_works N) Tryd.prog 12 0 := loops_mk (by kernel_rfl) (fun j hj => match j, hj with
  | _ + 0, h => absurd h (by omega)) (fun _ => rfl)
def c_leatlaw52_works : FC := mkF [] [.sc (.bool)] leatlaw52_works
theorem t_leatlaw52_works (N : Nat) : FCOK Tryd.prog N 12 c_leatlaw52_works := fun_ok facts (ok_stats_Bar N) (by kernel_rfl) (by kernel_rfl) (q_leatlaw52_works N) (fun t => by kernel_rfl)
def o_leatlaw52_works : List (Nat × FC) := (12, c_leatlaw52_works) :: o_stats_Bar
theorem ok_leatlaw52_works (N : Nat) : OrcOK Tryd.prog o_leatlaw52_works N := orc_cons (t_leatlaw52_works N) (ok_stats_Bar N)
def p_stats_Buckets_6 : List Pat := [.any, .any, .any, .sl 0, .any, .sc (.int .i64), .sc (.int .i64), .sl 1, .sc (.int .i64), .sc (.int .i64), .any, .any, .any, .any, .any, .any, .any, .any, .any, .any, .any, .any, .any, .any, .any, .any, .any, .any, .any, .any, .any, .any, .any, .any]
def h_stats_Buckets_6 : List HPat := [.rows 2 [.int .i64], .ext 2 [.int .i64]]
def x_stats_Buckets_6 : List XP := [⟨.exit 2, [.any, .any, .any, .sl 0, .any, .any, .sc (.int .i64), .sl 1, .sc (.int .i64), .sc (.int .i64), .any, .any, .any, .any, .any, .any, .any, .any, .any, .any, .any, .any, .any, .any, .any, .any, .any, .any, .any, .any, .any, .any, .any, .any], [.rows 2 [.int .i64], .ext 2 [.int .i64]]⟩]
def lc_stats_Buckets_6 (N : Nat) : LC := mkLC 0 p_stats_Buckets_6 h_stats_Buckets_6 x_stats_Buckets_6 (stats_Buckets_L6 N)
def p_stats_Buckets_9 : List Pat := [.any, .any, .any, .sl 0, .any, .any, .sc (.int .i64), .sl 1, .sc (.int .i64), .sc (.int .i64), .any, .any, .any, .any, .any, .any, .any, .any, .any, .any, .any, .any, .any, .any, .any, .any, .any, .any, .any, .any, .any, .any, .any, .any]
def h_stats_Buckets_9 : List HPat := [.rows 2 [.int .i64], .ext 2 [.int .i64]]
def x_stats_Buckets_9 : List XP := [⟨.exit 4, [.any, .any, .any, .sl 0, .any, .any, .sc (.int .i64), .sl 1, .sc (.int .i64), .sc (.int .i64), .any, .any, .any, .any, .any, .any, .any, .any, .any, .any, .any, .any, .any, .any, .any, .any, .any, .any, .any, .any, .any, .any, .any, .any], [.rows 2 [.int .i64], .ext 2 [.int .i64]]⟩]
def lc_stats_Buckets_9 (N : Nat) : LC := mkLC 0 p_stats_Buckets_9 h_stats_Buckets_9 x_stats_Buckets_9 (stats_Buckets_L9 N)
def p_stats_Buckets_3 : List Pat := [.any, .any, .any, .sl 0, .any, .any, .any, .sl 1, .sc (.int .i64), .sc (.int .i64), .any, .any, .any, .any, .any, .any, .any, .any, .any, .any, .any, .any, .any, .any, .any, .any, .any, .any, .any, .any, .any, .any, .any, .any]
def h_stats_Buckets_3 : List HPat := [.rows 2 [.int .i64], .ext 2 [.int .i64]]
def x_stats_Buckets_3 : List XP := [⟨.exit 0, [.any, .any, .any, .sl 0, .any, .any, .any, .any, .any, .any, .any, .any, .any, .any, .any, .any, .any, .any, .any, .any, .any, .any, .any, .any, .any, .any, .any, .any, .any, .any, .any, .any, .any, .any], [.rows 2 [.int .i64]]⟩]
def lc_stats_Buckets_3 (N : Nat) : LC := mkLC 0 p_stats_Buckets_3 h_stats_Buckets_3 x_stats_Buckets_3 (stats_Buckets_L3 N)
def s_stats_Buckets (N : Nat) : List (Nat × LC) := [(6, lc_stats_Buckets_6 N), (9, lc_stats_Buckets_9 N), (3, lc_stats_Buckets_3 N)]
noncomputable def e_stats_Buckets (N : Nat) : Env := mkEnvX 0 [] Tryd.prog o_leatlaw52_works (s_stats_Buckets N) N
theorem k_stats_Buckets_6 (N : Nat) : LCOK (e_stats_Buckets N) 12 (loopAt Tryd.prog 13 1) (lc_stats_Buckets_6 N) := mkLC_ok rfl (by kernel_rfl) (by kernel_rfl) (fun F x => by kernel_rfl)
theorem k_stats_Buckets_9 (N : Nat) : LCOK (e_stats_Buckets N) 12 (loopAt Tryd.prog 13 2) (lc_stats_Buckets_9 N) := mkLC_ok rfl (by kernel_rfl) (by kernel_rfl) (fun F x => by kernel_rfl)
theorem k_stats_Buckets_3 (N : Nat) : LCOK (e_stats_Buckets N) 12 (loopAt Tryd.prog 13 0) (lc_stats_Buckets_3 N) := mkLC_ok rfl (by kernel_rfl) (by kernel_rfl) (fun F x => by kernel_rfl)
theorem q_stats_Buckets (N : Nat) : LoopsFor (e_stats_Buckets N) Tryd.prog 13 3 := loops_mk (by kernel_rfl) (fun j hj => match j, hj with
  | 0, _ => .inl ⟨lc_stats_Buckets_3 N, by kernel_rfl, k_stats_Buckets_3 N⟩
  | 1, _ => .inl ⟨lc_stats_Buckets_6 N, by kernel_rfl, k_stats_Buckets_6 N⟩
  | 2, _ => .inl ⟨lc_stats_Buckets_9 N, by kernel_rfl, k_stats_Buckets_9 N⟩
  | _ + 3, h => absurd h (by omega)) (fun _ => rfl)
def c_stats_Buckets : FC := mkF [.row 2 [.int .i64]] [.row 2 [.int .i64]] stats_Buckets
theorem t_stats_Buckets (N : Nat) : FCOK Tryd.prog N 13 c_stats_Buckets := fun_ok facts (ok_leatlaw52_works N) (by kernel_rfl) (by kernel_rfl) (q_stats_Buckets N) (fun t => by kernel_rfl)
def o_stats_Buckets : List (Nat × FC) := (13, c_stats_Buckets) :: o_leatlaw52_works
theorem ok_stats_Buckets (N : Nat) : OrcOK Tryd.prog o_stats_Buckets N := orc_cons (t_stats_Buckets N) (ok_leatlaw52_works N)
def p_leatref52_Buckets_6 : List Pat := [.sl 0, .any, .any, .sl 1, .sc (.int .i64), .sc (.int .i64), .any, .any, .any, .any, .any, .any, .any, .any, .any, .any, .any, .any, .any, .any, .any, .any, .any, .any, .any, .any, .any, .any, .any, .any, .any, .any, .any, .any, .any, .any, .any, .any, .any, .any]
def h_leatref52_Buckets_6 : List HPat := [.ext 2 [.int .i64], .rows 2 [.int .i64]]
def x_leatref52_Buckets_6 : List XP := [⟨.exit 2, [.sl 0, .any, .any, .sl 1, .sc (.int .i64), .sc (.int .i64), .any, .any, .any, .any, .any, .any, .any, .any, .any, .any, .any, .any, .any, .any, .any, .any, .any, .any, .any, .any, .any, .any, .any, .any, .any, .any, .any, .any, .any, .any, .any, .any, .any, .any], [.ext 2 [.int .i64], .rows 2 [.int .i64]]⟩]
def lc_leatref52_Buckets_6 (N : Nat) : LC := mkLC 0 p_leatref52_Buckets_6 h_leatref52_Buckets_6 x_leatref52_Buckets_6 (leatref52_Buckets_L6 N)
def p_leatref52_Buckets_8 : List Pat := [.sl 0, .any, .any, .sl 1, .sc (.int .i64), .sc (.int .i64), .any, .any, .any, .any, .any, .any, .any, .any, .any, .any, .any, .any, .any, .any, .any, .any, .any, .any, .any, .any, .any, .any, .any, .any, .any, .any, .any, .any, .any, .any, .any, .any, .any, .any]
def h_leatref52_Buckets_8 : List HPat := [.ext 2 [.int .i64], .rows 2 [.int .i64]]
def x_leatref52_Buckets_8 : List XP := [⟨.exit 4, [.sl 0, .any, .any, .sl 1, .sc (.int .i64), .sc (.int .i64), .any, .any, .any, .any, .any, .any, .any, .any, .any, .any, .any, .any, .any, .any, .any, .any, .any, .any, .any, .any, .any, .any, .any, .any, .any, .any, .any, .any, .any, .any, .any, .any, .any, .any], [.ext 2 [.int .i64], .rows 2 [.int .i64]]⟩]
def lc_leatref52_Buckets_8 (N : Nat) : LC := mkLC 0 p_leatref52_Buckets_8 h_leatref52_Buckets_8 x_leatref52_Buckets_8 (leatref52_Buckets_L8 N)
def p_leatref52_Buckets_3 : List Pat := [.sl 0, .any, .any, .sl 1, .sc (.int .i64), .any, .any, .any, .any, .any, .any, .any, .any, .any, .any, .any, .any, .any, .any, .any, .any, .any, .any, .any, .any, .any, .any, .any, .any, .any, .any, .any, .any, .any, .any, .any, .any, .any, .any, .any]
def h_leatref52_Buckets_3 : List HPat := [.ext 2 [.int .i64], .rows 2 [.int .i64]]
def x_leatref52_Buckets_3 : List XP := [⟨.exit 0, [.any, .any, .any, .sl 0, .any, .any, .any, .any, .any, .any, .any, .any, .any, .any, .any, .any, .any, .any, .any, .any, .any, .any, .any, .any, .any, .any, .any, .any, .any, .any, .any, .any, .any, .any, .any, .any, .any, .any, .any, .any], [.rows 2 [.int .i64]]⟩]
def lc_leatref52_Buckets_3 (N : Nat) : LC := mkLC 0 p_leatref52_Buckets_3 h_leatref52_Buckets_3 x_leatref52_Buckets_3 (leatref52_Buckets_L3 N)
def s_leatref52_Buckets (N : Nat) : List (Nat × LC) := [(6, lc_leatref52_Buckets_6 N), (8, lc_leatref52_Buckets_8 N), (3, lc_leatref52_Buckets_3 N)]
noncomputable def e_leatref52_Buckets (N : Nat) : Env := mkEnvX 0 [] Tryd.prog o_stats_Buckets (s_leatref52_Buckets N) N
theorem k_leatref52_Buckets_6 (N : Nat) : LCOK (e_leatref52_Buckets N) 12 (loopAt Tryd.prog 14 1) (lc_leatref52_Buckets_6 N) := mkLC_ok rfl (by kernel_rfl) (by kernel_rfl) (fun F x => by kernel_rfl)
theorem k_leatref52_Buckets_8 (N : Nat) : LCOK (e_leatref52_Buckets N) 12 (loopAt Tryd.prog 14 2) (lc_leatref52_Buckets_8 N) := mkLC_ok rfl (by kernel_rfl) (by kernel_rfl) (fun F x => by kernel_rfl)
theorem k_leatref52_Buckets_3 (N : Nat) : LCOK (e_leatref52_Buckets N) 12 (loopAt Tryd.prog 14 0) (lc_leatref52_Buckets_3 N) := mkLC_ok rfl (by kernel_rfl) (by kernel_rfl) (fun F x => by kernel_rfl)
theorem q_leatref52_Buckets (N : Nat) : LoopsFor (e_leatref52_Buckets N) Tryd.prog 14 3 := loops_mk (by kernel_rfl) (fun j hj => match j, hj with
  | 0, _ => .inl ⟨lc_leatref52_Buckets_3 N, by kernel_rfl, k_leatref52_Buckets_3 N⟩
  | 1, _ => .inl ⟨lc_leatref52_Buckets_6 N, by kernel_rfl, k_leatref52_Buckets_6 N⟩
  | 2, _ => .inl ⟨lc_leatref52_Buckets_8 N, by kernel_rfl, k_leatref52_Buckets_8 N⟩
  | _ + 3, h => absurd h (by omega)) (fun _ => rfl)
def c_leatref52_Buckets : FC := mkF [.row 2 [.int .i64]] [.row 2 [.int .i64]] leatref52_Buckets
theorem t_leatref52_Buckets (N : Nat) : FCOK Tryd.prog N 14 c_leatref52_Buckets := fun_ok facts (ok_stats_Buckets N) (by kernel_rfl) (by kernel_rfl) (q_leatref52_Buckets N) (fun t => by kernel_rfl)
def o_leatref52_Buckets : List (Nat × FC) := (14, c_leatref52_Buckets) :: o_stats_Buckets
theorem ok_leatref52_Buckets (N : Nat) : OrcOK Tryd.prog o_leatref52_Buckets N := orc_cons (t_leatref52_Buckets N) (ok_stats_Buckets N)
def s_fixed_Ratio (_ : Nat) : List (Nat × LC) := []
noncomputable def e_fixed_Ratio (N : Nat) : Env := mkEnvX 0 [] Tryd.prog o_leatref52_Buckets (s_fixed_Ratio N) N
theorem q_fixed_Ratio (N : Nat) : LoopsFor (e_fixed_Ratio N) Tryd.prog 28 0 := loops_mk (by kernel_rfl) (fun j hj => match j, hj with
  | _ + 0, h => absurd h (by omega)) (fun _ => rfl)
def c_fixed_Ratio : FC := mkF [.sc (.int .i64), .sc (.int .i64)] [.sc (.int .i64)] fixed_Ratio
theorem t_fixed_Ratio (N : Nat) : FCOK Tryd.prog N 28 c_fixed_Ratio := fun_ok facts (ok_leatref52_Buckets N) (by kernel_rfl) (by kernel_rfl) (q_fixed_Ratio N) (fun t => by kernel_rfl)
def o_fixed_Ratio : List (Nat × FC) := (28, c_fixed_Ratio) :: o_leatref52_Buckets
theorem ok_fixed_Ratio (N : Nat) : OrcOK Tryd.prog o_fixed_Ratio N := orc_cons (t_fixed_Ratio N) (ok_leatref52_Buckets N)
def p_stats_Fair_4 : List Pat := [.any, .any, .any, .sl 0, .sc (.int .i64), .any, .any, .any, .any, .any, .any, .any, .any, .any, .any, .sl 1, .sc (.int .i64), .sc (.int .i64), .any, .any, .any, .any, .any, .any, .any, .any, .any, .any, .any, .any, .any, .any, .any, .any, .any, .any, .any, .any, .any, .any, .any, .any, .any, .any, .any, .any, .any, .any, .any, .any, .any, .any, .any, .any, .any, .any, .any, .any, .any, .any]
def h_stats_Fair_4 : List HPat := [.rows 2 [.int .i64], .ext 2 [.int .i64]]
def x_stats_Fair_4 : List XP := [⟨.exit 0, [.any, .any, .any, .sl 0, .sc (.int .i64), .any, .any, .any, .any, .any, .any, .any, .any, .any, .any, .any, .any, .any, .any, .any, .any, .any, .any, .any, .any, .any, .any, .any, .any, .any, .any, .any, .any, .any, .any, .any, .any, .any, .any, .any, .any, .any, .any, .any, .any, .any, .any, .any, .any, .any, .any, .any, .any, .any, .any, .any, .any, .any, .any, .any], [.rows 2 [.int .i64]]⟩]
def lc_stats_Fair_4 (N : Nat) : LC := mkLC 0 p_stats_Fair_4 h_stats_Fair_4 x_stats_Fair_4 (stats_Fair_L4 N)
def p_stats_Fair_12 : List Pat := [.any, .any, .any, .sl 0, .sc (.int .i64), .any, .any, .sc (.int .i64), .sc (.int .i64), .any, .any, .any, .any, .any, .any, .any, .any, .any, .any, .any, .any, .any, .any, .any, .any, .any, .any, .any, .any, .any, .any, .sl 0, .sc (.int .i64), .sc (.int .i64), .any, .any, .any, .any, .any, .any, .any, .any, .any, .any, .any, .any, .any, .any, .any, .any, .any, .any, .any, .any, .any, .any, .any, .any, .any, .any]
def h_stats_Fair_12 : List HPat := [.rows 2 [.int .i64]]
def x_stats_Fair_12 : List XP := [⟨.exit 2, [.any, .any, .any, .sl 0, .any, .any, .any, .sc (.int .i64), .sc (.int .i64), .any, .any, .any, .any, .any, .any, .any, .any, .any, .any, .any, .any, .any, .any, .any, .any, .any, .any, .any, .any, .any, .any, .any, .any, .any, .any, .any, .any, .any, .any, .any, .any, .any, .any, .any, .any, .any, .any, .any, .any, .any, .any, .any, .any, .any, .any, .any, .any, .any, .any, .any], [.rows 2 [.int .i64]]⟩]
def lc_stats_Fair_12 (N : Nat) : LC := mkLC 0 p_stats_Fair_12 h_stats_Fair_12 x_stats_Fair_12 (stats_Fair_L12 N)
def s_stats_Fair (N : Nat) : List (Nat × LC) := [(4, lc_stats_Fair_4 N), (12, lc_stats_Fair_12 N)]
noncomputable def e_stats_Fair (N : Nat) : Env := mkEnvX 0 [] Tryd.prog o_fixed_Ratio (s_stats_Fair N) N
theorem k_stats_Fair_4 (N : Nat) : LCOK (e_stats_Fair N) 12 (loopAt Tryd.prog 15 0) (lc_stats_Fair_4 N) := mkLC_ok rfl (by kernel_rfl) (by kernel_rfl) (fun F x => by kernel_rfl)
theorem k_stats_Fair_12 (N : Nat) : LCOK (e_stats_Fair N) 12 (loopAt Tryd.prog 15 1) (lc_stats_Fair_12 N) := mkLC_ok rfl (by kernel_rfl) (by kernel_rfl) (fun F x => by kernel_rfl)
theorem q_stats_Fair (N : Nat) : LoopsFor (e_stats_Fair N) Tryd.prog 15 2 := loops_mk (by kernel_rfl) (fun j hj => match j, hj with
  | 0, _ => .inl ⟨lc_stats_Fair_4 N, by kernel_rfl, k_stats_Fair_4 N⟩
  | 1, _ => .inl ⟨lc_stats_Fair_12 N, by kernel_rfl, k_stats_Fair_12 N⟩
  | _ + 2, h => absurd h (by omega)) (fun _ => rfl)
def c_stats_Fair : FC := mkF [.row 2 [.int .i64]] [.sc (.int .i64)] stats_Fair
theorem t_stats_Fair (N : Nat) : FCOK Tryd.prog N 15 c_stats_Fair := fun_ok facts (ok_fixed_Ratio N) (by kernel_rfl) (by kernel_rfl) (q_stats_Fair N) (fun t => by kernel_rfl)
def o_stats_Fair : List (Nat × FC) := (15, c_stats_Fair) :: o_fixed_Ratio
theorem ok_stats_Fair (N : Nat) : OrcOK Tryd.prog o_stats_Fair N := orc_cons (t_stats_Fair N) (ok_fixed_Ratio N)
def s_leatref04_quo (_ : Nat) : List (Nat × LC) := []
noncomputable def e_leatref04_quo (N : Nat) : Env := mkEnvX 0 [] Tryd.prog o_stats_Fair (s_leatref04_quo N) N
theorem q_leatref04_quo (N : Nat) : LoopsFor (e_leatref04_quo N) Tryd.prog 47 0 := loops_mk (by kernel_rfl) (fun j hj => match j, hj with
  | _ + 0, h => absurd h (by omega)) (fun _ => rfl)
def c_leatref04_quo : FC := mkF [.sc (.int .i64), .sc (.int .i64), .sc (.int .i64)] [.sc (.int .i64)] leatref04_quo
theorem t_leatref04_quo (N : Nat) : FCOK Tryd.prog N 47 c_leatref04_quo := fun_ok facts (ok_stats_Fair N) (by kernel_rfl) (by kernel_rfl) (q_leatref04_quo N) (fun t => by kernel_rfl)
def o_leatref04_quo : List (Nat × FC) := (47, c_leatref04_quo) :: o_stats_Fair
theorem ok_leatref04_quo (N : Nat) : OrcOK Tryd.prog o_leatref04_quo N := orc_cons (t_leatref04_quo N) (ok_stats_Fair N)
def s_leatref04_Ratio (_ : Nat) : List (Nat × LC) := []
noncomputable def e_leatref04_Ratio (N : Nat) : Env := mkEnvX 0 [] Tryd.prog o_leatref04_quo (s_leatref04_Ratio N) N
theorem q_leatref04_Ratio (N : Nat) : LoopsFor (e_leatref04_Ratio N) Tryd.prog 29 0 := loops_mk (by kernel_rfl) (fun j hj => match j, hj with
  | _ + 0, h => absurd h (by omega)) (fun _ => rfl)
def c_leatref04_Ratio : FC := mkF [.sc (.int .i64), .sc (.int .i64)] [.sc (.int .i64)] leatref04_Ratio
theorem t_leatref04_Ratio (N : Nat) : FCOK Tryd.prog N 29 c_leatref04_Ratio := fun_ok facts (ok_leatref04_quo N) (by kernel_rfl) (by kernel_rfl) (q_leatref04_Ratio N) (fun t => by kernel_rfl)
def o_leatref04_Ratio : List (Nat × FC) := (29, c_leatref04_Ratio) :: o_leatref04_quo
theorem ok_leatref04_Ratio (N : Nat) : OrcOK Tryd.prog o_leatref04_Ratio N := orc_cons (t_leatref04_Ratio N) (ok_leatref04_quo N)
def p_leatref52_Fair_3 : List Pat := [.sl 0, .any, .any, .sc (.int .i64), .sc (.int .i64), .any, .any, .any, .any, .any, .any, .any, .any, .any, .any, .any, .any, .any, .any, .any, .any, .any, .any, .any, .any, .any, .any, .any, .any, .any, .any, .any, .any, .any, .any, .any, .any, .any, .any, .any, .any, .any, .any, .any, .any, .any, .any, .any, .any, .any, .any, .any, .any, .any, .any, .any, .any, .any, .any, .any, .any, .any]
def h_leatref52_Fair_3 : List HPat := [.ext 2 [.int .i64]]
def x_leatref52_Fair_3 : List XP := [⟨.exit 0, [.sl 0, .any, .any, .sc (.int .i64), .any, .any, .any, .any, .any, .any, .any, .any, .any, .any, .any, .any, .any, .any, .any, .any, .any, .any, .any, .any, .any, .any, .any, .any, .any, .any, .any, .any, .any, .any, .any, .any, .any, .any, .any, .any, .any, .any, .any, .any, .any, .any, .any, .any, .any, .any, .any, .any, .any, .any, .any, .any, .any, .any, .any, .any, .any, .any], [.ext 2 [.int .i64]]⟩]
def lc_leatref52_Fair_3 (N : Nat) : LC := mkLC 0 p_leatref52_Fair_3 h_leatref52_Fair_3 x_leatref52_Fair_3 (leatref52_Fair_L3 N)
def p_leatref52_Fair_9 : List Pat := [.sl 0, .any, .any, .sc (.int .i64), .any, .sc (.int .i64), .sc (.int .i64), .sc (.int .i64), .sc (.int .i64), .any, .any, .any, .any, .any, .any, .any, .any, .any, .any, .any, .any, .any, .any, .any, .any, .any, .any, .any, .any, .any, .any, .any, .any, .any, .any, .any, .any, .any, .any, .any, .any, .any, .any, .any, .any, .any, .any, .any, .any, .any, .any, .any, .any, .any, .any, .any, .any, .any, .any, .any, .any, .any]
def h_leatref52_Fair_9 : List HPat := [.ext 2 [.int .i64]]
def x_leatref52_Fair_9 : List XP := [⟨.exit 2, [.any, .any, .any, .any, .any, .sc (.int .i64), .sc (.int .i64), .sc (.int .i64), .any, .any, .any, .any, .any, .any, .any, .any, .any, .any, .any, .any, .any, .any, .any, .any, .any, .any, .any, .any, .any, .any, .any, .any, .any, .any, .any, .any, .any, .any, .any, .any, .any, .any, .any, .any, .any, .any, .any, .any, .any, .any, .any, .any, .any, .any, .any, .any, .any, .any, .any, .any, .any, .any], []⟩]
def lc_leatref52_Fair_9 (N : Nat) : LC := mkLC 0 p_leatref52_Fair_9 h_leatref52_Fair_9 x_leatref52_Fair_9 (leatref52_Fair_L9 N)
def s_leatref52_Fair (N : Nat) : List (Nat × LC) := [(3, lc_leatref52_Fair_3 N), (9, lc_leatref52_Fair_9 N)]
noncomputable def e_leatref52_Fair (N : Nat) : Env := mkEnvX 0 [] Tryd.prog o_leatref04_Ratio (s_leatref52_Fair N) N
theorem k_leatref52_Fair_3 (N : Nat) : LCOK (e_leatref52_Fair N) 12 (loopAt Tryd.prog 16 0) (lc_leatref52_Fair_3 N) := mkLC_ok rfl (by kernel_rfl) (by kernel_rfl) (fun F x => by kernel_rfl)
theorem k_leatref52_Fair_9 (N : Nat) : LCOK (e_leatref52_Fair N) 12 (loopAt Tryd.prog 16 1) (lc_leatref52_Fair_9 N) := mkLC_ok rfl (by kernel_rfl) (by kernel_rfl) (fun F x => by kernel_rfl)
theorem q_leatref52_Fair (N : Nat) : LoopsFor (e_leatref52_Fair N) Tryd.prog 16 2 := loops_mk (by kernel_rfl) (fun j hj => match j, hj with
  | 0, _ => .inl ⟨lc_leatref52_Fair_3 N, by kernel_rfl, k_leatref52_Fair_3 N⟩
  | 1, _ => .inl ⟨lc_leatref52_Fair_9 N, by kernel_rfl, k_leatref52_Fair_9 N⟩
  | _ + 2, h => absurd h (by omega)) (fun _ => rfl)
def c_leatref52_Fair : FC := mkF [.row 2 [.int .i64]] [.sc (.int .i64)] leatref52_Fair
theorem t_leatref52_Fair (N : Nat) : FCOK Tryd.prog N 16 c_leatref52_Fair := fun_ok facts (ok_leatref04_Ratio N) (by kernel_rfl) (by kernel_rfl) (q_leatref52_Fair N) (fun t => by kernel_rfl)
def o_leatref52_Fair : List (Nat × FC) := (16, c_leatref52_Fair) :: o_leatref04_Ratio
theorem ok_leatref52_Fair (N : Nat) : OrcOK Tryd.prog o_leatref52_Fair N := orc_cons (t_leatref52_Fair N) (ok_leatref04_Ratio N)
def p_leatref52_Bar_7 : List Pat := [.any, .any, .any, .any, .any, .any, .any, .sc (.int .i64), .any, .sc (.str), .sc (.int .i64), .any, .any, .any, .any, .any, .any, .any, .any, .any, .any, .any, .any, .any, .any, .any, .any, .any, .any, .any, .any, .any, .any, .any, .any, .any, .any, .any, .any]
def h_leatref52_Bar_7 : List HPat := []
def x_leatref52_Bar_7 : List XP := [⟨.exit 0, [.any, .any, .any, .any, .any, .any, .any, .any, .any, .sc (.str), .any, .any, .any, .any, .any, .any, .any, .any, .any, .any, .any, .any, .any, .any, .any, .any, .any, .any, .any, .any, .any, .any, .any, .any, .any, .any, .any, .any, .any], []⟩]
def lc_leatref52_Bar_7 (N : Nat) : LC := mkLC 0 p_leatref52_Bar_7 h_leatref52_Bar_7 x_leatref52_Bar_7 (leatref52_Bar_L7 N)
def s_leatref52_Bar (N : Nat) : List (Nat × LC) := [(7, lc_leatref52_Bar_7 N)]
noncomputable def e_leatref52_Bar (N : Nat) : Env := mkEnvX 0 [] Tryd.prog o_leatref52_Fair (s_leatref52_Bar N) N
theorem k_leatref52_Bar_7 (N : Nat) : LCOK (e_leatref52_Bar N) 12 (loopAt Tryd.prog 18 0) (lc_leatref52_Bar_7 N) := mkLC_ok rfl (by kernel_rfl) (by kernel_rfl) (fun F x => by kernel_rfl)
theorem q_leatref52_Bar (N : Nat) : LoopsFor (e_leatref52_Bar N) Tryd.prog 18 1 := loops_mk (by kernel_rfl) (fun j hj => match j, hj with
  | 0, _ => .inl ⟨lc_leatref52_Bar_7 N, by kernel_rfl, k_leatref52_Bar_7 N⟩
  | _ + 1, h => absurd h (by omega)) (fun _ => rfl)
def c_leatref52_Bar : FC := mkF [.sc (.int .i64), .sc (.int .i64), .sc (.int .i64)] [.sc (.str)] leatref52_Bar
theorem t_leatref52_Bar (N : Nat) : FCOK Tryd.prog N 18 c_leatref52_Bar := fun_ok facts (ok_leatref52_Fair N) (by kernel_rfl) (by kernel_rfl) (q_leatref52_Bar N) (fun t => by kernel_rfl)
def o_leatref52_Bar : List (Nat × FC) := (18, c_leatref52_Bar) :: o_leatref52_Fair
theorem ok_leatref52_Bar (N : Nat) : OrcOK Tryd.prog o_leatref52_Bar N := orc_cons (t_leatref52_Bar N) (ok_leatref52_Fair N)
def p_leatlaw52_StatsShows_6 : List Pat := [.sl 0, .any, .sc (.int .i64), .any, .ptr 1 0, .any, .any, .sl 2, .sl 3, .any, .any, .any, .any, .any, .any, .any, .any, .any, .any, .any, .any, .any, .any, .any, .any, .sc (.int .i64), .sc (.int .i64), .any, .any, .any, .any, .any, .any, .any, .any, .any, .any, .any, .any, .any, .any, .any, .any, .any, .any, .any, .any, .any, .any, .any, .any, .any, .any, .any, .any, .any, .any, .any, .any, .any, .any, .any]
def h_leatlaw52_StatsShows_6 : List HPat := [.ext 2 [.int .i64], .cells [.sc (.int .i64), .sc (.int .i64)], .rows 2 [.int .i64], .rows 2 [.int .i64]]
def x_leatlaw52_StatsShows_6 : List XP := [⟨.ret, [.any, .any, .any, .any, .any, .any, .sc (.bool), .any, .any, .any, .any, .any, .any, .any, .any, .any, .any, .any, .any, .any, .any, .any, .any, .any, .any, .any, .any, .any, .any, .any, .any, .any, .any, .any, .any, .any, .any, .any, .any, .any, .any, .any, .any, .any, .any, .any, .any, .any, .any, .any, .any, .any, .any, .any, .any, .any, .any, .any, .any, .any, .any, .any], []⟩, ⟨.exit 0, [.sl 0, .any, .sc (.int .i64), .any, .ptr 1 0, .any, .any, .any, .any, .any, .any, .any, .any, .any, .any, .any, .any, .any, .any, .any, .any, .any, .any, .any, .any, .any, .any, .any, .any, .any, .any, .any, .any, .any, .any, .any, .any, .any, .any, .any, .any, .any, .any, .any, .any, .any, .any, .any, .any, .any, .any, .any, .any, .any, .any, .any, .any, .any, .any, .any, .any, .any], [.ext 2 [.int .i64], .cells [.sc (.int .i64), .sc (.int .i64)]]⟩]
def lc_leatlaw52_StatsShows_6 (N : Nat) : LC := mkLC 0 p_leatlaw52_StatsShows_6 h_leatlaw52_StatsShows_6 x_leatlaw52_StatsShows_6 (leatlaw52_StatsShows_L6 N)
def s_leatlaw52_StatsShows (N : Nat) : List (Nat × LC) := [(6, lc_leatlaw52_StatsShows_6 N)]
noncomputable def e_leatlaw52_StatsShows (N : Nat) : Env := mkEnvX 0 [] Tryd.prog o_leatref52_Bar (s_leatlaw52_StatsShows N) N
theorem k_leatlaw52_StatsShows_6 (N : Nat) : LCOK (e_leatlaw52_StatsShows N) 12 (loopAt Tryd.prog 4 0) (lc_leatlaw52_StatsShows_6 N) := mkLC_ok rfl (by kernel_rfl) (by kernel_rfl) (fun F x => by kernel_rfl)
theorem q_leatlaw52_StatsShows (N : Nat) : LoopsFor (e_leatlaw52_StatsShows N) Tryd.prog 4 1 := loops_mk (by kernel_rfl) (fun j hj => match j, hj with
  | 0, _ => .inl ⟨lc_leatlaw52_StatsShows_6 N, by kernel_rfl, k_leatlaw52_StatsShows_6 N⟩
  | _ + 1, h => absurd h (by omega)) (fun _ => rfl)
theorem okL_leatlaw52_StatsShows (N : Nat) : OrcOK Tryd.prog o_leatref52_Bar N := ok_leatref52_Bar N
theorem w_leatlaw52_StatsShows (N : Nat) (x : RT [.row 2 [.int .i64], .agg [.int .i64, .int .i64], .sc (.int .i64)]) : uncR [.row 2 [.int .i64], .agg [.int .i64, .int .i64], .sc (.int .i64)] (leatlaw52_StatsShows N) x = evFn (e_leatlaw52_StatsShows N) 13 4 (encA 0 [.row 2 [.int .i64], .agg [.int .i64, .int .i64], .sc (.int .i64)] x).1 (encA 0 [.row 2 [.int .i64], .agg [.int .i64, .int .i64], .sc (.int .i64)] x).2 (decR [.sc .bool]) := by kernel_rfl
def p_leatlaw52_StatsRises_7 : List Pat := [.sl 0, .sc (.int .u32), .sc (.int .u8), .any, .any, .any, .any, .any, .sc (.int .i64), .any, .any, .any, .any, .any, .any, .any, .any, .any, .any, .any, .any, .any, .any, .any, .any, .any, .any, .any, .any, .any, .any, .any, .any, .any, .any, .any, .any, .any, .any, .any, .any, .any, .any, .any, .any, .any, .any, .any, .any, .any, .any, .any, .any, .any, .any, .sl 1, .sc (.int .i64), .sc (.int .i64), .any, .any, .any, .any, .any, .any, .any, .any, .any, .any, .any, .any, .any, .any, .any, .any, .any, .any, .any, .any, .any, .any, .any, .any, .any, .any, .any, .any, .any, .any, .any, .any, .any, .any, .any, .any, .any, .any, .any, .any, .any, .any, .any, .any, .any, .any, .any, .any, .any, .any, .any, .any, .any, .any, .any, .any, .any, .any, .any]
def h_leatlaw52_StatsRises_7 : List HPat := [.ext 2 [.int .i64], .rows 2 [.int .i64]]
def x_leatlaw52_StatsRises_7 : List XP := [⟨.exit 0, [.sl 0, .sc (.int .u32), .sc (.int .u8), .any, .any, .any, .any, .any, .sc (.int .i64), .any, .any, .any, .any, .any, .any, .any, .any, .any, .any, .any, .any, .any, .any, .any, .any, .any, .any, .any, .any, .any, .any, .any, .any, .any, .any, .any, .any, .any, .any, .any, .any, .any, .any, .any, .any, .any, .any, .any, .any, .any, .any, .any, .any, .any, .any, .any, .any, .any, .any, .any, .any, .any, .any, .any, .any, .any, .any, .any, .any, .any, .any, .any, .any, .any, .any, .any, .any, .any, .any, .any, .any, .any, .any, .any, .any, .any, .any, .any, .any, .any, .any, .any, .any, .any, .any, .any, .any, .any, .any, .any, .any, .any, .any, .any, .any, .any, .any, .any, .any, .any, .any, .any, .any, .any, .any, .any, .any], [.ext 2 [.int .i64]]⟩]
def lc_leatlaw52_StatsRises_7 (N : Nat) : LC := mkLC 0 p_leatlaw52_StatsRises_7 h_leatlaw52_StatsRises_7 x_leatlaw52_StatsRises_7 (leatlaw52_StatsRises_L7 N)
def p_leatlaw52_StatsRises_13 : List Pat := [.sl 0, .sc (.int .u32), .any, .any, .any, .any, .any, .any, .sc (.int .i64), .any, .any, .sl 1, .any, .any, .any, .any, .any, .any, .any, .any, .any, .any, .any, .any, .any, .any, .any, .any, .any, .any, .any, .any, .any, .any, .any, .any, .any, .any, .any, .any, .any, .any, .any, .any, .any, .any, .any, .any, .any, .any, .any, .any, .any, .any, .any, .any, .any, .any, .any, .any, .any, .any, .any, .any, .any, .any, .any, .any, .sc (.int .i64), .sc (.int .i64), .any, .any, .any, .any, .any, .any, .any, .any, .any, .any, .any, .any, .any, .any, .any, .any, .any, .any, .any, .any, .any, .any, .any, .any, .any, .any, .any, .any, .any, .any, .any, .any, .any, .any, .any, .any, .any, .any, .any, .any, .any, .any, .any, .any, .any, .any, .any]
def h_leatlaw52_StatsRises_13 : List HPat := [.ext 2 [.int .i64], .rows 2 [.int .i64]]
def x_leatlaw52_StatsRises_13 : List XP := [⟨.exit 2, [.sl 0, .sc (.int .u32), .any, .any, .any, .any, .any, .any, .sc (.int .i64), .any, .any, .sl 1, .any, .any, .any, .any, .any, .any, .any, .any, .any, .any, .any, .any, .any, .any, .any, .any, .any, .any, .any, .any, .any, .any, .any, .any, .any, .any, .any, .any, .any, .any, .any, .any, .any, .any, .any, .any, .any, .any, .any, .any, .any, .any, .any, .any, .any, .any, .any, .any, .any, .any, .any, .any, .any, .any, .any, .any, .any, .any, .any, .any, .any, .any, .any, .any, .any, .any, .any, .any, .any, .any, .any, .any, .any, .any, .any, .any, .any, .any, .any, .any, .any, .any, .any, .any, .any, .any, .any, .any, .any, .any, .any, .any, .any, .any, .any, .any, .any, .any, .any, .any, .any, .any, .any, .any, .any], [.ext 2 [.int .i64], .rows 2 [.int .i64]]⟩]
def lc_leatlaw52_StatsRises_13 (N : Nat) : LC := mkLC 0 p_leatlaw52_StatsRises_13 h_leatlaw52_StatsRises_13 x_leatlaw52_StatsRises_13 (leatlaw52_StatsRises_L13 N)
def p_leatlaw52_StatsRises_18 : List Pat := [.sl 0, .sc (.int .u32), .any, .any, .any, .any, .any, .any, .sc (.int .i64), .any, .any, .sl 1, .sl 2, .any, .any, .any, .any, .any, .any, .any, .any, .any, .any, .any, .any, .any, .any, .any, .any, .any, .any, .any, .any, .any, .any, .any, .any, .any, .any, .any, .any, .any, .any, .any, .any, .any, .any, .any, .any, .any, .any, .any, .any, .any, .any, .any, .any, .any, .any, .any, .any, .any, .any, .any, .any, .any, .any, .any, .any, .any, .any, .any, .any, .any, .any, .any, .any, .any, .any, .any, .any, .any, .any, .sc (.int .i64), .sc (.int .i64), .any, .any, .any, .any, .any, .any, .any, .any, .any, .any, .any, .any, .any, .any, .any, .any, .any, .any, .any, .any, .any, .any, .any, .any, .any, .any, .any, .any, .any, .any, .any, .any]
def h_leatlaw52_StatsRises_18 : List HPat := [.ext 2 [.int .i64], .rows 2 [.int .i64], .rows 2 [.int .i64]]
def x_leatlaw52_StatsRises_18 : List XP := [⟨.exit 4, [.sl 0, .sc (.int .u32), .any, .any, .any, .any, .any, .any, .sc (.int .i64), .any, .any, .sl 1, .sl 2, .any, .any, .any, .any, .any, .any, .any, .any, .any, .any, .any, .any, .any, .any, .any, .any, .any, .any, .any, .any, .any, .any, .any, .any, .any, .any, .any, .any, .any, .any, .any, .any, .any, .any, .any, .any, .any, .any, .any, .any, .any, .any, .any, .any, .any, .any, .any, .any, .any, .any, .any, .any, .any, .any, .any, .any, .any, .any, .any, .any, .any, .any, .any, .any, .any, .any, .any, .any, .any, .any, .any, .any, .any, .any, .any, .any, .any, .any, .any, .any, .any, .any, .any, .any, .any, .any, .any, .any, .any, .any, .any, .any, .any, .any, .any, .any, .any, .any, .any, .any, .any, .any, .any, .any], [.ext 2 [.int .i64], .rows 2 [.int .i64], .rows 2 [.int .i64]]⟩]
def lc_leatlaw52_StatsRises_18 (N : Nat) : LC := mkLC 0 p_leatlaw52_StatsRises_18 h_leatlaw52_StatsRises_18 x_leatlaw52_StatsRises_18 (leatlaw52_StatsRises_L18 N)
def s_leatlaw52_StatsRises (N : Nat) : List (Nat × LC) := [(7, lc_leatlaw52_StatsRises_7 N), (13, lc_leatlaw52_StatsRises_13 N), (18, lc_leatlaw52_StatsRises_18 N)]
noncomputable def e_leatlaw52_StatsRises (N : Nat) : Env := mkEnvX 0 [] Tryd.prog o_leatref52_Bar (s_leatlaw52_StatsRises N) N
theorem k_leatlaw52_StatsRises_7 (N : Nat) : LCOK (e_leatlaw52_StatsRises N) 12 (loopAt Tryd.prog 5 0) (lc_leatlaw52_StatsRises_7 N) := mkLC_ok rfl (by kernel_rfl) (by kernel_rfl) (fun F x => by kernel_rfl)
theorem k_leatlaw52_StatsRises_13 (N : Nat) : LCOK (e_leatlaw52_StatsRises N) 12 (loopAt Tryd.prog 5 1) (lc_leatlaw52_StatsRises_13 N) := mkLC_ok rfl (by kernel_rfl) (by kernel_rfl) (fun F x => by kernel_rfl)
theorem k_leatlaw52_StatsRises_18 (N : Nat) : LCOK (e_leatlaw52_StatsRises N) 12 (loopAt Tryd.prog 5 2) (lc_leatlaw52_StatsRises_18 N) := mkLC_ok rfl (by kernel_rfl) (by kernel_rfl) (fun F x => by kernel_rfl)
theorem q_leatlaw52_StatsRises (N : Nat) : LoopsFor (e_leatlaw52_StatsRises N) Tryd.prog 5 3 := loops_mk (by kernel_rfl) (fun j hj => match j, hj with
  | 0, _ => .inl ⟨lc_leatlaw52_StatsRises_7 N, by kernel_rfl, k_leatlaw52_StatsRises_7 N⟩
  | 1, _ => .inl ⟨lc_leatlaw52_StatsRises_13 N, by kernel_rfl, k_leatlaw52_StatsRises_13 N⟩
  | 2, _ => .inl ⟨lc_leatlaw52_StatsRises_18 N, by kernel_rfl, k_leatlaw52_StatsRises_18 N⟩
  | _ + 3, h => absurd h (by omega)) (fun _ => rfl)
theorem okL_leatlaw52_StatsRises (N : Nat) : OrcOK Tryd.prog o_leatref52_Bar N := ok_leatref52_Bar N
theorem w_leatlaw52_StatsRises (N : Nat) (x : RT [.row 2 [.int .i64], .sc (.int .u32), .sc (.int .u8)]) : uncR [.row 2 [.int .i64], .sc (.int .u32), .sc (.int .u8)] (leatlaw52_StatsRises N) x = evFn (e_leatlaw52_StatsRises N) 13 5 (encA 0 [.row 2 [.int .i64], .sc (.int .u32), .sc (.int .u8)] x).1 (encA 0 [.row 2 [.int .i64], .sc (.int .u32), .sc (.int .u8)] x).2 (decR [.sc .bool]) := by kernel_rfl
end Go.Proofs.YtdoiofdepmiejaaDoor.W
