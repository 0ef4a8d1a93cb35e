/- The functions of the seat, as the evaluator tells them, each with its contract. Printed by genW.py. -/
import Derived.Test.YtgjmfljogaanfaaGreatW0
import Derived.Test.YtgjmfljogaanfaaGreatRows
set_option maxRecDepth 100000
namespace Go.Proofs.YtgjmfljogaanfaaGreat.W
open Go.Ev Go.RowKit
theorem facts : Facts Tryz.prog := ⟨by kernel_rfl, names_of (by kernel_rfl)⟩
def o_0 : List (Nat × FC) := []
theorem ok_0 (N : Nat) : OrcOK Tryz.prog o_0 N := orc_nil
def s_cmp_isNaN_int64 (_ : Nat) : List (Nat × LC) := []
noncomputable def e_cmp_isNaN_int64 (N : Nat) : Env := mkEnvX 0 [] Tryz.prog o_0 (s_cmp_isNaN_int64 N) N
theorem q_cmp_isNaN_int64 (N : Nat) : LoopsFor (e_cmp_isNaN_int64 N) Tryz.prog 57 0 := loops_mk (by kernel_rfl) (fun j hj => match j, hj with
  | _ + 0, h => absurd h (by omega)) (fun _ => rfl)
def c_cmp_isNaN_int64 : FC := mkF [.sc (.int .i64)] [.sc (.bool)] cmp_isNaN_int64
theorem t_cmp_isNaN_int64 (N : Nat) : FCOK Tryz.prog N 57 c_cmp_isNaN_int64 := fun_ok facts (ok_0 N) (by kernel_rfl) (by kernel_rfl) (q_cmp_isNaN_int64 N) (fun t => by kernel_rfl)
def o_cmp_isNaN_int64 : List (Nat × FC) := (57, c_cmp_isNaN_int64) :: o_0
theorem ok_cmp_isNaN_int64 (N : Nat) : OrcOK Tryz.prog o_cmp_isNaN_int64 N := orc_cons (t_cmp_isNaN_int64 N) (ok_0 N)
def s_cmp_Compare_int64 (_ : Nat) : List (Nat × LC) := []
noncomputable def e_cmp_Compare_int64 (N : Nat) : Env := mkEnvX 0 [] Tryz.prog o_cmp_isNaN_int64 (s_cmp_Compare_int64 N) N
theorem q_cmp_Compare_int64 (N : Nat) : LoopsFor (e_cmp_Compare_int64 N) Tryz.prog 40 0 := loops_mk (by kernel_rfl) (fun j hj => match j, hj with
  | _ + 0, h => absurd h (by omega)) (fun _ => rfl)
def c_cmp_Compare_int64 : FC := mkF [.sc (.int .i64), .sc (.int .i64)] [.sc (.int .i64)] cmp_Compare_int64
theorem t_cmp_Compare_int64 (N : Nat) : FCOK Tryz.prog N 40 c_cmp_Compare_int64 := fun_ok facts (ok_cmp_isNaN_int64 N) (by kernel_rfl) (by kernel_rfl) (q_cmp_Compare_int64 N) (fun t => by kernel_rfl)
def o_cmp_Compare_int64 : List (Nat × FC) := (40, c_cmp_Compare_int64) :: o_cmp_isNaN_int64
theorem ok_cmp_Compare_int64 (N : Nat) : OrcOK Tryz.prog o_cmp_Compare_int64 N := orc_cons (t_cmp_Compare_int64 N) (ok_cmp_isNaN_int64 N)
def s_chain_coming_1 (_ : Nat) : List (Nat × LC) := []
noncomputable def e_chain_coming_1 (N : Nat) : Env := mkEnvX 0 [] Tryz.prog o_cmp_Compare_int64 (s_chain_coming_1 N) N
theorem q_chain_coming_1 (N : Nat) : LoopsFor (e_chain_coming_1 N) Tryz.prog 39 0 := loops_mk (by kernel_rfl) (fun j hj => match j, hj with
  | _ + 0, h => absurd h (by omega)) (fun _ => rfl)
def c_chain_coming_1 : FC := mkF [.agg [.int .i64, .int .i64, .int .i64, .int .i64, .int .i64], .agg [.int .i64, .int .i64, .int .i64, .int .i64, .int .i64]] [.sc (.int .i64)] chain_coming_1
theorem t_chain_coming_1 (N : Nat) : FCOK Tryz.prog N 39 c_chain_coming_1 := fun_ok facts (ok_cmp_Compare_int64 N) (by kernel_rfl) (by kernel_rfl) (q_chain_coming_1 N) (fun t => by kernel_rfl)
def o_chain_coming_1 : List (Nat × FC) := (39, c_chain_coming_1) :: o_cmp_Compare_int64
theorem ok_chain_coming_1 (N : Nat) : OrcOK Tryz.prog o_chain_coming_1 N := orc_cons (t_chain_coming_1 N) (ok_cmp_Compare_int64 N)
def s_sat_Clamp (_ : Nat) : List (Nat × LC) := []
noncomputable def e_sat_Clamp (N : Nat) : Env := mkEnvX 0 [] Tryz.prog o_chain_coming_1 (s_sat_Clamp N) N
theorem q_sat_Clamp (N : Nat) : LoopsFor (e_sat_Clamp N) Tryz.prog 28 0 := loops_mk (by kernel_rfl) (fun j hj => match j, hj with
  | _ + 0, h => absurd h (by omega)) (fun _ => rfl)
def c_sat_Clamp : FC := mkF [.sc (.int .i64), .sc (.int .i64), .sc (.int .i64)] [.sc (.int .i64)] sat_Clamp
theorem t_sat_Clamp (N : Nat) : FCOK Tryz.prog N 28 c_sat_Clamp := fun_ok facts (ok_chain_coming_1 N) (by kernel_rfl) (by kernel_rfl) (q_sat_Clamp N) (fun t => by kernel_rfl)
def o_sat_Clamp : List (Nat × FC) := (28, c_sat_Clamp) :: o_chain_coming_1
theorem ok_sat_Clamp (N : Nat) : OrcOK Tryz.prog o_sat_Clamp N := orc_cons (t_sat_Clamp N) (ok_chain_coming_1 N)
def s_dual_Limit (_ : Nat) : List (Nat × LC) := []
noncomputable def e_dual_Limit (N : Nat) : Env := mkEnvX 0 [] Tryz.prog o_sat_Clamp (s_dual_Limit N) N
theorem q_dual_Limit (N : Nat) : LoopsFor (e_dual_Limit N) Tryz.prog 29 0 := loops_mk (by kernel_rfl) (fun j hj => match j, hj with
  | _ + 0, h => absurd h (by omega)) (fun _ => rfl)
def c_dual_Limit : FC := mkF [.agg [.int .i64, .int .i64, .int .i64, .int .i64, .int .i64, .int .i64, .int .i64, .int .i64]] [.agg [.int .i64, .int .i64, .int .i64, .int .i64, .int .i64, .int .i64, .int .i64, .int .i64]] dual_Limit
theorem t_dual_Limit (N : Nat) : FCOK Tryz.prog N 29 c_dual_Limit := fun_ok facts (ok_sat_Clamp N) (by kernel_rfl) (by kernel_rfl) (q_dual_Limit N) (fun t => by kernel_rfl)
def o_dual_Limit : List (Nat × FC) := (29, c_dual_Limit) :: o_sat_Clamp
theorem ok_dual_Limit (N : Nat) : OrcOK Tryz.prog o_dual_Limit N := orc_cons (t_dual_Limit N) (ok_sat_Clamp N)
def s_chain_Limit (_ : Nat) : List (Nat × LC) := []
noncomputable def e_chain_Limit (N : Nat) : Env := mkEnvX 0 [] Tryz.prog o_dual_Limit (s_chain_Limit N) N
theorem q_chain_Limit (N : Nat) : LoopsFor (e_chain_Limit N) Tryz.prog 9 0 := loops_mk (by kernel_rfl) (fun j hj => match j, hj with
  | _ + 0, h => absurd h (by omega)) (fun _ => rfl)
def a_chain_Limit : List Pat := [.aggp [.grp [.int .i64, .int .i64, .int .i64, .int .i64, .int .i64, .int .i64, .int .i64, .int .i64, .int .i64, .int .i64], .sl 0]]
def b_chain_Limit : List HPat := [.ext 120 [.int .u32]]
def ra_chain_Limit : List Pat := [.aggp [.grp [.int .i64, .int .i64, .int .i64, .int .i64, .int .i64, .int .i64, .int .i64, .int .i64, .int .i64, .int .i64], .sl 0]]
def rb_chain_Limit : List HPat := [.ext 120 [.int .u32]]
def c_chain_Limit : FC := mkFCH 0 a_chain_Limit b_chain_Limit ra_chain_Limit rb_chain_Limit chain_Limit
theorem t_chain_Limit (N : Nat) : FCOK Tryz.prog N 9 c_chain_Limit := eff_ok facts (ok_dual_Limit N) (by kernel_rfl) (by kernel_rfl) (q_chain_Limit N) (fun t => by kernel_rfl)
def o_chain_Limit : List (Nat × FC) := (9, c_chain_Limit) :: o_dual_Limit
theorem ok_chain_Limit (N : Nat) : OrcOK Tryz.prog o_chain_Limit N := orc_cons (t_chain_Limit N) (ok_dual_Limit N)
def c_slices_Clone_uint32_uint32 : FC := cloneC 120 [.int .u32] 4
noncomputable def cl_slices_Clone_uint32_uint32 : CloneAt Tryz.prog 71 24 := { fn := Tryz.f71, i0 := 0, i1 := 1, o0 := cOp0 (bodyOf Tryz.prog 71), o1 := cOpI 0 (bodyOf Tryz.prog 71), o2 := cOpI 1 (bodyOf Tryz.prog 71), C := cC (bodyOf Tryz.prog 71), D := cD (bodyOf Tryz.prog 71), hfn := Tryz.func71, hb := by kernel_rfl, hn := by kernel_rfl, h0 := ⟨by kernel_rfl, by kernel_rfl, by kernel_rfl⟩, h1 := ⟨by kernel_rfl, by kernel_rfl, by kernel_rfl⟩, h2 := ⟨by kernel_rfl, by kernel_rfl, by kernel_rfl⟩ }
theorem t_slices_Clone_uint32_uint32 (N : Nat) : FCOK Tryz.prog N 71 c_slices_Clone_uint32_uint32 := clone_ok cl_slices_Clone_uint32_uint32 facts (by kernel_rfl) (by kernel_rfl) (by decide) (LoopsOK_none (by kernel_rfl)) (LoopsOK_none (by kernel_rfl)) (by kernel_rfl) (fun xs => by kernel_rfl)
def o_slices_Clone_uint32_uint32 : List (Nat × FC) := (71, c_slices_Clone_uint32_uint32) :: o_chain_Limit
theorem ok_slices_Clone_uint32_uint32 (N : Nat) : OrcOK Tryz.prog o_slices_Clone_uint32_uint32 N := orc_cons (t_slices_Clone_uint32_uint32 N) (ok_chain_Limit N)
def s_ring_New_api_Packet (_ : Nat) : List (Nat × LC) := []
noncomputable def e_ring_New_api_Packet (N : Nat) : Env := mkEnvX 0 [] Tryz.prog o_slices_Clone_uint32_uint32 (s_ring_New_api_Packet N) N
theorem q_ring_New_api_Packet (N : Nat) : LoopsFor (e_ring_New_api_Packet N) Tryz.prog 55 0 := loops_mk (by kernel_rfl) (fun j hj => match j, hj with
  | _ + 0, h => absurd h (by omega)) (fun _ => rfl)
def a_ring_New_api_Packet : List Pat := [.sc (.int .i64)]
def b_ring_New_api_Packet : List HPat := []
def ra_ring_New_api_Packet : List Pat := [.ptr 0 0]
def rb_ring_New_api_Packet : List HPat := [.cells [.sl 1, .sc (.int .i64), .sc (.int .i64), .sc (.int .i64)], .rows 38 [.int .i64, .int .i64, .int .i64, .int .i64, .int .i64]]
def c_ring_New_api_Packet : FC := mkFCH 0 a_ring_New_api_Packet b_ring_New_api_Packet ra_ring_New_api_Packet rb_ring_New_api_Packet ring_New_api_Packet
theorem t_ring_New_api_Packet (N : Nat) : FCOK Tryz.prog N 55 c_ring_New_api_Packet := eff_ok facts (ok_slices_Clone_uint32_uint32 N) (by kernel_rfl) (by kernel_rfl) (q_ring_New_api_Packet N) (fun t => by kernel_rfl)
def o_ring_New_api_Packet : List (Nat × FC) := (55, c_ring_New_api_Packet) :: o_slices_Clone_uint32_uint32
theorem ok_ring_New_api_Packet (N : Nat) : OrcOK Tryz.prog o_ring_New_api_Packet N := orc_cons (t_ring_New_api_Packet N) (ok_slices_Clone_uint32_uint32 N)
def s_dual_New (_ : Nat) : List (Nat × LC) := []
noncomputable def e_dual_New (N : Nat) : Env := mkEnvX 0 [] Tryz.prog o_ring_New_api_Packet (s_dual_New N) N
theorem q_dual_New (N : Nat) : LoopsFor (e_dual_New N) Tryz.prog 36 1 := loops_mk (by kernel_rfl) (fun j hj => match j, hj with
  | 0, _ => .inr (by kernel_rfl)
  | _ + 1, h => absurd h (by omega)) (fun _ => rfl)
def a_dual_New : List Pat := [.agg [.int .i64, .int .i64, .int .i64, .int .i64, .int .i64, .int .i64, .int .i64, .int .i64], .sl 0]
def b_dual_New : List HPat := [.ext 120 [.int .u32]]
def ra_dual_New : List Pat := [.ptr 0 0]
def rb_dual_New : List HPat := [.cells [.grp [.int .i64, .int .i64, .int .i64, .int .i64, .int .i64, .int .i64, .int .i64, .int .i64], .nilp, .ptr 1 0, .ptr 2 0, .grp [.int .i64, .int .i64, .int .i64, .int .i64, .int .i64, .int .i64, .int .i64, .int .i64, .int .i64], .grp [.int .i64, .int .i64, .int .i64, .int .i64, .int .i64, .int .i64, .int .i64, .int .i64, .int .i64], .grp [.int .i64, .int .i64, .int .i64, .int .i64, .int .i64, .int .i64, .int .i64, .int .i64, .int .i64], .grp [.int .i64, .int .i64], .sc (.int .i64), .ptr 3 0], .cells [.sl 6, .sc (.int .i64), .sc (.int .i64), .sc (.int .i64)], .cells [.sl 7, .sc (.int .i64), .sc (.int .i64), .sc (.int .i64)], .cells [.fn 72 [(4, 0), (5, 0)], .sc (.int .i64)], .cells [.sl 8], .cells [.sc (.int .i64)], .rows 38 [.int .i64, .int .i64, .int .i64, .int .i64, .int .i64], .rows 38 [.int .i64, .int .i64, .int .i64, .int .i64, .int .i64], .ext 120 [.int .u32]]
def c_dual_New : FC := mkFCH 0 a_dual_New b_dual_New ra_dual_New rb_dual_New dual_New
theorem t_dual_New (N : Nat) : FCOK Tryz.prog N 36 c_dual_New := eff_ok facts (ok_ring_New_api_Packet N) (by kernel_rfl) (by kernel_rfl) (q_dual_New N) (fun t => by kernel_rfl)
def o_dual_New : List (Nat × FC) := (36, c_dual_New) :: o_ring_New_api_Packet
theorem ok_dual_New (N : Nat) : OrcOK Tryz.prog o_dual_New N := orc_cons (t_dual_New N) (ok_ring_New_api_Packet N)
def s_chain_made (_ : Nat) : List (Nat × LC) := []
noncomputable def e_chain_made (N : Nat) : Env := mkEnvX 0 [] Tryz.prog o_dual_New (s_chain_made N) N
theorem q_chain_made (N : Nat) : LoopsFor (e_chain_made N) Tryz.prog 19 0 := loops_mk (by kernel_rfl) (fun j hj => match j, hj with
  | _ + 0, h => absurd h (by omega)) (fun _ => rfl)
def a_chain_made : List Pat := [.aggp [.grp [.int .i64, .int .i64, .int .i64, .int .i64, .int .i64, .int .i64, .int .i64, .int .i64, .int .i64, .int .i64], .sl 0]]
def b_chain_made : List HPat := [.ext 120 [.int .u32]]
def ra_chain_made : List Pat := [.ptr 0 0]
def rb_chain_made : List HPat := [.cells [.grp [.int .i64, .int .i64, .int .i64, .int .i64, .int .i64, .int .i64, .int .i64, .int .i64, .int .i64, .int .i64], .any, .ptr 1 0, .grp [.int .i64, .int .i64, .int .i64], .sc (.int .i64), .sl 10, .sl 11], .cells [.grp [.int .i64, .int .i64, .int .i64, .int .i64, .int .i64, .int .i64, .int .i64, .int .i64], .nilp, .ptr 2 0, .ptr 3 0, .grp [.int .i64, .int .i64, .int .i64, .int .i64, .int .i64, .int .i64, .int .i64, .int .i64, .int .i64], .grp [.int .i64, .int .i64, .int .i64, .int .i64, .int .i64, .int .i64, .int .i64, .int .i64, .int .i64], .grp [.int .i64, .int .i64, .int .i64, .int .i64, .int .i64, .int .i64, .int .i64, .int .i64, .int .i64], .grp [.int .i64, .int .i64], .sc (.int .i64), .ptr 4 0], .cells [.sl 7, .sc (.int .i64), .sc (.int .i64), .sc (.int .i64)], .cells [.sl 8, .sc (.int .i64), .sc (.int .i64), .sc (.int .i64)], .cells [.fn 72 [(5, 0), (6, 0)], .sc (.int .i64)], .cells [.sl 9], .cells [.sc (.int .i64)], .rows 38 [.int .i64, .int .i64, .int .i64, .int .i64, .int .i64], .rows 38 [.int .i64, .int .i64, .int .i64, .int .i64, .int .i64], .ext 120 [.int .u32], .rows 38 [.int .i64, .int .i64, .int .i64, .int .i64, .int .i64], .rows 38 [.int .i64, .int .i64, .int .i64, .int .i64, .int .i64]]
def c_chain_made : FC := mkFCH 0 a_chain_made b_chain_made ra_chain_made rb_chain_made chain_made
theorem t_chain_made (N : Nat) : FCOK Tryz.prog N 19 c_chain_made := eff_ok facts (ok_dual_New N) (by kernel_rfl) (by kernel_rfl) (q_chain_made N) (fun t => by kernel_rfl)
def o_chain_made : List (Nat × FC) := (19, c_chain_made) :: o_dual_New
theorem ok_chain_made (N : Nat) : OrcOK Tryz.prog o_chain_made N := orc_cons (t_chain_made N) (ok_dual_New N)
def c_slices_Clone_api_Packet_api_Packet : FC := cloneC 38 [.int .i64, .int .i64, .int .i64, .int .i64, .int .i64] 40
noncomputable def cl_slices_Clone_api_Packet_api_Packet : CloneAt Tryz.prog 37 27 := { fn := Tryz.f37, i0 := 0, i1 := 1, o0 := cOp0 (bodyOf Tryz.prog 37), o1 := cOpI 0 (bodyOf Tryz.prog 37), o2 := cOpI 1 (bodyOf Tryz.prog 37), C := cC (bodyOf Tryz.prog 37), D := cD (bodyOf Tryz.prog 37), hfn := Tryz.func37, hb := by kernel_rfl, hn := by kernel_rfl, h0 := ⟨by kernel_rfl, by kernel_rfl, by kernel_rfl⟩, h1 := ⟨by kernel_rfl, by kernel_rfl, by kernel_rfl⟩, h2 := ⟨by kernel_rfl, by kernel_rfl, by kernel_rfl⟩ }
theorem t_slices_Clone_api_Packet_api_Packet (N : Nat) : FCOK Tryz.prog N 37 c_slices_Clone_api_Packet_api_Packet := clone_ok cl_slices_Clone_api_Packet_api_Packet facts (by kernel_rfl) (by kernel_rfl) (by decide) (LoopsOK_none (by kernel_rfl)) (LoopsOK_none (by kernel_rfl)) (by kernel_rfl) (fun xs => by kernel_rfl)
def o_slices_Clone_api_Packet_api_Packet : List (Nat × FC) := (37, c_slices_Clone_api_Packet_api_Packet) :: o_chain_made
theorem ok_slices_Clone_api_Packet_api_Packet (N : Nat) : OrcOK Tryz.prog o_slices_Clone_api_Packet_api_Packet N := orc_cons (t_slices_Clone_api_Packet_api_Packet N) (ok_chain_made N)
def p_slices_insertionSortCmpFunc_api_Packet_4 : List Pat := [.sl 0, .sc (.int .i64), .sc (.int .i64), .fn 39 [], .any, .any, .any, .any, .sc (.int .i64), .sc (.int .i64), .any, .any, .any, .any, .any, .any, .any, .any, .any, .any, .any, .any, .any, .any, .any, .any, .any, .any, .any, .any, .any, .any, .any, .any, .any, .any, .any, .any, .any, .any, .any, .any, .any, .any, .any, .any, .any, .any, .any, .any, .any, .any, .any]
def h_slices_insertionSortCmpFunc_api_Packet_4 : List HPat := [.rows 38 [.int .i64, .int .i64, .int .i64, .int .i64, .int .i64]]
def x_slices_insertionSortCmpFunc_api_Packet_4 : List XP := [⟨.exit 2, [.sl 0, .sc (.int .i64), .sc (.int .i64), .fn 39 [], .any, .any, .any, .any, .sc (.int .i64), .any, .any, .any, .any, .any, .any, .any, .any, .any, .any, .any, .any, .any, .any, .any, .any, .any, .any, .any, .any, .any, .any, .any, .any, .any, .any, .any, .any, .any, .any, .any, .any, .any, .any, .any, .any, .any, .any, .any, .any, .any, .any, .any, .any], [.rows 38 [.int .i64, .int .i64, .int .i64, .int .i64, .int .i64]]⟩]
def lc_slices_insertionSortCmpFunc_api_Packet_4 (N : Nat) : LC := mkLC 1 p_slices_insertionSortCmpFunc_api_Packet_4 h_slices_insertionSortCmpFunc_api_Packet_4 x_slices_insertionSortCmpFunc_api_Packet_4 (slices_insertionSortCmpFunc_api_Packet_L4 N)
def p_slices_insertionSortCmpFunc_api_Packet_1 : List Pat := [.sl 0, .sc (.int .i64), .sc (.int .i64), .fn 39 [], .any, .any, .any, .any, .sc (.int .i64), .any, .any, .any, .any, .any, .any, .any, .any, .any, .any, .any, .any, .any, .any, .any, .any, .any, .any, .any, .any, .any, .any, .any, .any, .any, .any, .any, .any, .any, .any, .any, .any, .any, .any, .any, .any, .any, .any, .any, .any, .any, .any, .any, .any]
def h_slices_insertionSortCmpFunc_api_Packet_1 : List HPat := [.rows 38 [.int .i64, .int .i64, .int .i64, .int .i64, .int .i64]]
def x_slices_insertionSortCmpFunc_api_Packet_1 : List XP := [⟨.exit 0, [.any, .any, .any, .any, .any, .any, .any, .any, .any, .any, .any, .any, .any, .any, .any, .any, .any, .any, .any, .any, .any, .any, .any, .any, .any, .any, .any, .any, .any, .any, .any, .any, .any, .any, .any, .any, .any, .any, .any, .any, .any, .any, .any, .any, .any, .any, .any, .any, .any, .any, .any, .any, .any], [.rows 38 [.int .i64, .int .i64, .int .i64, .int .i64, .int .i64]]⟩]
def lc_slices_insertionSortCmpFunc_api_Packet_1 (N : Nat) : LC := mkLC 1 p_slices_insertionSortCmpFunc_api_Packet_1 h_slices_insertionSortCmpFunc_api_Packet_1 x_slices_insertionSortCmpFunc_api_Packet_1 (slices_insertionSortCmpFunc_api_Packet_L1 N)
def s_slices_insertionSortCmpFunc_api_Packet (N : Nat) : List (Nat × LC) := [(4, lc_slices_insertionSortCmpFunc_api_Packet_4 N), (1, lc_slices_insertionSortCmpFunc_api_Packet_1 N)]
noncomputable def e_slices_insertionSortCmpFunc_api_Packet (N : Nat) : Env := mkEnvX 1 [] Tryz.prog o_slices_Clone_api_Packet_api_Packet (s_slices_insertionSortCmpFunc_api_Packet N) N
theorem k_slices_insertionSortCmpFunc_api_Packet_4 (N : Nat) : LCOK (e_slices_insertionSortCmpFunc_api_Packet N) 12 (loopAt Tryz.prog 73 1) (lc_slices_insertionSortCmpFunc_api_Packet_4 N) := mkLC_ok rfl (by kernel_rfl) (by kernel_rfl) (fun F x => by kernel_rfl)
theorem k_slices_insertionSortCmpFunc_api_Packet_1 (N : Nat) : LCOK (e_slices_insertionSortCmpFunc_api_Packet N) 12 (loopAt Tryz.prog 73 0) (lc_slices_insertionSortCmpFunc_api_Packet_1 N) := mkLC_ok rfl (by kernel_rfl) (by kernel_rfl) (fun F x => by kernel_rfl)
theorem q_slices_insertionSortCmpFunc_api_Packet (N : Nat) : LoopsFor (e_slices_insertionSortCmpFunc_api_Packet N) Tryz.prog 73 2 := loops_mk (by kernel_rfl) (fun j hj => match j, hj with
  | 0, _ => .inl ⟨lc_slices_insertionSortCmpFunc_api_Packet_1 N, by kernel_rfl, k_slices_insertionSortCmpFunc_api_Packet_1 N⟩
  | 1, _ => .inl ⟨lc_slices_insertionSortCmpFunc_api_Packet_4 N, by kernel_rfl, k_slices_insertionSortCmpFunc_api_Packet_4 N⟩
  | _ + 2, h => absurd h (by omega)) (fun _ => rfl)
def a_slices_insertionSortCmpFunc_api_Packet : List Pat := [.sl 0, .sc (.int .i64), .sc (.int .i64), .fn 39 []]
def b_slices_insertionSortCmpFunc_api_Packet : List HPat := [.rows 38 [.int .i64, .int .i64, .int .i64, .int .i64, .int .i64]]
def ra_slices_insertionSortCmpFunc_api_Packet : List Pat := []
def rb_slices_insertionSortCmpFunc_api_Packet : List HPat := [.rows 38 [.int .i64, .int .i64, .int .i64, .int .i64, .int .i64]]
def c_slices_insertionSortCmpFunc_api_Packet : FC := mkFCH 1 a_slices_insertionSortCmpFunc_api_Packet b_slices_insertionSortCmpFunc_api_Packet ra_slices_insertionSortCmpFunc_api_Packet rb_slices_insertionSortCmpFunc_api_Packet slices_insertionSortCmpFunc_api_Packet
theorem t_slices_insertionSortCmpFunc_api_Packet (N : Nat) : FCOK Tryz.prog N 73 c_slices_insertionSortCmpFunc_api_Packet := eff_ok facts (ok_slices_Clone_api_Packet_api_Packet N) (by kernel_rfl) (by kernel_rfl) (q_slices_insertionSortCmpFunc_api_Packet N) (fun t => by kernel_rfl)
def o_slices_insertionSortCmpFunc_api_Packet : List (Nat × FC) := (73, c_slices_insertionSortCmpFunc_api_Packet) :: o_slices_Clone_api_Packet_api_Packet
theorem ok_slices_insertionSortCmpFunc_api_Packet (N : Nat) : OrcOK Tryz.prog o_slices_insertionSortCmpFunc_api_Packet N := orc_cons (t_slices_insertionSortCmpFunc_api_Packet N) (ok_slices_Clone_api_Packet_api_Packet N)
def p_slices_swapRangeCmpFunc_api_Packet_1 : List Pat := [.sl 0, .sc (.int .i64), .sc (.int .i64), .sc (.int .i64), .any, .any, .any, .any, .any, .any, .sc (.int .i64), .any, .any, .any, .any, .any, .any, .any, .any, .any, .any, .any, .any, .any, .any, .any, .any, .any, .any, .any, .any, .any, .any, .any, .any, .any, .any, .any]
def h_slices_swapRangeCmpFunc_api_Packet_1 : List HPat := [.rows 38 [.int .i64, .int .i64, .int .i64, .int .i64, .int .i64]]
def x_slices_swapRangeCmpFunc_api_Packet_1 : List XP := [⟨.exit 0, [.any, .any, .any, .any, .any, .any, .any, .any, .any, .any, .any, .any, .any, .any, .any, .any, .any, .any, .any, .any, .any, .any, .any, .any, .any, .any, .any, .any, .any, .any, .any, .any, .any, .any, .any, .any, .any, .any], [.rows 38 [.int .i64, .int .i64, .int .i64, .int .i64, .int .i64]]⟩]
def lc_slices_swapRangeCmpFunc_api_Packet_1 (N : Nat) : LC := mkLC 1 p_slices_swapRangeCmpFunc_api_Packet_1 h_slices_swapRangeCmpFunc_api_Packet_1 x_slices_swapRangeCmpFunc_api_Packet_1 (slices_swapRangeCmpFunc_api_Packet_L1 N)
def s_slices_swapRangeCmpFunc_api_Packet (N : Nat) : List (Nat × LC) := [(1, lc_slices_swapRangeCmpFunc_api_Packet_1 N)]
noncomputable def e_slices_swapRangeCmpFunc_api_Packet (N : Nat) : Env := mkEnvX 1 [] Tryz.prog o_slices_insertionSortCmpFunc_api_Packet (s_slices_swapRangeCmpFunc_api_Packet N) N
theorem k_slices_swapRangeCmpFunc_api_Packet_1 (N : Nat) : LCOK (e_slices_swapRangeCmpFunc_api_Packet N) 12 (loopAt Tryz.prog 116 0) (lc_slices_swapRangeCmpFunc_api_Packet_1 N) := mkLC_ok rfl (by kernel_rfl) (by kernel_rfl) (fun F x => by kernel_rfl)
theorem q_slices_swapRangeCmpFunc_api_Packet (N : Nat) : LoopsFor (e_slices_swapRangeCmpFunc_api_Packet N) Tryz.prog 116 1 := loops_mk (by kernel_rfl) (fun j hj => match j, hj with
  | 0, _ => .inl ⟨lc_slices_swapRangeCmpFunc_api_Packet_1 N, by kernel_rfl, k_slices_swapRangeCmpFunc_api_Packet_1 N⟩
  | _ + 1, h => absurd h (by omega)) (fun _ => rfl)
def a_slices_swapRangeCmpFunc_api_Packet : List Pat := [.sl 0, .sc (.int .i64), .sc (.int .i64), .sc (.int .i64), .fn 39 []]
def b_slices_swapRangeCmpFunc_api_Packet : List HPat := [.rows 38 [.int .i64, .int .i64, .int .i64, .int .i64, .int .i64]]
def ra_slices_swapRangeCmpFunc_api_Packet : List Pat := []
def rb_slices_swapRangeCmpFunc_api_Packet : List HPat := [.rows 38 [.int .i64, .int .i64, .int .i64, .int .i64, .int .i64]]
def c_slices_swapRangeCmpFunc_api_Packet : FC := mkFCH 1 a_slices_swapRangeCmpFunc_api_Packet b_slices_swapRangeCmpFunc_api_Packet ra_slices_swapRangeCmpFunc_api_Packet rb_slices_swapRangeCmpFunc_api_Packet slices_swapRangeCmpFunc_api_Packet
theorem t_slices_swapRangeCmpFunc_api_Packet (N : Nat) : FCOK Tryz.prog N 116 c_slices_swapRangeCmpFunc_api_Packet := eff_ok facts (ok_slices_insertionSortCmpFunc_api_Packet N) (by kernel_rfl) (by kernel_rfl) (q_slices_swapRangeCmpFunc_api_Packet N) (fun t => by kernel_rfl)
def o_slices_swapRangeCmpFunc_api_Packet : List (Nat × FC) := (116, c_slices_swapRangeCmpFunc_api_Packet) :: o_slices_insertionSortCmpFunc_api_Packet
theorem ok_slices_swapRangeCmpFunc_api_Packet (N : Nat) : OrcOK Tryz.prog o_slices_swapRangeCmpFunc_api_Packet N := orc_cons (t_slices_swapRangeCmpFunc_api_Packet N) (ok_slices_insertionSortCmpFunc_api_Packet N)
def p_slices_rotateCmpFunc_api_Packet_2 : List Pat := [.sl 0, .any, .sc (.int .i64), .any, .fn 39 [], .any, .any, .any, .any, .any, .sc (.int .i64), .sc (.int .i64), .any, .any, .any, .any, .any, .any, .any, .any, .any, .any, .any, .any, .any, .any, .any, .any, .any, .any, .any, .any, .any, .any, .any, .any, .any, .any, .any, .any, .any, .any, .any, .any, .any, .any, .any, .any, .any, .any, .any, .any, .any, .any, .any, .any, .any, .any]
def h_slices_rotateCmpFunc_api_Packet_2 : List HPat := [.rows 38 [.int .i64, .int .i64, .int .i64, .int .i64, .int .i64]]
def x_slices_rotateCmpFunc_api_Packet_2 : List XP := [⟨.exit 0, [.sl 0, .any, .sc (.int .i64), .any, .fn 39 [], .any, .any, .any, .any, .any, .sc (.int .i64), .any, .any, .any, .any, .any, .any, .any, .any, .any, .any, .any, .any, .any, .any, .any, .any, .any, .any, .any, .any, .any, .any, .any, .any, .any, .any, .any, .any, .any, .any, .any, .any, .any, .any, .any, .any, .any, .any, .any, .any, .any, .any, .any, .any, .any, .any, .any], [.rows 38 [.int .i64, .int .i64, .int .i64, .int .i64, .int .i64]]⟩]
def lc_slices_rotateCmpFunc_api_Packet_2 (N : Nat) : LC := mkLC 1 p_slices_rotateCmpFunc_api_Packet_2 h_slices_rotateCmpFunc_api_Packet_2 x_slices_rotateCmpFunc_api_Packet_2 (slices_rotateCmpFunc_api_Packet_L2 N)
def s_slices_rotateCmpFunc_api_Packet (N : Nat) : List (Nat × LC) := [(2, lc_slices_rotateCmpFunc_api_Packet_2 N)]
noncomputable def e_slices_rotateCmpFunc_api_Packet (N : Nat) : Env := mkEnvX 1 [] Tryz.prog o_slices_swapRangeCmpFunc_api_Packet (s_slices_rotateCmpFunc_api_Packet N) N
theorem k_slices_rotateCmpFunc_api_Packet_2 (N : Nat) : LCOK (e_slices_rotateCmpFunc_api_Packet N) 12 (loopAt Tryz.prog 96 0) (lc_slices_rotateCmpFunc_api_Packet_2 N) := mkLC_ok rfl (by kernel_rfl) (by kernel_rfl) (fun F x => by kernel_rfl)
theorem q_slices_rotateCmpFunc_api_Packet (N : Nat) : LoopsFor (e_slices_rotateCmpFunc_api_Packet N) Tryz.prog 96 1 := loops_mk (by kernel_rfl) (fun j hj => match j, hj with
  | 0, _ => .inl ⟨lc_slices_rotateCmpFunc_api_Packet_2 N, by kernel_rfl, k_slices_rotateCmpFunc_api_Packet_2 N⟩
  | _ + 1, h => absurd h (by omega)) (fun _ => rfl)
def a_slices_rotateCmpFunc_api_Packet : List Pat := [.sl 0, .sc (.int .i64), .sc (.int .i64), .sc (.int .i64), .fn 39 []]
def b_slices_rotateCmpFunc_api_Packet : List HPat := [.rows 38 [.int .i64, .int .i64, .int .i64, .int .i64, .int .i64]]
def ra_slices_rotateCmpFunc_api_Packet : List Pat := []
def rb_slices_rotateCmpFunc_api_Packet : List HPat := [.rows 38 [.int .i64, .int .i64, .int .i64, .int .i64, .int .i64]]
def c_slices_rotateCmpFunc_api_Packet : FC := mkFCH 1 a_slices_rotateCmpFunc_api_Packet b_slices_rotateCmpFunc_api_Packet ra_slices_rotateCmpFunc_api_Packet rb_slices_rotateCmpFunc_api_Packet slices_rotateCmpFunc_api_Packet
theorem t_slices_rotateCmpFunc_api_Packet (N : Nat) : FCOK Tryz.prog N 96 c_slices_rotateCmpFunc_api_Packet := eff_ok facts (ok_slices_swapRangeCmpFunc_api_Packet N) (by kernel_rfl) (by kernel_rfl) (q_slices_rotateCmpFunc_api_Packet N) (fun t => by kernel_rfl)
def o_slices_rotateCmpFunc_api_Packet : List (Nat × FC) := (96, c_slices_rotateCmpFunc_api_Packet) :: o_slices_swapRangeCmpFunc_api_Packet
theorem ok_slices_rotateCmpFunc_api_Packet (N : Nat) : OrcOK Tryz.prog o_slices_rotateCmpFunc_api_Packet N := orc_cons (t_slices_rotateCmpFunc_api_Packet N) (ok_slices_swapRangeCmpFunc_api_Packet N)
def p_slices_symMergeCmpFunc_api_Packet_3 : List Pat := [.sl 0, .sc (.int .i64), .any, .any, .fn 39 [], .any, .any, .any, .any, .any, .sc (.int .i64), .sc (.int .i64), .any, .any, .any, .any, .any, .any, .any, .any, .any, .any, .any, .any, .any, .any, .any, .any, .any, .any, .any, .any, .any, .any, .any, .any, .any, .any, .any, .any, .any, .any, .any, .any, .any, .any, .any, .any, .any, .any, .any, .any, .any, .any, .any, .any, .any, .any, .any, .any, .any, .any, .any, .any, .any, .any, .any, .any, .any, .any, .any, .any, .any, .any, .any, .any, .any, .any, .any, .any, .any, .any, .any, .any, .any, .any, .any, .any, .any, .any, .any, .any, .any, .any, .any, .any, .any, .any, .any, .any, .any, .any, .any, .any, .any, .any, .any, .any, .any, .any, .any, .any, .any, .any, .any, .any, .any, .any, .any, .any, .any, .any, .any, .any, .any, .any, .any, .any, .any, .any, .any, .any, .any, .any, .any, .any, .any, .any, .any, .any, .any, .any, .any, .any, .any, .any, .any, .any, .any, .any, .any, .any, .any, .any, .any, .any, .any, .any, .any, .any, .any, .any, .any, .any, .any, .any, .any, .any, .any, .any, .any, .any, .any, .any, .any, .any, .any, .any, .any, .any, .any, .any, .any, .any, .any, .any, .any, .any, .any, .any, .any, .any, .any, .any, .any, .any, .any, .any, .any, .any, .any, .any, .any, .any, .any, .any, .any, .any, .any, .any, .any, .any, .any, .any, .any, .any, .any, .any, .any, .any]
def h_slices_symMergeCmpFunc_api_Packet_3 : List HPat := [.rows 38 [.int .i64, .int .i64, .int .i64, .int .i64, .int .i64]]
def x_slices_symMergeCmpFunc_api_Packet_3 : List XP := [⟨.exit 0, [.sl 0, .sc (.int .i64), .any, .any, .any, .any, .any, .any, .any, .any, .sc (.int .i64), .any, .any, .any, .any, .any, .any, .any, .any, .any, .any, .any, .any, .any, .any, .any, .any, .any, .any, .any, .any, .any, .any, .any, .any, .any, .any, .any, .any, .any, .any, .any, .any, .any, .any, .any, .any, .any, .any, .any, .any, .any, .any, .any, .any, .any, .any, .any, .any, .any, .any, .any, .any, .any, .any, .any, .any, .any, .any, .any, .any, .any, .any, .any, .any, .any, .any, .any, .any, .any, .any, .any, .any, .any, .any, .any, .any, .any, .any, .any, .any, .any, .any, .any, .any, .any, .any, .any, .any, .any, .any, .any, .any, .any, .any, .any, .any, .any, .any, .any, .any, .any, .any, .any, .any, .any, .any, .any, .any, .any, .any, .any, .any, .any, .any, .any, .any, .any, .any, .any, .any, .any, .any, .any, .any, .any, .any, .any, .any, .any, .any, .any, .any, .any, .any, .any, .any, .any, .any, .any, .any, .any, .any, .any, .any, .any, .any, .any, .any, .any, .any, .any, .any, .any, .any, .any, .any, .any, .any, .any, .any, .any, .any, .any, .any, .any, .any, .any, .any, .any, .any, .any, .any, .any, .any, .any, .any, .any, .any, .any, .any, .any, .any, .any, .any, .any, .any, .any, .any, .any, .any, .any, .any, .any, .any, .any, .any, .any, .any, .any, .any, .any, .any, .any, .any, .any, .any, .any, .any, .any], [.rows 38 [.int .i64, .int .i64, .int .i64, .int .i64, .int .i64]]⟩]
def lc_slices_symMergeCmpFunc_api_Packet_3 (N : Nat) : LC := mkLC 1 p_slices_symMergeCmpFunc_api_Packet_3 h_slices_symMergeCmpFunc_api_Packet_3 x_slices_symMergeCmpFunc_api_Packet_3 (slices_symMergeCmpFunc_api_Packet_L3 N)
def p_slices_symMergeCmpFunc_api_Packet_9 : List Pat := [.sl 0, .any, .any, .any, .any, .any, .any, .any, .any, .any, .sc (.int .i64), .any, .any, .sc (.int .i64), .any, .any, .any, .any, .any, .any, .any, .any, .any, .any, .any, .any, .any, .any, .any, .any, .any, .any, .any, .any, .any, .any, .any, .any, .any, .any, .any, .any, .any, .any, .any, .any, .any, .any, .any, .any, .any, .any, .any, .any, .any, .any, .any, .any, .any, .any, .any, .any, .any, .any, .any, .any, .any, .any, .any, .any, .any, .any, .any, .any, .any, .any, .any, .any, .any, .any, .any, .any, .any, .any, .any, .any, .any, .any, .any, .any, .any, .any, .any, .any, .any, .any, .any, .any, .any, .any, .any, .any, .any, .any, .any, .any, .any, .any, .any, .any, .any, .any, .any, .any, .any, .any, .any, .any, .any, .any, .any, .any, .any, .any, .any, .any, .any, .any, .any, .any, .any, .any, .any, .any, .any, .any, .any, .any, .any, .any, .any, .any, .any, .any, .any, .any, .any, .any, .any, .any, .any, .any, .any, .any, .any, .any, .any, .any, .any, .any, .any, .any, .any, .any, .any, .any, .any, .any, .any, .any, .any, .any, .any, .any, .any, .any, .any, .any, .any, .any, .any, .any, .any, .any, .any, .any, .any, .any, .any, .any, .any, .any, .any, .any, .any, .any, .any, .any, .any, .any, .any, .any, .any, .any, .any, .any, .any, .any, .any, .any, .any, .any, .any, .any, .any, .any, .any, .any, .any, .any]
def h_slices_symMergeCmpFunc_api_Packet_9 : List HPat := [.rows 38 [.int .i64, .int .i64, .int .i64, .int .i64, .int .i64]]
def x_slices_symMergeCmpFunc_api_Packet_9 : List XP := [⟨.exit 2, [.any, .any, .any, .any, .any, .any, .any, .any, .any, .any, .any, .any, .any, .any, .any, .any, .any, .any, .any, .any, .any, .any, .any, .any, .any, .any, .any, .any, .any, .any, .any, .any, .any, .any, .any, .any, .any, .any, .any, .any, .any, .any, .any, .any, .any, .any, .any, .any, .any, .any, .any, .any, .any, .any, .any, .any, .any, .any, .any, .any, .any, .any, .any, .any, .any, .any, .any, .any, .any, .any, .any, .any, .any, .any, .any, .any, .any, .any, .any, .any, .any, .any, .any, .any, .any, .any, .any, .any, .any, .any, .any, .any, .any, .any, .any, .any, .any, .any, .any, .any, .any, .any, .any, .any, .any, .any, .any, .any, .any, .any, .any, .any, .any, .any, .any, .any, .any, .any, .any, .any, .any, .any, .any, .any, .any, .any, .any, .any, .any, .any, .any, .any, .any, .any, .any, .any, .any, .any, .any, .any, .any, .any, .any, .any, .any, .any, .any, .any, .any, .any, .any, .any, .any, .any, .any, .any, .any, .any, .any, .any, .any, .any, .any, .any, .any, .any, .any, .any, .any, .any, .any, .any, .any, .any, .any, .any, .any, .any, .any, .any, .any, .any, .any, .any, .any, .any, .any, .any, .any, .any, .any, .any, .any, .any, .any, .any, .any, .any, .any, .any, .any, .any, .any, .any, .any, .any, .any, .any, .any, .any, .any, .any, .any, .any, .any, .any, .any, .any, .any, .any], [.rows 38 [.int .i64, .int .i64, .int .i64, .int .i64, .int .i64]]⟩]
def lc_slices_symMergeCmpFunc_api_Packet_9 (N : Nat) : LC := mkLC 1 p_slices_symMergeCmpFunc_api_Packet_9 h_slices_symMergeCmpFunc_api_Packet_9 x_slices_symMergeCmpFunc_api_Packet_9 (slices_symMergeCmpFunc_api_Packet_L9 N)
def p_slices_symMergeCmpFunc_api_Packet_15 : List Pat := [.sl 0, .any, .sc (.int .i64), .any, .fn 39 [], .any, .any, .any, .any, .any, .any, .any, .any, .any, .sc (.int .i64), .sc (.int .i64), .any, .any, .any, .any, .any, .any, .any, .any, .any, .any, .any, .any, .any, .any, .any, .any, .any, .any, .any, .any, .any, .any, .any, .any, .any, .any, .any, .any, .any, .any, .any, .any, .any, .any, .any, .any, .any, .any, .any, .any, .any, .any, .any, .any, .any, .any, .any, .any, .any, .any, .any, .any, .any, .any, .any, .any, .any, .any, .any, .any, .any, .any, .any, .any, .any, .any, .any, .any, .any, .any, .any, .any, .any, .any, .any, .any, .any, .any, .any, .any, .any, .any, .any, .any, .any, .any, .any, .any, .any, .any, .any, .any, .any, .any, .any, .any, .any, .any, .any, .any, .any, .any, .any, .any, .any, .any, .any, .any, .any, .any, .any, .any, .any, .any, .any, .any, .any, .any, .any, .any, .any, .any, .any, .any, .any, .any, .any, .any, .any, .any, .any, .any, .any, .any, .any, .any, .any, .any, .any, .any, .any, .any, .any, .any, .any, .any, .any, .any, .any, .any, .any, .any, .any, .any, .any, .any, .any, .any, .any, .any, .any, .any, .any, .any, .any, .any, .any, .any, .any, .any, .any, .any, .any, .any, .any, .any, .any, .any, .any, .any, .any, .any, .any, .any, .any, .any, .any, .any, .any, .any, .any, .any, .any, .any, .any, .any, .any, .any, .any, .any, .any, .any, .any, .any]
def h_slices_symMergeCmpFunc_api_Packet_15 : List HPat := [.rows 38 [.int .i64, .int .i64, .int .i64, .int .i64, .int .i64]]
def x_slices_symMergeCmpFunc_api_Packet_15 : List XP := [⟨.exit 4, [.sl 0, .any, .sc (.int .i64), .any, .any, .any, .any, .any, .any, .any, .any, .any, .any, .any, .sc (.int .i64), .any, .any, .any, .any, .any, .any, .any, .any, .any, .any, .any, .any, .any, .any, .any, .any, .any, .any, .any, .any, .any, .any, .any, .any, .any, .any, .any, .any, .any, .any, .any, .any, .any, .any, .any, .any, .any, .any, .any, .any, .any, .any, .any, .any, .any, .any, .any, .any, .any, .any, .any, .any, .any, .any, .any, .any, .any, .any, .any, .any, .any, .any, .any, .any, .any, .any, .any, .any, .any, .any, .any, .any, .any, .any, .any, .any, .any, .any, .any, .any, .any, .any, .any, .any, .any, .any, .any, .any, .any, .any, .any, .any, .any, .any, .any, .any, .any, .any, .any, .any, .any, .any, .any, .any, .any, .any, .any, .any, .any, .any, .any, .any, .any, .any, .any, .any, .any, .any, .any, .any, .any, .any, .any, .any, .any, .any, .any, .any, .any, .any, .any, .any, .any, .any, .any, .any, .any, .any, .any, .any, .any, .any, .any, .any, .any, .any, .any, .any, .any, .any, .any, .any, .any, .any, .any, .any, .any, .any, .any, .any, .any, .any, .any, .any, .any, .any, .any, .any, .any, .any, .any, .any, .any, .any, .any, .any, .any, .any, .any, .any, .any, .any, .any, .any, .any, .any, .any, .any, .any, .any, .any, .any, .any, .any, .any, .any, .any, .any, .any, .any, .any, .any, .any, .any, .any], [.rows 38 [.int .i64, .int .i64, .int .i64, .int .i64, .int .i64]]⟩]
def lc_slices_symMergeCmpFunc_api_Packet_15 (N : Nat) : LC := mkLC 1 p_slices_symMergeCmpFunc_api_Packet_15 h_slices_symMergeCmpFunc_api_Packet_15 x_slices_symMergeCmpFunc_api_Packet_15 (slices_symMergeCmpFunc_api_Packet_L15 N)
def p_slices_symMergeCmpFunc_api_Packet_21 : List Pat := [.sl 0, .any, .any, .any, .any, .any, .any, .any, .any, .any, .any, .any, .any, .any, .sc (.int .i64), .any, .any, .sc (.int .i64), .any, .any, .any, .any, .any, .any, .any, .any, .any, .any, .any, .any, .any, .any, .any, .any, .any, .any, .any, .any, .any, .any, .any, .any, .any, .any, .any, .any, .any, .any, .any, .any, .any, .any, .any, .any, .any, .any, .any, .any, .any, .any, .any, .any, .any, .any, .any, .any, .any, .any, .any, .any, .any, .any, .any, .any, .any, .any, .any, .any, .any, .any, .any, .any, .any, .any, .any, .any, .any, .any, .any, .any, .any, .any, .any, .any, .any, .any, .any, .any, .any, .any, .any, .any, .any, .any, .any, .any, .any, .any, .any, .any, .any, .any, .any, .any, .any, .any, .any, .any, .any, .any, .any, .any, .any, .any, .any, .any, .any, .any, .any, .any, .any, .any, .any, .any, .any, .any, .any, .any, .any, .any, .any, .any, .any, .any, .any, .any, .any, .any, .any, .any, .any, .any, .any, .any, .any, .any, .any, .any, .any, .any, .any, .any, .any, .any, .any, .any, .any, .any, .any, .any, .any, .any, .any, .any, .any, .any, .any, .any, .any, .any, .any, .any, .any, .any, .any, .any, .any, .any, .any, .any, .any, .any, .any, .any, .any, .any, .any, .any, .any, .any, .any, .any, .any, .any, .any, .any, .any, .any, .any, .any, .any, .any, .any, .any, .any, .any, .any, .any, .any, .any]
def h_slices_symMergeCmpFunc_api_Packet_21 : List HPat := [.rows 38 [.int .i64, .int .i64, .int .i64, .int .i64, .int .i64]]
def x_slices_symMergeCmpFunc_api_Packet_21 : List XP := [⟨.exit 6, [.any, .any, .any, .any, .any, .any, .any, .any, .any, .any, .any, .any, .any, .any, .any, .any, .any, .any, .any, .any, .any, .any, .any, .any, .any, .any, .any, .any, .any, .any, .any, .any, .any, .any, .any, .any, .any, .any, .any, .any, .any, .any, .any, .any, .any, .any, .any, .any, .any, .any, .any, .any, .any, .any, .any, .any, .any, .any, .any, .any, .any, .any, .any, .any, .any, .any, .any, .any, .any, .any, .any, .any, .any, .any, .any, .any, .any, .any, .any, .any, .any, .any, .any, .any, .any, .any, .any, .any, .any, .any, .any, .any, .any, .any, .any, .any, .any, .any, .any, .any, .any, .any, .any, .any, .any, .any, .any, .any, .any, .any, .any, .any, .any, .any, .any, .any, .any, .any, .any, .any, .any, .any, .any, .any, .any, .any, .any, .any, .any, .any, .any, .any, .any, .any, .any, .any, .any, .any, .any, .any, .any, .any, .any, .any, .any, .any, .any, .any, .any, .any, .any, .any, .any, .any, .any, .any, .any, .any, .any, .any, .any, .any, .any, .any, .any, .any, .any, .any, .any, .any, .any, .any, .any, .any, .any, .any, .any, .any, .any, .any, .any, .any, .any, .any, .any, .any, .any, .any, .any, .any, .any, .any, .any, .any, .any, .any, .any, .any, .any, .any, .any, .any, .any, .any, .any, .any, .any, .any, .any, .any, .any, .any, .any, .any, .any, .any, .any, .any, .any, .any], [.rows 38 [.int .i64, .int .i64, .int .i64, .int .i64, .int .i64]]⟩]
def lc_slices_symMergeCmpFunc_api_Packet_21 (N : Nat) : LC := mkLC 1 p_slices_symMergeCmpFunc_api_Packet_21 h_slices_symMergeCmpFunc_api_Packet_21 x_slices_symMergeCmpFunc_api_Packet_21 (slices_symMergeCmpFunc_api_Packet_L21 N)
def p_slices_symMergeCmpFunc_api_Packet_33 : List Pat := [.sl 0, .sc (.int .i64), .sc (.int .i64), .sc (.int .i64), .fn 39 [], .any, .any, .any, .any, .any, .any, .any, .any, .any, .any, .any, .any, .any, .sc (.int .i64), .sc (.int .i64), .sc (.int .i64), .sc (.int .i64), .sc (.int .i64), .any, .any, .any, .any, .any, .any, .any, .any, .any, .any, .any, .any, .any, .any, .any, .any, .any, .any, .any, .any, .any, .any, .any, .any, .any, .any, .any, .any, .any, .any, .any, .any, .any, .any, .any, .any, .any, .any, .any, .any, .any, .any, .any, .any, .any, .any, .any, .any, .any, .any, .any, .any, .any, .any, .any, .any, .any, .any, .any, .any, .any, .any, .any, .any, .any, .any, .any, .any, .any, .any, .any, .any, .any, .any, .any, .any, .any, .any, .any, .any, .any, .any, .any, .any, .any, .any, .any, .any, .any, .any, .any, .any, .any, .any, .any, .any, .any, .any, .any, .any, .any, .any, .any, .any, .any, .any, .any, .any, .any, .any, .any, .any, .any, .any, .any, .any, .any, .any, .any, .any, .any, .any, .any, .any, .any, .any, .any, .any, .any, .any, .any, .any, .any, .any, .any, .any, .any, .any, .any, .any, .any, .any, .any, .any, .any, .any, .any, .any, .any, .any, .any, .any, .any, .any, .any, .any, .any, .any, .any, .any, .any, .any, .any, .any, .any, .any, .any, .any, .any, .any, .any, .any, .any, .any, .any, .any, .any, .any, .any, .any, .any, .any, .any, .any, .any, .any, .any, .any, .any, .any, .any, .any, .any, .any, .any, .any, .any]
def h_slices_symMergeCmpFunc_api_Packet_33 : List HPat := [.rows 38 [.int .i64, .int .i64, .int .i64, .int .i64, .int .i64]]
def x_slices_symMergeCmpFunc_api_Packet_33 : List XP := [⟨.exit 8, [.sl 0, .sc (.int .i64), .sc (.int .i64), .sc (.int .i64), .fn 39 [], .any, .any, .any, .any, .any, .any, .any, .any, .any, .any, .any, .any, .any, .sc (.int .i64), .sc (.int .i64), .sc (.int .i64), .any, .any, .any, .any, .any, .any, .any, .any, .any, .any, .any, .any, .any, .any, .any, .any, .any, .any, .any, .any, .any, .any, .any, .any, .any, .any, .any, .any, .any, .any, .any, .any, .any, .any, .any, .any, .any, .any, .any, .any, .any, .any, .any, .any, .any, .any, .any, .any, .any, .any, .any, .any, .any, .any, .any, .any, .any, .any, .any, .any, .any, .any, .any, .any, .any, .any, .any, .any, .any, .any, .any, .any, .any, .any, .any, .any, .any, .any, .any, .any, .any, .any, .any, .any, .any, .any, .any, .any, .any, .any, .any, .any, .any, .any, .any, .any, .any, .any, .any, .any, .any, .any, .any, .any, .any, .any, .any, .any, .any, .any, .any, .any, .any, .any, .any, .any, .any, .any, .any, .any, .any, .any, .any, .any, .any, .any, .any, .any, .any, .any, .any, .any, .any, .any, .any, .any, .any, .any, .any, .any, .any, .any, .any, .any, .any, .any, .any, .any, .any, .any, .any, .any, .any, .any, .any, .any, .any, .any, .any, .any, .any, .any, .any, .any, .any, .any, .any, .any, .any, .any, .any, .any, .any, .any, .any, .any, .any, .any, .any, .any, .any, .any, .any, .any, .any, .any, .any, .any, .any, .any, .any, .any, .any, .any, .any, .any, .any, .any, .any], [.rows 38 [.int .i64, .int .i64, .int .i64, .int .i64, .int .i64]]⟩]
def lc_slices_symMergeCmpFunc_api_Packet_33 (N : Nat) : LC := mkLC 1 p_slices_symMergeCmpFunc_api_Packet_33 h_slices_symMergeCmpFunc_api_Packet_33 x_slices_symMergeCmpFunc_api_Packet_33 (slices_symMergeCmpFunc_api_Packet_L33 N)
def s_slices_symMergeCmpFunc_api_Packet (N : Nat) : List (Nat × LC) := [(3, lc_slices_symMergeCmpFunc_api_Packet_3 N), (9, lc_slices_symMergeCmpFunc_api_Packet_9 N), (15, lc_slices_symMergeCmpFunc_api_Packet_15 N), (21, lc_slices_symMergeCmpFunc_api_Packet_21 N), (33, lc_slices_symMergeCmpFunc_api_Packet_33 N)]
def a_slices_symMergeCmpFunc_api_Packet : List Pat := [.sl 0, .sc (.int .i64), .sc (.int .i64), .sc (.int .i64), .fn 39 []]
def b_slices_symMergeCmpFunc_api_Packet : List HPat := [.rows 38 [.int .i64, .int .i64, .int .i64, .int .i64, .int .i64]]
def ra_slices_symMergeCmpFunc_api_Packet : List Pat := []
def rb_slices_symMergeCmpFunc_api_Packet : List HPat := [.rows 38 [.int .i64, .int .i64, .int .i64, .int .i64, .int .i64]]
def cI_slices_symMergeCmpFunc_api_Packet (N k : Nat) : FC := mkFCH 1 a_slices_symMergeCmpFunc_api_Packet b_slices_symMergeCmpFunc_api_Packet ra_slices_symMergeCmpFunc_api_Packet rb_slices_symMergeCmpFunc_api_Packet (fun _ => slices_symMergeCmpFunc_api_Packet_I N k)
def oI_slices_symMergeCmpFunc_api_Packet (N k : Nat) : List (Nat × FC) := (74, cI_slices_symMergeCmpFunc_api_Packet N k) :: o_slices_rotateCmpFunc_api_Packet
noncomputable def e_slices_symMergeCmpFunc_api_Packet (N k : Nat) : Env := mkEnvX 1 [] Tryz.prog (oI_slices_symMergeCmpFunc_api_Packet N k) (s_slices_symMergeCmpFunc_api_Packet N) N
theorem k_slices_symMergeCmpFunc_api_Packet_3 (N k : Nat) : LCOK (e_slices_symMergeCmpFunc_api_Packet N k) 12 (loopAt Tryz.prog 74 0) (lc_slices_symMergeCmpFunc_api_Packet_3 N) := mkLC_ok rfl (by kernel_rfl) (by kernel_rfl) (fun F x => by kernel_rfl)
theorem k_slices_symMergeCmpFunc_api_Packet_9 (N k : Nat) : LCOK (e_slices_symMergeCmpFunc_api_Packet N k) 12 (loopAt Tryz.prog 74 1) (lc_slices_symMergeCmpFunc_api_Packet_9 N) := mkLC_ok rfl (by kernel_rfl) (by kernel_rfl) (fun F x => by kernel_rfl)
theorem k_slices_symMergeCmpFunc_api_Packet_15 (N k : Nat) : LCOK (e_slices_symMergeCmpFunc_api_Packet N k) 12 (loopAt Tryz.prog 74 2) (lc_slices_symMergeCmpFunc_api_Packet_15 N) := mkLC_ok rfl (by kernel_rfl) (by kernel_rfl) (fun F x => by kernel_rfl)
theorem k_slices_symMergeCmpFunc_api_Packet_21 (N k : Nat) : LCOK (e_slices_symMergeCmpFunc_api_Packet N k) 12 (loopAt Tryz.prog 74 3) (lc_slices_symMergeCmpFunc_api_Packet_21 N) := mkLC_ok rfl (by kernel_rfl) (by kernel_rfl) (fun F x => by kernel_rfl)
theorem k_slices_symMergeCmpFunc_api_Packet_33 (N k : Nat) : LCOK (e_slices_symMergeCmpFunc_api_Packet N k) 12 (loopAt Tryz.prog 74 4) (lc_slices_symMergeCmpFunc_api_Packet_33 N) := mkLC_ok rfl (by kernel_rfl) (by kernel_rfl) (fun F x => by kernel_rfl)
theorem q_slices_symMergeCmpFunc_api_Packet (N k : Nat) : LoopsFor (e_slices_symMergeCmpFunc_api_Packet N k) Tryz.prog 74 5 := loops_mk (by kernel_rfl) (fun j hj => match j, hj with
  | 0, _ => .inl ⟨lc_slices_symMergeCmpFunc_api_Packet_3 N, by kernel_rfl, k_slices_symMergeCmpFunc_api_Packet_3 N k⟩
  | 1, _ => .inl ⟨lc_slices_symMergeCmpFunc_api_Packet_9 N, by kernel_rfl, k_slices_symMergeCmpFunc_api_Packet_9 N k⟩
  | 2, _ => .inl ⟨lc_slices_symMergeCmpFunc_api_Packet_15 N, by kernel_rfl, k_slices_symMergeCmpFunc_api_Packet_15 N k⟩
  | 3, _ => .inl ⟨lc_slices_symMergeCmpFunc_api_Packet_21 N, by kernel_rfl, k_slices_symMergeCmpFunc_api_Packet_21 N k⟩
  | 4, _ => .inl ⟨lc_slices_symMergeCmpFunc_api_Packet_33 N, by kernel_rfl, k_slices_symMergeCmpFunc_api_Packet_33 N k⟩
  | _ + 5, h => absurd h (by omega)) (fun _ => rfl)
theorem tI_slices_symMergeCmpFunc_api_Packet (N : Nat) : (k : Nat) → FCOK Tryz.prog N 74 (cI_slices_symMergeCmpFunc_api_Packet N k)
  | 0 => eff_none facts (by kernel_rfl) (fun _ => rfl)
  | k + 1 => eff_ok facts (orc_cons (tI_slices_symMergeCmpFunc_api_Packet N k) (ok_slices_rotateCmpFunc_api_Packet N)) (by kernel_rfl) (by kernel_rfl) (q_slices_symMergeCmpFunc_api_Packet N k) (fun t => by kernel_rfl)
def c_slices_symMergeCmpFunc_api_Packet : FC := mkFCH 1 a_slices_symMergeCmpFunc_api_Packet b_slices_symMergeCmpFunc_api_Packet ra_slices_symMergeCmpFunc_api_Packet rb_slices_symMergeCmpFunc_api_Packet slices_symMergeCmpFunc_api_Packet
theorem t_slices_symMergeCmpFunc_api_Packet : (N : Nat) → FCOK Tryz.prog N 74 c_slices_symMergeCmpFunc_api_Packet
  | 0 => eff_none facts (by kernel_rfl) (fun _ => rfl)
  | m + 1 => eff_ok facts (orc_cons (tI_slices_symMergeCmpFunc_api_Packet (m + 1) m) (ok_slices_rotateCmpFunc_api_Packet (m + 1))) (by kernel_rfl) (by kernel_rfl) (q_slices_symMergeCmpFunc_api_Packet (m + 1) m) (fun t => by kernel_rfl)
def o_slices_symMergeCmpFunc_api_Packet : List (Nat × FC) := (74, c_slices_symMergeCmpFunc_api_Packet) :: o_slices_rotateCmpFunc_api_Packet
theorem ok_slices_symMergeCmpFunc_api_Packet (N : Nat) : OrcOK Tryz.prog o_slices_symMergeCmpFunc_api_Packet N := orc_cons (t_slices_symMergeCmpFunc_api_Packet N) (ok_slices_rotateCmpFunc_api_Packet N)
def p_slices_stableCmpFunc_api_Packet_2 : List Pat := [.sl 0, .sc (.int .i64), .fn 39 [], .any, .any, .any, .sc (.int .i64), .sc (.int .i64), .sc (.int .i64), .any, .any, .any, .any, .any, .any, .any, .any, .any, .any, .any, .any, .any, .any, .any, .any, .any, .any, .any, .any, .any, .any, .any, .any, .any, .any, .any, .any, .any, .any, .any, .any, .any, .any, .any, .any, .any, .any, .any, .any, .any, .any, .any, .any, .any, .any, .any, .any, .any, .any, .any, .any, .any, .any]
def h_slices_stableCmpFunc_api_Packet_2 : List HPat := [.rows 38 [.int .i64, .int .i64, .int .i64, .int .i64, .int .i64]]
def x_slices_stableCmpFunc_api_Packet_2 : List XP := [⟨.exit 0, [.sl 0, .sc (.int .i64), .fn 39 [], .any, .any, .any, .sc (.int .i64), .sc (.int .i64), .any, .any, .any, .any, .any, .any, .any, .any, .any, .any, .any, .any, .any, .any, .any, .any, .any, .any, .any, .any, .any, .any, .any, .any, .any, .any, .any, .any, .any, .any, .any, .any, .any, .any, .any, .any, .any, .any, .any, .any, .any, .any, .any, .any, .any, .any, .any, .any, .any, .any, .any, .any, .any, .any, .any], [.rows 38 [.int .i64, .int .i64, .int .i64, .int .i64, .int .i64]]⟩]
def lc_slices_stableCmpFunc_api_Packet_2 (N : Nat) : LC := mkLC 1 p_slices_stableCmpFunc_api_Packet_2 h_slices_stableCmpFunc_api_Packet_2 x_slices_stableCmpFunc_api_Packet_2 (slices_stableCmpFunc_api_Packet_L2 N)
def p_slices_stableCmpFunc_api_Packet_9 : List Pat := [.sl 0, .sc (.int .i64), .fn 39 [], .any, .any, .any, .sc (.int .i64), .sc (.int .i64), .sc (.int .i64), .any, .any, .any, .any, .any, .any, .any, .any, .any, .any, .any, .any, .any, .any, .any, .any, .any, .any, .any, .any, .any, .any, .any, .any, .any, .any, .any, .any, .any, .any, .any, .any, .any, .any, .any, .any, .any, .any, .any, .any, .any, .any, .any, .any, .any, .any, .any, .any, .any, .any, .any, .any, .any, .any]
def h_slices_stableCmpFunc_api_Packet_9 : List HPat := [.rows 38 [.int .i64, .int .i64, .int .i64, .int .i64, .int .i64]]
def x_slices_stableCmpFunc_api_Packet_9 : List XP := [⟨.exit 4, [.sl 0, .sc (.int .i64), .fn 39 [], .any, .any, .any, .sc (.int .i64), .sc (.int .i64), .any, .any, .any, .any, .any, .any, .any, .any, .any, .any, .any, .any, .any, .any, .any, .any, .any, .any, .any, .any, .any, .any, .any, .any, .any, .any, .any, .any, .any, .any, .any, .any, .any, .any, .any, .any, .any, .any, .any, .any, .any, .any, .any, .any, .any, .any, .any, .any, .any, .any, .any, .any, .any, .any, .any], [.rows 38 [.int .i64, .int .i64, .int .i64, .int .i64, .int .i64]]⟩]
def lc_slices_stableCmpFunc_api_Packet_9 (N : Nat) : LC := mkLC 1 p_slices_stableCmpFunc_api_Packet_9 h_slices_stableCmpFunc_api_Packet_9 x_slices_stableCmpFunc_api_Packet_9 (slices_stableCmpFunc_api_Packet_L9 N)
def p_slices_stableCmpFunc_api_Packet_7 : List Pat := [.sl 0, .sc (.int .i64), .fn 39 [], .any, .any, .any, .sc (.int .i64), .any, .any, .any, .any, .any, .any, .any, .any, .any, .any, .any, .any, .any, .any, .any, .any, .any, .any, .any, .any, .any, .any, .any, .any, .any, .any, .any, .any, .any, .any, .any, .any, .any, .any, .any, .any, .any, .any, .any, .any, .any, .any, .any, .any, .any, .any, .any, .any, .any, .any, .any, .any, .any, .any, .any, .any]
def h_slices_stableCmpFunc_api_Packet_7 : List HPat := [.rows 38 [.int .i64, .int .i64, .int .i64, .int .i64, .int .i64]]
def x_slices_stableCmpFunc_api_Packet_7 : List XP := [⟨.exit 2, [.any, .any, .any, .any, .any, .any, .any, .any, .any, .any, .any, .any, .any, .any, .any, .any, .any, .any, .any, .any, .any, .any, .any, .any, .any, .any, .any, .any, .any, .any, .any, .any, .any, .any, .any, .any, .any, .any, .any, .any, .any, .any, .any, .any, .any, .any, .any, .any, .any, .any, .any, .any, .any, .any, .any, .any, .any, .any, .any, .any, .any, .any, .any], [.rows 38 [.int .i64, .int .i64, .int .i64, .int .i64, .int .i64]]⟩]
def lc_slices_stableCmpFunc_api_Packet_7 (N : Nat) : LC := mkLC 1 p_slices_stableCmpFunc_api_Packet_7 h_slices_stableCmpFunc_api_Packet_7 x_slices_stableCmpFunc_api_Packet_7 (slices_stableCmpFunc_api_Packet_L7 N)
def s_slices_stableCmpFunc_api_Packet (N : Nat) : List (Nat × LC) := [(2, lc_slices_stableCmpFunc_api_Packet_2 N), (9, lc_slices_stableCmpFunc_api_Packet_9 N), (7, lc_slices_stableCmpFunc_api_Packet_7 N)]
noncomputable def e_slices_stableCmpFunc_api_Packet (N : Nat) : Env := mkEnvX 1 [] Tryz.prog o_slices_symMergeCmpFunc_api_Packet (s_slices_stableCmpFunc_api_Packet N) N
theorem k_slices_stableCmpFunc_api_Packet_2 (N : Nat) : LCOK (e_slices_stableCmpFunc_api_Packet N) 12 (loopAt Tryz.prog 56 0) (lc_slices_stableCmpFunc_api_Packet_2 N) := mkLC_ok rfl (by kernel_rfl) (by kernel_rfl) (fun F x => by kernel_rfl)
theorem k_slices_stableCmpFunc_api_Packet_9 (N : Nat) : LCOK (e_slices_stableCmpFunc_api_Packet N) 12 (loopAt Tryz.prog 56 2) (lc_slices_stableCmpFunc_api_Packet_9 N) := mkLC_ok rfl (by kernel_rfl) (by kernel_rfl) (fun F x => by kernel_rfl)
theorem k_slices_stableCmpFunc_api_Packet_7 (N : Nat) : LCOK (e_slices_stableCmpFunc_api_Packet N) 12 (loopAt Tryz.prog 56 1) (lc_slices_stableCmpFunc_api_Packet_7 N) := mkLC_ok rfl (by kernel_rfl) (by kernel_rfl) (fun F x => by kernel_rfl)
theorem q_slices_stableCmpFunc_api_Packet (N : Nat) : LoopsFor (e_slices_stableCmpFunc_api_Packet N) Tryz.prog 56 3 := loops_mk (by kernel_rfl) (fun j hj => match j, hj with
  | 0, _ => .inl ⟨lc_slices_stableCmpFunc_api_Packet_2 N, by kernel_rfl, k_slices_stableCmpFunc_api_Packet_2 N⟩
  | 1, _ => .inl ⟨lc_slices_stableCmpFunc_api_Packet_7 N, by kernel_rfl, k_slices_stableCmpFunc_api_Packet_7 N⟩
  | 2, _ => .inl ⟨lc_slices_stableCmpFunc_api_Packet_9 N, by kernel_rfl, k_slices_stableCmpFunc_api_Packet_9 N⟩
  | _ + 3, h => absurd h (by omega)) (fun _ => rfl)
def a_slices_stableCmpFunc_api_Packet : List Pat := [.sl 0, .sc (.int .i64), .fn 39 []]
def b_slices_stableCmpFunc_api_Packet : List HPat := [.rows 38 [.int .i64, .int .i64, .int .i64, .int .i64, .int .i64]]
def ra_slices_stableCmpFunc_api_Packet : List Pat := []
def rb_slices_stableCmpFunc_api_Packet : List HPat := [.rows 38 [.int .i64, .int .i64, .int .i64, .int .i64, .int .i64]]
def c_slices_stableCmpFunc_api_Packet : FC := mkFCH 1 a_slices_stableCmpFunc_api_Packet b_slices_stableCmpFunc_api_Packet ra_slices_stableCmpFunc_api_Packet rb_slices_stableCmpFunc_api_Packet slices_stableCmpFunc_api_Packet
theorem t_slices_stableCmpFunc_api_Packet (N : Nat) : FCOK Tryz.prog N 56 c_slices_stableCmpFunc_api_Packet := eff_ok facts (ok_slices_symMergeCmpFunc_api_Packet N) (by kernel_rfl) (by kernel_rfl) (q_slices_stableCmpFunc_api_Packet N) (fun t => by kernel_rfl)
def o_slices_stableCmpFunc_api_Packet : List (Nat × FC) := (56, c_slices_stableCmpFunc_api_Packet) :: o_slices_symMergeCmpFunc_api_Packet
theorem ok_slices_stableCmpFunc_api_Packet (N : Nat) : OrcOK Tryz.prog o_slices_stableCmpFunc_api_Packet N := orc_cons (t_slices_stableCmpFunc_api_Packet N) (ok_slices_symMergeCmpFunc_api_Packet N)
def s_slices_SortStableFunc_api_Packet_api_Packet (_ : Nat) : List (Nat × LC) := []
noncomputable def e_slices_SortStableFunc_api_Packet_api_Packet (N : Nat) : Env := mkEnvX 1 [] Tryz.prog o_slices_stableCmpFunc_api_Packet (s_slices_SortStableFunc_api_Packet_api_Packet N) N
theorem q_slices_SortStableFunc_api_Packet_api_Packet (N : Nat) : LoopsFor (e_slices_SortStableFunc_api_Packet_api_Packet N) Tryz.prog 38 0 := loops_mk (by kernel_rfl) (fun j hj => match j, hj with
  | _ + 0, h => absurd h (by omega)) (fun _ => rfl)
def a_slices_SortStableFunc_api_Packet_api_Packet : List Pat := [.sl 0, .fn 39 []]
def b_slices_SortStableFunc_api_Packet_api_Packet : List HPat := [.rows 38 [.int .i64, .int .i64, .int .i64, .int .i64, .int .i64]]
def ra_slices_SortStableFunc_api_Packet_api_Packet : List Pat := []
def rb_slices_SortStableFunc_api_Packet_api_Packet : List HPat := [.rows 38 [.int .i64, .int .i64, .int .i64, .int .i64, .int .i64]]
def c_slices_SortStableFunc_api_Packet_api_Packet : FC := mkFCH 1 a_slices_SortStableFunc_api_Packet_api_Packet b_slices_SortStableFunc_api_Packet_api_Packet ra_slices_SortStableFunc_api_Packet_api_Packet rb_slices_SortStableFunc_api_Packet_api_Packet slices_SortStableFunc_api_Packet_api_Packet
theorem t_slices_SortStableFunc_api_Packet_api_Packet (N : Nat) : FCOK Tryz.prog N 38 c_slices_SortStableFunc_api_Packet_api_Packet := eff_ok facts (ok_slices_stableCmpFunc_api_Packet N) (by kernel_rfl) (by kernel_rfl) (q_slices_SortStableFunc_api_Packet_api_Packet N) (fun t => by kernel_rfl)
def o_slices_SortStableFunc_api_Packet_api_Packet : List (Nat × FC) := (38, c_slices_SortStableFunc_api_Packet_api_Packet) :: o_slices_stableCmpFunc_api_Packet
theorem ok_slices_SortStableFunc_api_Packet_api_Packet (N : Nat) : OrcOK Tryz.prog o_slices_SortStableFunc_api_Packet_api_Packet N := orc_cons (t_slices_SortStableFunc_api_Packet_api_Packet N) (ok_slices_stableCmpFunc_api_Packet N)
def p_chain_coming_3 : List Pat := [.any, .any, .any, .sl 0, .any, .any, .any, .any, .sc (.int .i64), .sc (.int .i64), .any, .any, .any, .any, .any, .any, .any, .any, .any, .any, .any, .any, .any, .any, .any, .any, .any, .any, .any, .any, .any, .any, .any, .any, .any, .any]
def h_chain_coming_3 : List HPat := [.rows 38 [.int .i64, .int .i64, .int .i64, .int .i64, .int .i64]]
def x_chain_coming_3 : List XP := [⟨.exit 0, [.any, .any, .any, .sl 0, .any, .any, .any, .any, .any, .any, .any, .any, .any, .any, .any, .any, .any, .any, .any, .any, .any, .any, .any, .any, .any, .any, .any, .any, .any, .any, .any, .any, .any, .any, .any, .any], [.rows 38 [.int .i64, .int .i64, .int .i64, .int .i64, .int .i64]]⟩]
def lc_chain_coming_3 (N : Nat) : LC := mkLC 0 p_chain_coming_3 h_chain_coming_3 x_chain_coming_3 (chain_coming_L3 N)
def s_chain_coming (N : Nat) : List (Nat × LC) := [(3, lc_chain_coming_3 N)]
noncomputable def e_chain_coming (N : Nat) : Env := mkEnvX 0 [] Tryz.prog o_slices_SortStableFunc_api_Packet_api_Packet (s_chain_coming N) N
theorem k_chain_coming_3 (N : Nat) : LCOK (e_chain_coming N) 12 (loopAt Tryz.prog 20 0) (lc_chain_coming_3 N) := mkLC_ok rfl (by kernel_rfl) (by kernel_rfl) (fun F x => by kernel_rfl)
theorem q_chain_coming (N : Nat) : LoopsFor (e_chain_coming N) Tryz.prog 20 1 := loops_mk (by kernel_rfl) (fun j hj => match j, hj with
  | 0, _ => .inl ⟨lc_chain_coming_3 N, by kernel_rfl, k_chain_coming_3 N⟩
  | _ + 1, h => absurd h (by omega)) (fun _ => rfl)
def c_chain_coming : FC := mkF [.row 38 [.int .i64, .int .i64, .int .i64, .int .i64, .int .i64]] [.row 38 [.int .i64, .int .i64, .int .i64, .int .i64, .int .i64]] chain_coming
theorem t_chain_coming (N : Nat) : FCOK Tryz.prog N 20 c_chain_coming := fun_ok facts (ok_slices_SortStableFunc_api_Packet_api_Packet N) (by kernel_rfl) (by kernel_rfl) (q_chain_coming N) (fun t => by kernel_rfl)
def o_chain_coming : List (Nat × FC) := (20, c_chain_coming) :: o_slices_SortStableFunc_api_Packet_api_Packet
theorem ok_chain_coming (N : Nat) : OrcOK Tryz.prog o_chain_coming N := orc_cons (t_chain_coming N) (ok_slices_SortStableFunc_api_Packet_api_Packet N)
def s_dual_Queue_Tally (_ : Nat) : List (Nat × LC) := []
noncomputable def e_dual_Queue_Tally (N : Nat) : Env := mkEnvX 0 [] Tryz.prog o_chain_coming (s_dual_Queue_Tally N) N
theorem q_dual_Queue_Tally (N : Nat) : LoopsFor (e_dual_Queue_Tally N) Tryz.prog 61 0 := loops_mk (by kernel_rfl) (fun j hj => match j, hj with
  | _ + 0, h => absurd h (by omega)) (fun _ => rfl)
def a_dual_Queue_Tally : List Pat := [.ptr 0 0, .sc (.int .i64)]
def b_dual_Queue_Tally : List HPat := [.rcells [.grp [.int .i64, .int .i64, .int .i64, .int .i64, .int .i64, .int .i64, .int .i64, .int .i64], .nilp, .any, .any, .grp [.int .i64, .int .i64, .int .i64, .int .i64, .int .i64, .int .i64, .int .i64, .int .i64, .int .i64], .grp [.int .i64, .int .i64, .int .i64, .int .i64, .int .i64, .int .i64, .int .i64, .int .i64, .int .i64], .grp [.int .i64, .int .i64, .int .i64, .int .i64, .int .i64, .int .i64, .int .i64, .int .i64, .int .i64], .grp [.int .i64, .int .i64], .sc (.int .i64), .any]]
def c_dual_Queue_Tally : FC := mkFC a_dual_Queue_Tally b_dual_Queue_Tally [.agg [.int .i64, .int .i64, .int .i64, .int .i64, .int .i64, .int .i64, .int .i64, .int .i64, .int .i64]] dual_Queue_Tally
theorem t_dual_Queue_Tally (N : Nat) : FCOK Tryz.prog N 61 c_dual_Queue_Tally := ro_ok facts (ok_chain_coming N) (by kernel_rfl) (by kernel_rfl) (q_dual_Queue_Tally N) (fun t => by kernel_rfl)
def o_dual_Queue_Tally : List (Nat × FC) := (61, c_dual_Queue_Tally) :: o_chain_coming
theorem ok_dual_Queue_Tally (N : Nat) : OrcOK Tryz.prog o_dual_Queue_Tally N := orc_cons (t_dual_Queue_Tally N) (ok_chain_coming N)
def s_dual_Queue_Waits (_ : Nat) : List (Nat × LC) := []
noncomputable def e_dual_Queue_Waits (N : Nat) : Env := mkEnvX 0 [] Tryz.prog o_dual_Queue_Tally (s_dual_Queue_Waits N) N
theorem q_dual_Queue_Waits (N : Nat) : LoopsFor (e_dual_Queue_Waits N) Tryz.prog 43 0 := loops_mk (by kernel_rfl) (fun j hj => match j, hj with
  | _ + 0, h => absurd h (by omega)) (fun _ => rfl)
def a_dual_Queue_Waits : List Pat := [.ptr 0 0]
def b_dual_Queue_Waits : List HPat := [.rcells [.grp [.int .i64, .int .i64, .int .i64, .int .i64, .int .i64, .int .i64, .int .i64, .int .i64], .nilp, .any, .any, .grp [.int .i64, .int .i64, .int .i64, .int .i64, .int .i64, .int .i64, .int .i64, .int .i64, .int .i64], .grp [.int .i64, .int .i64, .int .i64, .int .i64, .int .i64, .int .i64, .int .i64, .int .i64, .int .i64], .grp [.int .i64, .int .i64, .int .i64, .int .i64, .int .i64, .int .i64, .int .i64, .int .i64, .int .i64], .grp [.int .i64, .int .i64], .sc (.int .i64), .any]]
def c_dual_Queue_Waits : FC := mkFC a_dual_Queue_Waits b_dual_Queue_Waits [.sc (.bool)] dual_Queue_Waits
theorem t_dual_Queue_Waits (N : Nat) : FCOK Tryz.prog N 43 c_dual_Queue_Waits := ro_ok facts (ok_dual_Queue_Tally N) (by kernel_rfl) (by kernel_rfl) (q_dual_Queue_Waits N) (fun t => by kernel_rfl)
def o_dual_Queue_Waits : List (Nat × FC) := (43, c_dual_Queue_Waits) :: o_dual_Queue_Tally
theorem ok_dual_Queue_Waits (N : Nat) : OrcOK Tryz.prog o_dual_Queue_Waits N := orc_cons (t_dual_Queue_Waits N) (ok_dual_Queue_Tally N)
def s_ring_Ring_api_Packet_At (_ : Nat) : List (Nat × LC) := []
noncomputable def e_ring_Ring_api_Packet_At (N : Nat) : Env := mkEnvX 0 [] Tryz.prog o_dual_Queue_Waits (s_ring_Ring_api_Packet_At N) N
theorem q_ring_Ring_api_Packet_At (N : Nat) : LoopsFor (e_ring_Ring_api_Packet_At N) Tryz.prog 117 0 := loops_mk (by kernel_rfl) (fun j hj => match j, hj with
  | _ + 0, h => absurd h (by omega)) (fun _ => rfl)
def a_ring_Ring_api_Packet_At : List Pat := [.ptr 0 0, .sc (.int .i64)]
def b_ring_Ring_api_Packet_At : List HPat := [.rcells [.sl 1, .sc (.int .i64), .sc (.int .i64), .sc (.int .i64)], .ext 38 [.int .i64, .int .i64, .int .i64, .int .i64, .int .i64]]
def c_ring_Ring_api_Packet_At : FC := mkFC a_ring_Ring_api_Packet_At b_ring_Ring_api_Packet_At [.agg [.int .i64, .int .i64, .int .i64, .int .i64, .int .i64], .sc (.bool)] ring_Ring_api_Packet_At
theorem t_ring_Ring_api_Packet_At (N : Nat) : FCOK Tryz.prog N 117 c_ring_Ring_api_Packet_At := ro_ok facts (ok_dual_Queue_Waits N) (by kernel_rfl) (by kernel_rfl) (q_ring_Ring_api_Packet_At N) (fun t => by kernel_rfl)
def o_ring_Ring_api_Packet_At : List (Nat × FC) := (117, c_ring_Ring_api_Packet_At) :: o_dual_Queue_Waits
theorem ok_ring_Ring_api_Packet_At (N : Nat) : OrcOK Tryz.prog o_ring_Ring_api_Packet_At N := orc_cons (t_ring_Ring_api_Packet_At N) (ok_dual_Queue_Waits N)
def s_ring_Ring_api_Packet_Front (_ : Nat) : List (Nat × LC) := []
noncomputable def e_ring_Ring_api_Packet_Front (N : Nat) : Env := mkEnvX 0 [] Tryz.prog o_ring_Ring_api_Packet_At (s_ring_Ring_api_Packet_Front N) N
theorem q_ring_Ring_api_Packet_Front (N : Nat) : LoopsFor (e_ring_Ring_api_Packet_Front N) Tryz.prog 100 0 := loops_mk (by kernel_rfl) (fun j hj => match j, hj with
  | _ + 0, h => absurd h (by omega)) (fun _ => rfl)
def a_ring_Ring_api_Packet_Front : List Pat := [.ptr 0 0]
def b_ring_Ring_api_Packet_Front : List HPat := [.rcells [.sl 1, .sc (.int .i64), .sc (.int .i64), .sc (.int .i64)], .ext 38 [.int .i64, .int .i64, .int .i64, .int .i64, .int .i64]]
def c_ring_Ring_api_Packet_Front : FC := mkFC a_ring_Ring_api_Packet_Front b_ring_Ring_api_Packet_Front [.agg [.int .i64, .int .i64, .int .i64, .int .i64, .int .i64], .sc (.bool)] ring_Ring_api_Packet_Front
theorem t_ring_Ring_api_Packet_Front (N : Nat) : FCOK Tryz.prog N 100 c_ring_Ring_api_Packet_Front := ro_ok facts (ok_ring_Ring_api_Packet_At N) (by kernel_rfl) (by kernel_rfl) (q_ring_Ring_api_Packet_Front N) (fun t => by kernel_rfl)
def o_ring_Ring_api_Packet_Front : List (Nat × FC) := (100, c_ring_Ring_api_Packet_Front) :: o_ring_Ring_api_Packet_At
theorem ok_ring_Ring_api_Packet_Front (N : Nat) : OrcOK Tryz.prog o_ring_Ring_api_Packet_Front N := orc_cons (t_ring_Ring_api_Packet_Front N) (ok_ring_Ring_api_Packet_At N)
def s_dual_Queue_size (_ : Nat) : List (Nat × LC) := []
noncomputable def e_dual_Queue_size (N : Nat) : Env := mkEnvX 0 [] Tryz.prog o_ring_Ring_api_Packet_Front (s_dual_Queue_size N) N
theorem q_dual_Queue_size (N : Nat) : LoopsFor (e_dual_Queue_size N) Tryz.prog 78 0 := loops_mk (by kernel_rfl) (fun j hj => match j, hj with
  | _ + 0, h => absurd h (by omega)) (fun _ => rfl)
def a_dual_Queue_size : List Pat := [.ptr 0 0, .sc (.int .i64)]
def b_dual_Queue_size : List HPat := [.rcells [.grp [.int .i64, .int .i64, .int .i64, .int .i64, .int .i64, .int .i64, .int .i64, .int .i64], .nilp, .ptr 1 0, .ptr 2 0, .grp [.int .i64, .int .i64, .int .i64, .int .i64, .int .i64, .int .i64, .int .i64, .int .i64, .int .i64], .grp [.int .i64, .int .i64, .int .i64, .int .i64, .int .i64, .int .i64, .int .i64, .int .i64, .int .i64], .grp [.int .i64, .int .i64, .int .i64, .int .i64, .int .i64, .int .i64, .int .i64, .int .i64, .int .i64], .grp [.int .i64, .int .i64], .sc (.int .i64), .any], .rcells [.sl 3, .sc (.int .i64), .sc (.int .i64), .sc (.int .i64)], .rcells [.sl 4, .sc (.int .i64), .sc (.int .i64), .sc (.int .i64)], .ext 38 [.int .i64, .int .i64, .int .i64, .int .i64, .int .i64], .ext 38 [.int .i64, .int .i64, .int .i64, .int .i64, .int .i64]]
def c_dual_Queue_size : FC := mkFC a_dual_Queue_size b_dual_Queue_size [.sc (.int .i64)] dual_Queue_size
theorem t_dual_Queue_size (N : Nat) : FCOK Tryz.prog N 78 c_dual_Queue_size := ro_ok facts (ok_ring_Ring_api_Packet_Front N) (by kernel_rfl) (by kernel_rfl) (q_dual_Queue_size N) (fun t => by kernel_rfl)
def o_dual_Queue_size : List (Nat × FC) := (78, c_dual_Queue_size) :: o_ring_Ring_api_Packet_Front
theorem ok_dual_Queue_size (N : Nat) : OrcOK Tryz.prog o_dual_Queue_size N := orc_cons (t_dual_Queue_size N) (ok_ring_Ring_api_Packet_Front N)
def s_turn_size (_ : Nat) : List (Nat × LC) := []
noncomputable def e_turn_size (N : Nat) : Env := mkEnvX 0 [] Tryz.prog o_dual_Queue_size (s_turn_size N) N
theorem q_turn_size (N : Nat) : LoopsFor (e_turn_size N) Tryz.prog 98 0 := loops_mk (by kernel_rfl) (fun j hj => match j, hj with
  | _ + 0, h => absurd h (by omega)) (fun _ => rfl)
def c_turn_size : FC := mkF [.sc (.int .i64)] [.sc (.int .i64)] turn_size
theorem t_turn_size (N : Nat) : FCOK Tryz.prog N 98 c_turn_size := fun_ok facts (ok_dual_Queue_size N) (by kernel_rfl) (by kernel_rfl) (q_turn_size N) (fun t => by kernel_rfl)
def o_turn_size : List (Nat × FC) := (98, c_turn_size) :: o_dual_Queue_size
theorem ok_turn_size (N : Nat) : OrcOK Tryz.prog o_turn_size N := orc_cons (t_turn_size N) (ok_dual_Queue_size N)
def s_turn_owed (_ : Nat) : List (Nat × LC) := []
noncomputable def e_turn_owed (N : Nat) : Env := mkEnvX 0 [] Tryz.prog o_turn_size (s_turn_owed N) N
theorem q_turn_owed (N : Nat) : LoopsFor (e_turn_owed N) Tryz.prog 99 0 := loops_mk (by kernel_rfl) (fun j hj => match j, hj with
  | _ + 0, h => absurd h (by omega)) (fun _ => rfl)
def c_turn_owed : FC := mkF [.agg [.int .i64]] [.sc (.int .i64)] turn_owed
theorem t_turn_owed (N : Nat) : FCOK Tryz.prog N 99 c_turn_owed := fun_ok facts (ok_turn_size N) (by kernel_rfl) (by kernel_rfl) (q_turn_owed N) (fun t => by kernel_rfl)
def o_turn_owed : List (Nat × FC) := (99, c_turn_owed) :: o_turn_size
theorem ok_turn_owed (N : Nat) : OrcOK Tryz.prog o_turn_owed N := orc_cons (t_turn_owed N) (ok_turn_size N)
def s_turn_Pick (_ : Nat) : List (Nat × LC) := []
noncomputable def e_turn_Pick (N : Nat) : Env := mkEnvX 0 [] Tryz.prog o_turn_owed (s_turn_Pick N) N
theorem q_turn_Pick (N : Nat) : LoopsFor (e_turn_Pick N) Tryz.prog 77 0 := loops_mk (by kernel_rfl) (fun j hj => match j, hj with
  | _ + 0, h => absurd h (by omega)) (fun _ => rfl)
def c_turn_Pick : FC := mkF [.agg [.int .i64], .sc (.int .i64), .sc (.int .i64)] [.sc (.int .i64)] turn_Pick
theorem t_turn_Pick (N : Nat) : FCOK Tryz.prog N 77 c_turn_Pick := fun_ok facts (ok_turn_owed N) (by kernel_rfl) (by kernel_rfl) (q_turn_Pick N) (fun t => by kernel_rfl)
def o_turn_Pick : List (Nat × FC) := (77, c_turn_Pick) :: o_turn_owed
theorem ok_turn_Pick (N : Nat) : OrcOK Tryz.prog o_turn_Pick N := orc_cons (t_turn_Pick N) (ok_turn_owed N)
def s_dual_Queue_delay (_ : Nat) : List (Nat × LC) := []
noncomputable def e_dual_Queue_delay (N : Nat) : Env := mkEnvX 0 [] Tryz.prog o_turn_Pick (s_dual_Queue_delay N) N
theorem q_dual_Queue_delay (N : Nat) : LoopsFor (e_dual_Queue_delay N) Tryz.prog 79 0 := loops_mk (by kernel_rfl) (fun j hj => match j, hj with
  | _ + 0, h => absurd h (by omega)) (fun _ => rfl)
def a_dual_Queue_delay : List Pat := [.ptr 0 0, .sc (.int .i64), .sc (.int .i64)]
def b_dual_Queue_delay : List HPat := [.rcells [.grp [.int .i64, .int .i64, .int .i64, .int .i64, .int .i64, .int .i64, .int .i64, .int .i64], .nilp, .ptr 1 0, .ptr 2 0, .grp [.int .i64, .int .i64, .int .i64, .int .i64, .int .i64, .int .i64, .int .i64, .int .i64, .int .i64], .grp [.int .i64, .int .i64, .int .i64, .int .i64, .int .i64, .int .i64, .int .i64, .int .i64, .int .i64], .grp [.int .i64, .int .i64, .int .i64, .int .i64, .int .i64, .int .i64, .int .i64, .int .i64, .int .i64], .grp [.int .i64, .int .i64], .sc (.int .i64), .any], .rcells [.sl 3, .sc (.int .i64), .sc (.int .i64), .sc (.int .i64)], .rcells [.sl 4, .sc (.int .i64), .sc (.int .i64), .sc (.int .i64)], .ext 38 [.int .i64, .int .i64, .int .i64, .int .i64, .int .i64], .ext 38 [.int .i64, .int .i64, .int .i64, .int .i64, .int .i64]]
def c_dual_Queue_delay : FC := mkFC a_dual_Queue_delay b_dual_Queue_delay [.sc (.int .i64)] dual_Queue_delay
theorem t_dual_Queue_delay (N : Nat) : FCOK Tryz.prog N 79 c_dual_Queue_delay := ro_ok facts (ok_turn_Pick N) (by kernel_rfl) (by kernel_rfl) (q_dual_Queue_delay N) (fun t => by kernel_rfl)
def o_dual_Queue_delay : List (Nat × FC) := (79, c_dual_Queue_delay) :: o_turn_Pick
theorem ok_dual_Queue_delay (N : Nat) : OrcOK Tryz.prog o_dual_Queue_delay N := orc_cons (t_dual_Queue_delay N) (ok_turn_Pick N)
def s_ring_Ring_api_Packet_Pop (_ : Nat) : List (Nat × LC) := []
noncomputable def e_ring_Ring_api_Packet_Pop (N : Nat) : Env := mkEnvX 1 [] Tryz.prog o_dual_Queue_delay (s_ring_Ring_api_Packet_Pop N) N
theorem q_ring_Ring_api_Packet_Pop (N : Nat) : LoopsFor (e_ring_Ring_api_Packet_Pop N) Tryz.prog 101 0 := loops_mk (by kernel_rfl) (fun j hj => match j, hj with
  | _ + 0, h => absurd h (by omega)) (fun _ => rfl)
def a_ring_Ring_api_Packet_Pop : List Pat := [.ptr 0 0]
def b_ring_Ring_api_Packet_Pop : List HPat := [.cells [.sl 1, .sc (.int .i64), .sc (.int .i64), .sc (.int .i64)], .rows 38 [.int .i64, .int .i64, .int .i64, .int .i64, .int .i64]]
def ra_ring_Ring_api_Packet_Pop : List Pat := [.agg [.int .i64, .int .i64, .int .i64, .int .i64, .int .i64], .sc (.bool)]
def rb_ring_Ring_api_Packet_Pop : List HPat := [.cells [.sl 1, .sc (.int .i64), .sc (.int .i64), .sc (.int .i64)], .rows 38 [.int .i64, .int .i64, .int .i64, .int .i64, .int .i64]]
def c_ring_Ring_api_Packet_Pop : FC := mkFCH 1 a_ring_Ring_api_Packet_Pop b_ring_Ring_api_Packet_Pop ra_ring_Ring_api_Packet_Pop rb_ring_Ring_api_Packet_Pop ring_Ring_api_Packet_Pop
theorem t_ring_Ring_api_Packet_Pop (N : Nat) : FCOK Tryz.prog N 101 c_ring_Ring_api_Packet_Pop := eff_ok facts (ok_dual_Queue_delay N) (by kernel_rfl) (by kernel_rfl) (q_ring_Ring_api_Packet_Pop N) (fun t => by kernel_rfl)
def o_ring_Ring_api_Packet_Pop : List (Nat × FC) := (101, c_ring_Ring_api_Packet_Pop) :: o_dual_Queue_delay
theorem ok_ring_Ring_api_Packet_Pop (N : Nat) : OrcOK Tryz.prog o_ring_Ring_api_Packet_Pop N := orc_cons (t_ring_Ring_api_Packet_Pop N) (ok_dual_Queue_delay N)
def s_couple_within_1 (_ : Nat) : List (Nat × LC) := []
noncomputable def e_couple_within_1 (N : Nat) : Env := mkEnvX 0 [] Tryz.prog o_ring_Ring_api_Packet_Pop (s_couple_within_1 N) N
theorem q_couple_within_1 (N : Nat) : LoopsFor (e_couple_within_1 N) Tryz.prog 125 0 := loops_mk (by kernel_rfl) (fun j hj => match j, hj with
  | _ + 0, h => absurd h (by omega)) (fun _ => rfl)
def c_couple_within_1 : FC := mkF [.sc (.int .i64), .sc (.int .i64)] [.sc (.int .i64)] couple_within_1
theorem t_couple_within_1 (N : Nat) : FCOK Tryz.prog N 125 c_couple_within_1 := fun_ok facts (ok_ring_Ring_api_Packet_Pop N) (by kernel_rfl) (by kernel_rfl) (q_couple_within_1 N) (fun t => by kernel_rfl)
def o_couple_within_1 : List (Nat × FC) := (125, c_couple_within_1) :: o_ring_Ring_api_Packet_Pop
theorem ok_couple_within_1 (N : Nat) : OrcOK Tryz.prog o_couple_within_1 N := orc_cons (t_couple_within_1 N) (ok_ring_Ring_api_Packet_Pop N)
def s_couple_within (_ : Nat) : List (Nat × LC) := []
noncomputable def e_couple_within (N : Nat) : Env := mkEnvX 0 [] Tryz.prog o_couple_within_1 (s_couple_within N) N
theorem q_couple_within (N : Nat) : LoopsFor (e_couple_within N) Tryz.prog 120 0 := loops_mk (by kernel_rfl) (fun j hj => match j, hj with
  | _ + 0, h => absurd h (by omega)) (fun _ => rfl)
def c_couple_within : FC := mkF [.sc (.int .i64), .sc (.int .i64)] [.sc (.int .i64), .sc (.int .i64)] couple_within
theorem t_couple_within (N : Nat) : FCOK Tryz.prog N 120 c_couple_within := fun_ok facts (ok_couple_within_1 N) (by kernel_rfl) (by kernel_rfl) (q_couple_within N) (fun t => by kernel_rfl)
def o_couple_within : List (Nat × FC) := (120, c_couple_within) :: o_couple_within_1
theorem ok_couple_within (N : Nat) : OrcOK Tryz.prog o_couple_within N := orc_cons (t_couple_within N) (ok_couple_within_1 N)
def s_bits_Mul64 (_ : Nat) : List (Nat × LC) := []
noncomputable def e_bits_Mul64 (N : Nat) : Env := mkEnvX 0 [] Tryz.prog o_couple_within (s_bits_Mul64 N) N
theorem q_bits_Mul64 (N : Nat) : LoopsFor (e_bits_Mul64 N) Tryz.prog 133 0 := loops_mk (by kernel_rfl) (fun j hj => match j, hj with
  | _ + 0, h => absurd h (by omega)) (fun _ => rfl)
def c_bits_Mul64 : FC := mkF [.sc (.int .u64), .sc (.int .u64)] [.sc (.int .u64), .sc (.int .u64)] bits_Mul64
theorem t_bits_Mul64 (N : Nat) : FCOK Tryz.prog N 133 c_bits_Mul64 := fun_ok facts (ok_couple_within N) (by kernel_rfl) (by kernel_rfl) (q_bits_Mul64 N) (fun t => by kernel_rfl)
def o_bits_Mul64 : List (Nat × FC) := (133, c_bits_Mul64) :: o_couple_within
theorem ok_bits_Mul64 (N : Nat) : OrcOK Tryz.prog o_bits_Mul64 N := orc_cons (t_bits_Mul64 N) (ok_couple_within N)
def s_wide_Mul (_ : Nat) : List (Nat × LC) := []
noncomputable def e_wide_Mul (N : Nat) : Env := mkEnvX 0 [] Tryz.prog o_bits_Mul64 (s_wide_Mul N) N
theorem q_wide_Mul (N : Nat) : LoopsFor (e_wide_Mul N) Tryz.prog 130 0 := loops_mk (by kernel_rfl) (fun j hj => match j, hj with
  | _ + 0, h => absurd h (by omega)) (fun _ => rfl)
def c_wide_Mul : FC := mkF [.sc (.int .u64), .sc (.int .u64)] [.agg [.int .u64, .int .u64]] wide_Mul
theorem t_wide_Mul (N : Nat) : FCOK Tryz.prog N 130 c_wide_Mul := fun_ok facts (ok_bits_Mul64 N) (by kernel_rfl) (by kernel_rfl) (q_wide_Mul N) (fun t => by kernel_rfl)
def o_wide_Mul : List (Nat × FC) := (130, c_wide_Mul) :: o_bits_Mul64
theorem ok_wide_Mul (N : Nat) : OrcOK Tryz.prog o_wide_Mul N := orc_cons (t_wide_Mul N) (ok_bits_Mul64 N)
def s_bits_Len64 (_ : Nat) : List (Nat × LC) := []
noncomputable def e_bits_Len64 (N : Nat) : Env := mkEnvX 0 [] Tryz.prog o_wide_Mul (s_bits_Len64 N) N
theorem q_bits_Len64 (N : Nat) : LoopsFor (e_bits_Len64 N) Tryz.prog 138 0 := loops_mk (by kernel_rfl) (fun j hj => match j, hj with
  | _ + 0, h => absurd h (by omega)) (fun _ => rfl)
def c_bits_Len64 : FC := mkF [.sc (.int .u64)] [.sc (.int .i64)] bits_Len64
theorem t_bits_Len64 (N : Nat) : FCOK Tryz.prog N 138 c_bits_Len64 := fun_ok facts (ok_wide_Mul N) (by kernel_rfl) (by kernel_rfl) (q_bits_Len64 N) (fun t => by kernel_rfl)
def o_bits_Len64 : List (Nat × FC) := (138, c_bits_Len64) :: o_wide_Mul
theorem ok_bits_Len64 (N : Nat) : OrcOK Tryz.prog o_bits_Len64 N := orc_cons (t_bits_Len64 N) (ok_wide_Mul N)
def s_bits_LeadingZeros64 (_ : Nat) : List (Nat × LC) := []
noncomputable def e_bits_LeadingZeros64 (N : Nat) : Env := mkEnvX 0 [] Tryz.prog o_bits_Len64 (s_bits_LeadingZeros64 N) N
theorem q_bits_LeadingZeros64 (N : Nat) : LoopsFor (e_bits_LeadingZeros64 N) Tryz.prog 136 0 := loops_mk (by kernel_rfl) (fun j hj => match j, hj with
  | _ + 0, h => absurd h (by omega)) (fun _ => rfl)
def c_bits_LeadingZeros64 : FC := mkF [.sc (.int .u64)] [.sc (.int .i64)] bits_LeadingZeros64
theorem t_bits_LeadingZeros64 (N : Nat) : FCOK Tryz.prog N 136 c_bits_LeadingZeros64 := fun_ok facts (ok_bits_Len64 N) (by kernel_rfl) (by kernel_rfl) (q_bits_LeadingZeros64 N) (fun t => by kernel_rfl)
def o_bits_LeadingZeros64 : List (Nat × FC) := (136, c_bits_LeadingZeros64) :: o_bits_Len64
theorem ok_bits_LeadingZeros64 (N : Nat) : OrcOK Tryz.prog o_bits_LeadingZeros64 N := orc_cons (t_bits_LeadingZeros64 N) (ok_bits_Len64 N)
def p_bits_Div64_17 : List Pat := [.any, .any, .sc (.int .u64), .any, .any, .any, .any, .any, .sc (.int .u64), .sc (.int .u64), .sc (.int .u64), .sc (.int .u64), .any, .sc (.int .u64), .sc (.int .u64), .sc (.int .u64), .sc (.int .u64), .any, .any, .any, .any, .any, .any, .any, .any, .any, .any, .any, .any, .any, .any, .any, .any, .any, .any, .any, .any, .any, .any, .any, .any, .any, .any, .any, .any, .any, .any, .any, .any, .any, .any, .any, .any, .any, .any, .any, .any, .any, .any, .any, .any, .any, .any, .any, .any, .any, .any, .any, .any, .any, .any, .any, .any, .any, .any, .any, .any, .any, .any, .any, .any, .any, .any, .any, .any, .any, .any, .any, .any, .any, .any, .any, .any, .any, .any, .any, .any, .any, .any, .any, .any, .any, .any, .any, .any, .any, .any, .any, .any, .any, .any, .any, .any, .any, .any, .any, .any, .any, .any, .any, .any, .any, .any, .any, .any, .any, .any, .any, .any, .any, .any, .any, .any, .any, .any]
def h_bits_Div64_17 : List HPat := []
def x_bits_Div64_17 : List XP := [⟨.exit 0, [.any, .any, .sc (.int .u64), .any, .any, .any, .any, .any, .sc (.int .u64), .sc (.int .u64), .sc (.int .u64), .sc (.int .u64), .any, .sc (.int .u64), .sc (.int .u64), .sc (.int .u64), .any, .any, .any, .any, .any, .any, .any, .any, .any, .any, .any, .any, .any, .any, .any, .any, .any, .any, .any, .any, .any, .any, .any, .any, .any, .any, .any, .any, .any, .any, .any, .any, .any, .any, .any, .any, .any, .any, .any, .any, .any, .any, .any, .any, .any, .any, .any, .any, .any, .any, .any, .any, .any, .any, .any, .any, .any, .any, .any, .any, .any, .any, .any, .any, .any, .any, .any, .any, .any, .any, .any, .any, .any, .any, .any, .any, .any, .any, .any, .any, .any, .any, .any, .any, .any, .any, .any, .any, .any, .any, .any, .any, .any, .any, .any, .any, .any, .any, .any, .any, .any, .any, .any, .any, .any, .any, .any, .any, .any, .any, .any, .any, .any, .any, .any, .any, .any, .any, .any], []⟩]
def lc_bits_Div64_17 (N : Nat) : LC := mkLC 0 p_bits_Div64_17 h_bits_Div64_17 x_bits_Div64_17 (bits_Div64_L17 N)
def p_bits_Div64_24 : List Pat := [.any, .any, .sc (.int .u64), .any, .any, .any, .any, .any, .sc (.int .u64), .sc (.int .u64), .sc (.int .u64), .any, .any, .any, .sc (.int .u64), .sc (.int .u64), .sc (.int .u64), .sc (.int .u64), .sc (.int .u64), .any, .any, .any, .any, .any, .any, .any, .any, .any, .any, .any, .any, .any, .any, .any, .any, .any, .any, .any, .any, .any, .any, .any, .any, .any, .any, .any, .any, .any, .any, .any, .any, .any, .any, .any, .any, .any, .any, .any, .any, .any, .any, .any, .any, .any, .any, .any, .any, .any, .any, .any, .any, .any, .any, .any, .any, .any, .any, .any, .any, .any, .any, .any, .any, .any, .any, .any, .any, .any, .any, .any, .any, .any, .any, .any, .any, .any, .any, .any, .any, .any, .any, .any, .any, .any, .any, .any, .any, .any, .any, .any, .any, .any, .any, .any, .any, .any, .any, .any, .any, .any, .any, .any, .any, .any, .any, .any, .any, .any, .any, .any, .any, .any, .any, .any, .any]
def h_bits_Div64_24 : List HPat := []
def x_bits_Div64_24 : List XP := [⟨.exit 2, [.any, .any, .sc (.int .u64), .any, .any, .any, .any, .any, .sc (.int .u64), .any, .any, .any, .any, .any, .sc (.int .u64), .sc (.int .u64), .any, .sc (.int .u64), .sc (.int .u64), .any, .any, .any, .any, .any, .any, .any, .any, .any, .any, .any, .any, .any, .any, .any, .any, .any, .any, .any, .any, .any, .any, .any, .any, .any, .any, .any, .any, .any, .any, .any, .any, .any, .any, .any, .any, .any, .any, .any, .any, .any, .any, .any, .any, .any, .any, .any, .any, .any, .any, .any, .any, .any, .any, .any, .any, .any, .any, .any, .any, .any, .any, .any, .any, .any, .any, .any, .any, .any, .any, .any, .any, .any, .any, .any, .any, .any, .any, .any, .any, .any, .any, .any, .any, .any, .any, .any, .any, .any, .any, .any, .any, .any, .any, .any, .any, .any, .any, .any, .any, .any, .any, .any, .any, .any, .any, .any, .any, .any, .any, .any, .any, .any, .any, .any, .any], []⟩]
def lc_bits_Div64_24 (N : Nat) : LC := mkLC 0 p_bits_Div64_24 h_bits_Div64_24 x_bits_Div64_24 (bits_Div64_L24 N)
def s_bits_Div64 (N : Nat) : List (Nat × LC) := [(17, lc_bits_Div64_17 N), (24, lc_bits_Div64_24 N)]
noncomputable def e_bits_Div64 (N : Nat) : Env := mkEnvX 0 [] Tryz.prog o_bits_LeadingZeros64 (s_bits_Div64 N) N
theorem k_bits_Div64_17 (N : Nat) : LCOK (e_bits_Div64 N) 12 (loopAt Tryz.prog 132 0) (lc_bits_Div64_17 N) := mkLC_ok rfl (by kernel_rfl) (by kernel_rfl) (fun F x => by kernel_rfl)
theorem k_bits_Div64_24 (N : Nat) : LCOK (e_bits_Div64 N) 12 (loopAt Tryz.prog 132 1) (lc_bits_Div64_24 N) := mkLC_ok rfl (by kernel_rfl) (by kernel_rfl) (fun F x => by kernel_rfl)
theorem q_bits_Div64 (N : Nat) : LoopsFor (e_bits_Div64 N) Tryz.prog 132 2 := loops_mk (by kernel_rfl) (fun j hj => match j, hj with
  | 0, _ => .inl ⟨lc_bits_Div64_17 N, by kernel_rfl, k_bits_Div64_17 N⟩
  | 1, _ => .inl ⟨lc_bits_Div64_24 N, by kernel_rfl, k_bits_Div64_24 N⟩
  | _ + 2, h => absurd h (by omega)) (fun _ => rfl)
def c_bits_Div64 : FC := mkF [.sc (.int .u64), .sc (.int .u64), .sc (.int .u64)] [.sc (.int .u64), .sc (.int .u64)] bits_Div64
theorem t_bits_Div64 (N : Nat) : FCOK Tryz.prog N 132 c_bits_Div64 := fun_ok facts (ok_bits_LeadingZeros64 N) (by kernel_rfl) (by kernel_rfl) (q_bits_Div64 N) (fun t => by kernel_rfl)
def o_bits_Div64 : List (Nat × FC) := (132, c_bits_Div64) :: o_bits_LeadingZeros64
theorem ok_bits_Div64 (N : Nat) : OrcOK Tryz.prog o_bits_Div64 N := orc_cons (t_bits_Div64 N) (ok_bits_LeadingZeros64 N)
def s_wide_Div (_ : Nat) : List (Nat × LC) := []
noncomputable def e_wide_Div (N : Nat) : Env := mkEnvX 0 [] Tryz.prog o_bits_Div64 (s_wide_Div N) N
theorem q_wide_Div (N : Nat) : LoopsFor (e_wide_Div N) Tryz.prog 129 0 := loops_mk (by kernel_rfl) (fun j hj => match j, hj with
  | _ + 0, h => absurd h (by omega)) (fun _ => rfl)
def c_wide_Div : FC := mkF [.agg [.int .u64, .int .u64], .sc (.int .u64)] [.agg [.int .u64, .int .u64], .sc (.int .u64)] wide_Div
theorem t_wide_Div (N : Nat) : FCOK Tryz.prog N 129 c_wide_Div := fun_ok facts (ok_bits_Div64 N) (by kernel_rfl) (by kernel_rfl) (q_wide_Div N) (fun t => by kernel_rfl)
def o_wide_Div : List (Nat × FC) := (129, c_wide_Div) :: o_bits_Div64
theorem ok_wide_Div (N : Nat) : OrcOK Tryz.prog o_wide_Div N := orc_cons (t_wide_Div N) (ok_bits_Div64 N)
def s_wide_muldiv (_ : Nat) : List (Nat × LC) := []
noncomputable def e_wide_muldiv (N : Nat) : Env := mkEnvX 0 [] Tryz.prog o_wide_Div (s_wide_muldiv N) N
theorem q_wide_muldiv (N : Nat) : LoopsFor (e_wide_muldiv N) Tryz.prog 126 0 := loops_mk (by kernel_rfl) (fun j hj => match j, hj with
  | _ + 0, h => absurd h (by omega)) (fun _ => rfl)
def c_wide_muldiv : FC := mkF [.sc (.int .i64), .sc (.int .i64), .sc (.int .i64)] [.agg [.int .u64, .int .u64], .sc (.bool), .sc (.int .i64)] wide_muldiv
theorem t_wide_muldiv (N : Nat) : FCOK Tryz.prog N 126 c_wide_muldiv := fun_ok facts (ok_wide_Div N) (by kernel_rfl) (by kernel_rfl) (q_wide_muldiv N) (fun t => by kernel_rfl)
def o_wide_muldiv : List (Nat × FC) := (126, c_wide_muldiv) :: o_wide_Div
theorem ok_wide_muldiv (N : Nat) : OrcOK Tryz.prog o_wide_muldiv N := orc_cons (t_wide_muldiv N) (ok_wide_Div N)
def s_cmp_isNaN_uint64 (_ : Nat) : List (Nat × LC) := []
noncomputable def e_cmp_isNaN_uint64 (N : Nat) : Env := mkEnvX 0 [] Tryz.prog o_wide_muldiv (s_cmp_isNaN_uint64 N) N
theorem q_cmp_isNaN_uint64 (N : Nat) : LoopsFor (e_cmp_isNaN_uint64 N) Tryz.prog 137 0 := loops_mk (by kernel_rfl) (fun j hj => match j, hj with
  | _ + 0, h => absurd h (by omega)) (fun _ => rfl)
def c_cmp_isNaN_uint64 : FC := mkF [.sc (.int .u64)] [.sc (.bool)] cmp_isNaN_uint64
theorem t_cmp_isNaN_uint64 (N : Nat) : FCOK Tryz.prog N 137 c_cmp_isNaN_uint64 := fun_ok facts (ok_wide_muldiv N) (by kernel_rfl) (by kernel_rfl) (q_cmp_isNaN_uint64 N) (fun t => by kernel_rfl)
def o_cmp_isNaN_uint64 : List (Nat × FC) := (137, c_cmp_isNaN_uint64) :: o_wide_muldiv
theorem ok_cmp_isNaN_uint64 (N : Nat) : OrcOK Tryz.prog o_cmp_isNaN_uint64 N := orc_cons (t_cmp_isNaN_uint64 N) (ok_wide_muldiv N)
def s_cmp_Compare_uint64 (_ : Nat) : List (Nat × LC) := []
noncomputable def e_cmp_Compare_uint64 (N : Nat) : Env := mkEnvX 0 [] Tryz.prog o_cmp_isNaN_uint64 (s_cmp_Compare_uint64 N) N
theorem q_cmp_Compare_uint64 (N : Nat) : LoopsFor (e_cmp_Compare_uint64 N) Tryz.prog 135 0 := loops_mk (by kernel_rfl) (fun j hj => match j, hj with
  | _ + 0, h => absurd h (by omega)) (fun _ => rfl)
def c_cmp_Compare_uint64 : FC := mkF [.sc (.int .u64), .sc (.int .u64)] [.sc (.int .i64)] cmp_Compare_uint64
theorem t_cmp_Compare_uint64 (N : Nat) : FCOK Tryz.prog N 135 c_cmp_Compare_uint64 := fun_ok facts (ok_cmp_isNaN_uint64 N) (by kernel_rfl) (by kernel_rfl) (q_cmp_Compare_uint64 N) (fun t => by kernel_rfl)
def o_cmp_Compare_uint64 : List (Nat × FC) := (135, c_cmp_Compare_uint64) :: o_cmp_isNaN_uint64
theorem ok_cmp_Compare_uint64 (N : Nat) : OrcOK Tryz.prog o_cmp_Compare_uint64 N := orc_cons (t_cmp_Compare_uint64 N) (ok_cmp_isNaN_uint64 N)
def p_cmp_Or_int_3 : List Pat := [.any, .any, .any, .sc (.int .i64), .any, .any, .sl 0, .sc (.int .i64), .sc (.int .i64), .any, .any, .any, .any, .any, .any, .any, .any, .any]
def h_cmp_Or_int_3 : List HPat := [.ext 3 [.int .i64]]
def x_cmp_Or_int_3 : List XP := [⟨.ret, [.any, .any, .sc (.int .i64), .any, .any, .any, .any, .any, .any, .any, .any, .any, .any, .any, .any, .any, .any, .any], []⟩, ⟨.exit 0, [.any, .any, .any, .sc (.int .i64), .any, .any, .any, .any, .any, .any, .any, .any, .any, .any, .any, .any, .any, .any], []⟩]
def lc_cmp_Or_int_3 (N : Nat) : LC := mkLC 0 p_cmp_Or_int_3 h_cmp_Or_int_3 x_cmp_Or_int_3 (cmp_Or_int_L3 N)
def s_cmp_Or_int (N : Nat) : List (Nat × LC) := [(3, lc_cmp_Or_int_3 N)]
noncomputable def e_cmp_Or_int (N : Nat) : Env := mkEnvX 0 [] Tryz.prog o_cmp_Compare_uint64 (s_cmp_Or_int N) N
theorem k_cmp_Or_int_3 (N : Nat) : LCOK (e_cmp_Or_int N) 12 (loopAt Tryz.prog 134 0) (lc_cmp_Or_int_3 N) := mkLC_ok rfl (by kernel_rfl) (by kernel_rfl) (fun F x => by kernel_rfl)
theorem q_cmp_Or_int (N : Nat) : LoopsFor (e_cmp_Or_int N) Tryz.prog 134 1 := loops_mk (by kernel_rfl) (fun j hj => match j, hj with
  | 0, _ => .inl ⟨lc_cmp_Or_int_3 N, by kernel_rfl, k_cmp_Or_int_3 N⟩
  | _ + 1, h => absurd h (by omega)) (fun _ => rfl)
def c_cmp_Or_int : FC := mkF [.row 3 [.int .i64]] [.sc (.int .i64)] cmp_Or_int
theorem t_cmp_Or_int (N : Nat) : FCOK Tryz.prog N 134 c_cmp_Or_int := fun_ok facts (ok_cmp_Compare_uint64 N) (by kernel_rfl) (by kernel_rfl) (q_cmp_Or_int N) (fun t => by kernel_rfl)
def o_cmp_Or_int : List (Nat × FC) := (134, c_cmp_Or_int) :: o_cmp_Compare_uint64
theorem ok_cmp_Or_int (N : Nat) : OrcOK Tryz.prog o_cmp_Or_int N := orc_cons (t_cmp_Or_int N) (ok_cmp_Compare_uint64 N)
def s_wide_Cmp (_ : Nat) : List (Nat × LC) := []
noncomputable def e_wide_Cmp (N : Nat) : Env := mkEnvX 0 [] Tryz.prog o_cmp_Or_int (s_wide_Cmp N) N
theorem q_wide_Cmp (N : Nat) : LoopsFor (e_wide_Cmp N) Tryz.prog 131 0 := loops_mk (by kernel_rfl) (fun j hj => match j, hj with
  | _ + 0, h => absurd h (by omega)) (fun _ => rfl)
def c_wide_Cmp : FC := mkF [.agg [.int .u64, .int .u64], .agg [.int .u64, .int .u64]] [.sc (.int .i64)] wide_Cmp
theorem t_wide_Cmp (N : Nat) : FCOK Tryz.prog N 131 c_wide_Cmp := fun_ok facts (ok_cmp_Or_int N) (by kernel_rfl) (by kernel_rfl) (q_wide_Cmp N) (fun t => by kernel_rfl)
def o_wide_Cmp : List (Nat × FC) := (131, c_wide_Cmp) :: o_cmp_Or_int
theorem ok_wide_Cmp (N : Nat) : OrcOK Tryz.prog o_wide_Cmp N := orc_cons (t_wide_Cmp N) (ok_cmp_Or_int N)
def s_wide_told (_ : Nat) : List (Nat × LC) := []
noncomputable def e_wide_told (N : Nat) : Env := mkEnvX 0 [] Tryz.prog o_wide_Cmp (s_wide_told N) N
theorem q_wide_told (N : Nat) : LoopsFor (e_wide_told N) Tryz.prog 127 0 := loops_mk (by kernel_rfl) (fun j hj => match j, hj with
  | _ + 0, h => absurd h (by omega)) (fun _ => rfl)
def c_wide_told : FC := mkF [.agg [.int .u64, .int .u64], .sc (.int .i64)] [.sc (.int .i64), .sc (.int .i64)] wide_told
theorem t_wide_told (N : Nat) : FCOK Tryz.prog N 127 c_wide_told := fun_ok facts (ok_wide_Cmp N) (by kernel_rfl) (by kernel_rfl) (q_wide_told N) (fun t => by kernel_rfl)
def o_wide_told : List (Nat × FC) := (127, c_wide_told) :: o_wide_Cmp
theorem ok_wide_told (N : Nat) : OrcOK Tryz.prog o_wide_told N := orc_cons (t_wide_told N) (ok_wide_Cmp N)
def s_wide_MulDiv (_ : Nat) : List (Nat × LC) := []
noncomputable def e_wide_MulDiv (N : Nat) : Env := mkEnvX 0 [] Tryz.prog o_wide_told (s_wide_MulDiv N) N
theorem q_wide_MulDiv (N : Nat) : LoopsFor (e_wide_MulDiv N) Tryz.prog 121 0 := loops_mk (by kernel_rfl) (fun j hj => match j, hj with
  | _ + 0, h => absurd h (by omega)) (fun _ => rfl)
def c_wide_MulDiv : FC := mkF [.sc (.int .i64), .sc (.int .i64), .sc (.int .i64)] [.sc (.int .i64), .sc (.int .i64)] wide_MulDiv
theorem t_wide_MulDiv (N : Nat) : FCOK Tryz.prog N 121 c_wide_MulDiv := fun_ok facts (ok_wide_told N) (by kernel_rfl) (by kernel_rfl) (q_wide_MulDiv N) (fun t => by kernel_rfl)
def o_wide_MulDiv : List (Nat × FC) := (121, c_wide_MulDiv) :: o_wide_told
theorem ok_wide_MulDiv (N : Nat) : OrcOK Tryz.prog o_wide_MulDiv N := orc_cons (t_wide_MulDiv N) (ok_wide_told N)
def s_couple_Classic (_ : Nat) : List (Nat × LC) := []
noncomputable def e_couple_Classic (N : Nat) : Env := mkEnvX 0 [] Tryz.prog o_wide_MulDiv (s_couple_Classic N) N
theorem q_couple_Classic (N : Nat) : LoopsFor (e_couple_Classic N) Tryz.prog 103 0 := loops_mk (by kernel_rfl) (fun j hj => match j, hj with
  | _ + 0, h => absurd h (by omega)) (fun _ => rfl)
def c_couple_Classic : FC := mkF [.sc (.int .i64)] [.sc (.int .i64)] couple_Classic
theorem t_couple_Classic (N : Nat) : FCOK Tryz.prog N 103 c_couple_Classic := fun_ok facts (ok_wide_MulDiv N) (by kernel_rfl) (by kernel_rfl) (q_couple_Classic N) (fun t => by kernel_rfl)
def o_couple_Classic : List (Nat × FC) := (103, c_couple_Classic) :: o_wide_MulDiv
theorem ok_couple_Classic (N : Nat) : OrcOK Tryz.prog o_couple_Classic N := orc_cons (t_couple_Classic N) (ok_wide_MulDiv N)
def s_dice_Dice_Next (_ : Nat) : List (Nat × LC) := []
noncomputable def e_dice_Dice_Next (N : Nat) : Env := mkEnvX 3 [] Tryz.prog o_couple_Classic (s_dice_Dice_Next N) N
theorem q_dice_Dice_Next (N : Nat) : LoopsFor (e_dice_Dice_Next N) Tryz.prog 119 0 := loops_mk (by kernel_rfl) (fun j hj => match j, hj with
  | _ + 0, h => absurd h (by omega)) (fun _ => rfl)
def a_dice_Dice_Next : List Pat := [.ptr 0 0]
def b_dice_Dice_Next : List HPat := [.cells [.fn 72 [(1, 0), (2, 0)], .sc (.int .i64)], .cells [.sl 3], .cells [.sc (.int .i64)], .ext 120 [.int .u32]]
def ra_dice_Dice_Next : List Pat := [.sc (.int .u32)]
def rb_dice_Dice_Next : List HPat := [.cells [.fn 72 [(1, 0), (2, 0)], .sc (.int .i64)], .cells [.sl 3], .cells [.sc (.int .i64)], .ext 120 [.int .u32]]
def c_dice_Dice_Next : FC := mkFCH 3 a_dice_Dice_Next b_dice_Dice_Next ra_dice_Dice_Next rb_dice_Dice_Next dice_Dice_Next
theorem t_dice_Dice_Next (N : Nat) : FCOK Tryz.prog N 119 c_dice_Dice_Next := eff_ok facts (ok_couple_Classic N) (by kernel_rfl) (by kernel_rfl) (q_dice_Dice_Next N) (fun t => by kernel_rfl)
def o_dice_Dice_Next : List (Nat × FC) := (119, c_dice_Dice_Next) :: o_couple_Classic
theorem ok_dice_Dice_Next (N : Nat) : OrcOK Tryz.prog o_dice_Dice_Next N := orc_cons (t_dice_Dice_Next N) (ok_couple_Classic N)
def s_couple_Hit (_ : Nat) : List (Nat × LC) := []
noncomputable def e_couple_Hit (N : Nat) : Env := mkEnvX 0 [] Tryz.prog o_dice_Dice_Next (s_couple_Hit N) N
theorem q_couple_Hit (N : Nat) : LoopsFor (e_couple_Hit N) Tryz.prog 118 0 := loops_mk (by kernel_rfl) (fun j hj => match j, hj with
  | _ + 0, h => absurd h (by omega)) (fun _ => rfl)
def c_couple_Hit : FC := mkF [.sc (.int .u32), .sc (.int .i64)] [.sc (.bool)] couple_Hit
theorem t_couple_Hit (N : Nat) : FCOK Tryz.prog N 118 c_couple_Hit := fun_ok facts (ok_dice_Dice_Next N) (by kernel_rfl) (by kernel_rfl) (q_couple_Hit N) (fun t => by kernel_rfl)
def o_couple_Hit : List (Nat × FC) := (118, c_couple_Hit) :: o_dice_Dice_Next
theorem ok_couple_Hit (N : Nat) : OrcOK Tryz.prog o_couple_Hit N := orc_cons (t_couple_Hit N) (ok_dice_Dice_Next N)
def s_dual_Queue_hit (_ : Nat) : List (Nat × LC) := []
noncomputable def e_dual_Queue_hit (N : Nat) : Env := mkEnvX 6 [] Tryz.prog o_couple_Hit (s_dual_Queue_hit N) N
theorem q_dual_Queue_hit (N : Nat) : LoopsFor (e_dual_Queue_hit N) Tryz.prog 102 0 := loops_mk (by kernel_rfl) (fun j hj => match j, hj with
  | _ + 0, h => absurd h (by omega)) (fun _ => rfl)
def a_dual_Queue_hit : List Pat := [.ptr 0 0, .sc (.int .i64)]
def b_dual_Queue_hit : List HPat := [.cells [.grp [.int .i64, .int .i64, .int .i64, .int .i64, .int .i64, .int .i64, .int .i64, .int .i64], .nilp, .ptr 1 0, .ptr 2 0, .grp [.int .i64, .int .i64, .int .i64, .int .i64, .int .i64, .int .i64, .int .i64, .int .i64, .int .i64], .grp [.int .i64, .int .i64, .int .i64, .int .i64, .int .i64, .int .i64, .int .i64, .int .i64, .int .i64], .grp [.int .i64, .int .i64, .int .i64, .int .i64, .int .i64, .int .i64, .int .i64, .int .i64, .int .i64], .grp [.int .i64, .int .i64], .sc (.int .i64), .ptr 3 0], .cells [.sl 6, .sc (.int .i64), .sc (.int .i64), .sc (.int .i64)], .cells [.sl 7, .sc (.int .i64), .sc (.int .i64), .sc (.int .i64)], .cells [.fn 72 [(4, 0), (5, 0)], .sc (.int .i64)], .cells [.sl 8], .cells [.sc (.int .i64)], .rows 38 [.int .i64, .int .i64, .int .i64, .int .i64, .int .i64], .rows 38 [.int .i64, .int .i64, .int .i64, .int .i64, .int .i64], .ext 120 [.int .u32]]
def ra_dual_Queue_hit : List Pat := [.sc (.bool)]
def rb_dual_Queue_hit : List HPat := [.cells [.grp [.int .i64, .int .i64, .int .i64, .int .i64, .int .i64, .int .i64, .int .i64, .int .i64], .nilp, .ptr 1 0, .ptr 2 0, .grp [.int .i64, .int .i64, .int .i64, .int .i64, .int .i64, .int .i64, .int .i64, .int .i64, .int .i64], .grp [.int .i64, .int .i64, .int .i64, .int .i64, .int .i64, .int .i64, .int .i64, .int .i64, .int .i64], .grp [.int .i64, .int .i64, .int .i64, .int .i64, .int .i64, .int .i64, .int .i64, .int .i64, .int .i64], .grp [.int .i64, .int .i64], .sc (.int .i64), .ptr 3 0], .cells [.sl 6, .sc (.int .i64), .sc (.int .i64), .sc (.int .i64)], .cells [.sl 7, .sc (.int .i64), .sc (.int .i64), .sc (.int .i64)], .cells [.fn 72 [(4, 0), (5, 0)], .sc (.int .i64)], .cells [.sl 8], .cells [.sc (.int .i64)], .rows 38 [.int .i64, .int .i64, .int .i64, .int .i64, .int .i64], .rows 38 [.int .i64, .int .i64, .int .i64, .int .i64, .int .i64], .ext 120 [.int .u32]]
def c_dual_Queue_hit : FC := mkFCH 6 a_dual_Queue_hit b_dual_Queue_hit ra_dual_Queue_hit rb_dual_Queue_hit dual_Queue_hit
theorem t_dual_Queue_hit (N : Nat) : FCOK Tryz.prog N 102 c_dual_Queue_hit := eff_ok facts (ok_couple_Hit N) (by kernel_rfl) (by kernel_rfl) (q_dual_Queue_hit N) (fun t => by kernel_rfl)
def o_dual_Queue_hit : List (Nat × FC) := (102, c_dual_Queue_hit) :: o_couple_Hit
theorem ok_dual_Queue_hit (N : Nat) : OrcOK Tryz.prog o_dual_Queue_hit N := orc_cons (t_dual_Queue_hit N) (ok_couple_Hit N)
def s_ecn_Mark (_ : Nat) : List (Nat × LC) := []
noncomputable def e_ecn_Mark (N : Nat) : Env := mkEnvX 0 [] Tryz.prog o_dual_Queue_hit (s_ecn_Mark N) N
theorem q_ecn_Mark (N : Nat) : LoopsFor (e_ecn_Mark N) Tryz.prog 104 0 := loops_mk (by kernel_rfl) (fun j hj => match j, hj with
  | _ + 0, h => absurd h (by omega)) (fun _ => rfl)
def c_ecn_Mark : FC := mkF [.sc (.int .i64)] [.sc (.int .i64), .sc (.bool)] ecn_Mark
theorem t_ecn_Mark (N : Nat) : FCOK Tryz.prog N 104 c_ecn_Mark := fun_ok facts (ok_dual_Queue_hit N) (by kernel_rfl) (by kernel_rfl) (q_ecn_Mark N) (fun t => by kernel_rfl)
def o_ecn_Mark : List (Nat × FC) := (104, c_ecn_Mark) :: o_dual_Queue_hit
theorem ok_ecn_Mark (N : Nat) : OrcOK Tryz.prog o_ecn_Mark N := orc_cons (t_ecn_Mark N) (ok_dual_Queue_hit N)
def s_couple_Low (_ : Nat) : List (Nat × LC) := []
noncomputable def e_couple_Low (N : Nat) : Env := mkEnvX 0 [] Tryz.prog o_ecn_Mark (s_couple_Low N) N
theorem q_couple_Low (N : Nat) : LoopsFor (e_couple_Low N) Tryz.prog 107 0 := loops_mk (by kernel_rfl) (fun j hj => match j, hj with
  | _ + 0, h => absurd h (by omega)) (fun _ => rfl)
def c_couple_Low : FC := mkF [.sc (.int .i64), .sc (.int .i64)] [.sc (.int .i64)] couple_Low
theorem t_couple_Low (N : Nat) : FCOK Tryz.prog N 107 c_couple_Low := fun_ok facts (ok_ecn_Mark N) (by kernel_rfl) (by kernel_rfl) (q_couple_Low N) (fun t => by kernel_rfl)
def o_couple_Low : List (Nat × FC) := (107, c_couple_Low) :: o_ecn_Mark
theorem ok_couple_Low (N : Nat) : OrcOK Tryz.prog o_couple_Low N := orc_cons (t_couple_Low N) (ok_ecn_Mark N)
def s_couple_Over (_ : Nat) : List (Nat × LC) := []
noncomputable def e_couple_Over (N : Nat) : Env := mkEnvX 0 [] Tryz.prog o_couple_Low (s_couple_Over N) N
theorem q_couple_Over (N : Nat) : LoopsFor (e_couple_Over N) Tryz.prog 105 0 := loops_mk (by kernel_rfl) (fun j hj => match j, hj with
  | _ + 0, h => absurd h (by omega)) (fun _ => rfl)
def c_couple_Over : FC := mkF [.sc (.int .i64), .sc (.int .i64)] [.sc (.bool)] couple_Over
theorem t_couple_Over (N : Nat) : FCOK Tryz.prog N 105 c_couple_Over := fun_ok facts (ok_couple_Low N) (by kernel_rfl) (by kernel_rfl) (q_couple_Over N) (fun t => by kernel_rfl)
def o_couple_Over : List (Nat × FC) := (105, c_couple_Over) :: o_couple_Low
theorem ok_couple_Over (N : Nat) : OrcOK Tryz.prog o_couple_Over N := orc_cons (t_couple_Over N) (ok_couple_Low N)
def s_step_Ramp_1 (_ : Nat) : List (Nat × LC) := []
noncomputable def e_step_Ramp_1 (N : Nat) : Env := mkEnvX 0 [] Tryz.prog o_couple_Over (s_step_Ramp_1 N) N
theorem q_step_Ramp_1 (N : Nat) : LoopsFor (e_step_Ramp_1 N) Tryz.prog 128 0 := loops_mk (by kernel_rfl) (fun j hj => match j, hj with
  | _ + 0, h => absurd h (by omega)) (fun _ => rfl)
def c_step_Ramp_1 : FC := mkF [.sc (.int .i64)] [.sc (.int .i64)] step_Ramp_1
theorem t_step_Ramp_1 (N : Nat) : FCOK Tryz.prog N 128 c_step_Ramp_1 := fun_ok facts (ok_couple_Over N) (by kernel_rfl) (by kernel_rfl) (q_step_Ramp_1 N) (fun t => by kernel_rfl)
def o_step_Ramp_1 : List (Nat × FC) := (128, c_step_Ramp_1) :: o_couple_Over
theorem ok_step_Ramp_1 (N : Nat) : OrcOK Tryz.prog o_step_Ramp_1 N := orc_cons (t_step_Ramp_1 N) (ok_couple_Over N)
def s_step_Ramp (_ : Nat) : List (Nat × LC) := []
noncomputable def e_step_Ramp (N : Nat) : Env := mkEnvX 0 [] Tryz.prog o_step_Ramp_1 (s_step_Ramp N) N
theorem q_step_Ramp (N : Nat) : LoopsFor (e_step_Ramp N) Tryz.prog 122 0 := loops_mk (by kernel_rfl) (fun j hj => match j, hj with
  | _ + 0, h => absurd h (by omega)) (fun _ => rfl)
def c_step_Ramp : FC := mkF [.sc (.int .i64), .sc (.int .i64), .sc (.int .i64)] [.sc (.int .i64)] step_Ramp
theorem t_step_Ramp (N : Nat) : FCOK Tryz.prog N 122 c_step_Ramp := fun_ok facts (ok_step_Ramp_1 N) (by kernel_rfl) (by kernel_rfl) (q_step_Ramp N) (fun t => by kernel_rfl)
def o_step_Ramp : List (Nat × FC) := (122, c_step_Ramp) :: o_step_Ramp_1
theorem ok_step_Ramp (N : Nat) : OrcOK Tryz.prog o_step_Ramp N := orc_cons (t_step_Ramp N) (ok_step_Ramp_1 N)
def s_step_Mark (_ : Nat) : List (Nat × LC) := []
noncomputable def e_step_Mark (N : Nat) : Env := mkEnvX 0 [] Tryz.prog o_step_Ramp (s_step_Mark N) N
theorem q_step_Mark (N : Nat) : LoopsFor (e_step_Mark N) Tryz.prog 106 0 := loops_mk (by kernel_rfl) (fun j hj => match j, hj with
  | _ + 0, h => absurd h (by omega)) (fun _ => rfl)
def c_step_Mark : FC := mkF [.sc (.int .i64), .agg [.int .i64, .int .i64, .int .i64, .int .i64, .int .i64, .int .i64, .int .i64, .int .i64], .sc (.int .i64)] [.sc (.int .i64)] step_Mark
theorem t_step_Mark (N : Nat) : FCOK Tryz.prog N 106 c_step_Mark := fun_ok facts (ok_step_Ramp N) (by kernel_rfl) (by kernel_rfl) (q_step_Mark N) (fun t => by kernel_rfl)
def o_step_Mark : List (Nat × FC) := (106, c_step_Mark) :: o_step_Ramp
theorem ok_step_Mark (N : Nat) : OrcOK Tryz.prog o_step_Mark N := orc_cons (t_step_Mark N) (ok_step_Ramp N)
def s_dual_Queue_judge (_ : Nat) : List (Nat × LC) := []
noncomputable def e_dual_Queue_judge (N : Nat) : Env := mkEnvX 6 [] Tryz.prog o_step_Mark (s_dual_Queue_judge N) N
theorem q_dual_Queue_judge (N : Nat) : LoopsFor (e_dual_Queue_judge N) Tryz.prog 81 0 := loops_mk (by kernel_rfl) (fun j hj => match j, hj with
  | _ + 0, h => absurd h (by omega)) (fun _ => rfl)
def a_dual_Queue_judge : List Pat := [.ptr 0 0, .sc (.int .i64), .agg [.int .i64, .int .i64, .int .i64, .int .i64, .int .i64], .sc (.int .i64)]
def b_dual_Queue_judge : List HPat := [.cells [.grp [.int .i64, .int .i64, .int .i64, .int .i64, .int .i64, .int .i64, .int .i64, .int .i64], .nilp, .ptr 1 0, .ptr 2 0, .grp [.int .i64, .int .i64, .int .i64, .int .i64, .int .i64, .int .i64, .int .i64, .int .i64, .int .i64], .grp [.int .i64, .int .i64, .int .i64, .int .i64, .int .i64, .int .i64, .int .i64, .int .i64, .int .i64], .grp [.int .i64, .int .i64, .int .i64, .int .i64, .int .i64, .int .i64, .int .i64, .int .i64, .int .i64], .grp [.int .i64, .int .i64], .sc (.int .i64), .ptr 3 0], .cells [.sl 6, .sc (.int .i64), .sc (.int .i64), .sc (.int .i64)], .cells [.sl 7, .sc (.int .i64), .sc (.int .i64), .sc (.int .i64)], .cells [.fn 72 [(4, 0), (5, 0)], .sc (.int .i64)], .cells [.sl 8], .cells [.sc (.int .i64)], .rows 38 [.int .i64, .int .i64, .int .i64, .int .i64, .int .i64], .rows 38 [.int .i64, .int .i64, .int .i64, .int .i64, .int .i64], .ext 120 [.int .u32]]
def ra_dual_Queue_judge : List Pat := [.sc (.int .i64), .sc (.bool)]
def rb_dual_Queue_judge : List HPat := [.cells [.grp [.int .i64, .int .i64, .int .i64, .int .i64, .int .i64, .int .i64, .int .i64, .int .i64], .nilp, .ptr 1 0, .ptr 2 0, .grp [.int .i64, .int .i64, .int .i64, .int .i64, .int .i64, .int .i64, .int .i64, .int .i64, .int .i64], .grp [.int .i64, .int .i64, .int .i64, .int .i64, .int .i64, .int .i64, .int .i64, .int .i64, .int .i64], .grp [.int .i64, .int .i64, .int .i64, .int .i64, .int .i64, .int .i64, .int .i64, .int .i64, .int .i64], .grp [.int .i64, .int .i64], .sc (.int .i64), .ptr 3 0], .cells [.sl 6, .sc (.int .i64), .sc (.int .i64), .sc (.int .i64)], .cells [.sl 7, .sc (.int .i64), .sc (.int .i64), .sc (.int .i64)], .cells [.fn 72 [(4, 0), (5, 0)], .sc (.int .i64)], .cells [.sl 8], .cells [.sc (.int .i64)], .rows 38 [.int .i64, .int .i64, .int .i64, .int .i64, .int .i64], .rows 38 [.int .i64, .int .i64, .int .i64, .int .i64, .int .i64], .ext 120 [.int .u32]]
def c_dual_Queue_judge : FC := mkFCH 6 a_dual_Queue_judge b_dual_Queue_judge ra_dual_Queue_judge rb_dual_Queue_judge dual_Queue_judge
theorem t_dual_Queue_judge (N : Nat) : FCOK Tryz.prog N 81 c_dual_Queue_judge := eff_ok facts (ok_step_Mark N) (by kernel_rfl) (by kernel_rfl) (q_dual_Queue_judge N) (fun t => by kernel_rfl)
def o_dual_Queue_judge : List (Nat × FC) := (81, c_dual_Queue_judge) :: o_step_Mark
theorem ok_dual_Queue_judge (N : Nat) : OrcOK Tryz.prog o_dual_Queue_judge N := orc_cons (t_dual_Queue_judge N) (ok_step_Mark N)
def s_ring_Ring_api_Packet_Len (_ : Nat) : List (Nat × LC) := []
noncomputable def e_ring_Ring_api_Packet_Len (N : Nat) : Env := mkEnvX 0 [] Tryz.prog o_dual_Queue_judge (s_ring_Ring_api_Packet_Len N) N
theorem q_ring_Ring_api_Packet_Len (N : Nat) : LoopsFor (e_ring_Ring_api_Packet_Len N) Tryz.prog 109 0 := loops_mk (by kernel_rfl) (fun j hj => match j, hj with
  | _ + 0, h => absurd h (by omega)) (fun _ => rfl)
def a_ring_Ring_api_Packet_Len : List Pat := [.ptr 0 0]
def b_ring_Ring_api_Packet_Len : List HPat := [.rcells [.any, .sc (.int .i64), .sc (.int .i64), .sc (.int .i64)]]
def c_ring_Ring_api_Packet_Len : FC := mkFC a_ring_Ring_api_Packet_Len b_ring_Ring_api_Packet_Len [.sc (.int .i64)] ring_Ring_api_Packet_Len
theorem t_ring_Ring_api_Packet_Len (N : Nat) : FCOK Tryz.prog N 109 c_ring_Ring_api_Packet_Len := ro_ok facts (ok_dual_Queue_judge N) (by kernel_rfl) (by kernel_rfl) (q_ring_Ring_api_Packet_Len N) (fun t => by kernel_rfl)
def o_ring_Ring_api_Packet_Len : List (Nat × FC) := (109, c_ring_Ring_api_Packet_Len) :: o_dual_Queue_judge
theorem ok_ring_Ring_api_Packet_Len (N : Nat) : OrcOK Tryz.prog o_ring_Ring_api_Packet_Len N := orc_cons (t_ring_Ring_api_Packet_Len N) (ok_dual_Queue_judge N)
def s_turn_Serve (_ : Nat) : List (Nat × LC) := []
noncomputable def e_turn_Serve (N : Nat) : Env := mkEnvX 0 [] Tryz.prog o_ring_Ring_api_Packet_Len (s_turn_Serve N) N
theorem q_turn_Serve (N : Nat) : LoopsFor (e_turn_Serve N) Tryz.prog 108 0 := loops_mk (by kernel_rfl) (fun j hj => match j, hj with
  | _ + 0, h => absurd h (by omega)) (fun _ => rfl)
def c_turn_Serve : FC := mkF [.agg [.int .i64], .sc (.int .i64), .sc (.int .i64), .sc (.bool)] [.agg [.int .i64]] turn_Serve
theorem t_turn_Serve (N : Nat) : FCOK Tryz.prog N 108 c_turn_Serve := fun_ok facts (ok_ring_Ring_api_Packet_Len N) (by kernel_rfl) (by kernel_rfl) (q_turn_Serve N) (fun t => by kernel_rfl)
def o_turn_Serve : List (Nat × FC) := (108, c_turn_Serve) :: o_ring_Ring_api_Packet_Len
theorem ok_turn_Serve (N : Nat) : OrcOK Tryz.prog o_turn_Serve N := orc_cons (t_turn_Serve N) (ok_ring_Ring_api_Packet_Len N)
def s_dual_Queue_served (_ : Nat) : List (Nat × LC) := []
noncomputable def e_dual_Queue_served (N : Nat) : Env := mkEnvX 6 [] Tryz.prog o_turn_Serve (s_dual_Queue_served N) N
theorem q_dual_Queue_served (N : Nat) : LoopsFor (e_dual_Queue_served N) Tryz.prog 82 0 := loops_mk (by kernel_rfl) (fun j hj => match j, hj with
  | _ + 0, h => absurd h (by omega)) (fun _ => rfl)
def a_dual_Queue_served : List Pat := [.ptr 0 0, .sc (.int .i64), .sc (.int .i64)]
def b_dual_Queue_served : List HPat := [.cells [.grp [.int .i64, .int .i64, .int .i64, .int .i64, .int .i64, .int .i64, .int .i64, .int .i64], .nilp, .ptr 1 0, .ptr 2 0, .grp [.int .i64, .int .i64, .int .i64, .int .i64, .int .i64, .int .i64, .int .i64, .int .i64, .int .i64], .grp [.int .i64, .int .i64, .int .i64, .int .i64, .int .i64, .int .i64, .int .i64, .int .i64, .int .i64], .grp [.int .i64, .int .i64, .int .i64, .int .i64, .int .i64, .int .i64, .int .i64, .int .i64, .int .i64], .grp [.int .i64, .int .i64], .sc (.int .i64), .ptr 3 0], .cells [.sl 6, .sc (.int .i64), .sc (.int .i64), .sc (.int .i64)], .cells [.sl 7, .sc (.int .i64), .sc (.int .i64), .sc (.int .i64)], .cells [.fn 72 [(4, 0), (5, 0)], .sc (.int .i64)], .cells [.sl 8], .cells [.sc (.int .i64)], .rows 38 [.int .i64, .int .i64, .int .i64, .int .i64, .int .i64], .rows 38 [.int .i64, .int .i64, .int .i64, .int .i64, .int .i64], .ext 120 [.int .u32]]
def ra_dual_Queue_served : List Pat := []
def rb_dual_Queue_served : List HPat := [.cells [.grp [.int .i64, .int .i64, .int .i64, .int .i64, .int .i64, .int .i64, .int .i64, .int .i64], .nilp, .ptr 1 0, .ptr 2 0, .grp [.int .i64, .int .i64, .int .i64, .int .i64, .int .i64, .int .i64, .int .i64, .int .i64, .int .i64], .grp [.int .i64, .int .i64, .int .i64, .int .i64, .int .i64, .int .i64, .int .i64, .int .i64, .int .i64], .grp [.int .i64, .int .i64, .int .i64, .int .i64, .int .i64, .int .i64, .int .i64, .int .i64, .int .i64], .grp [.int .i64, .int .i64], .sc (.int .i64), .ptr 3 0], .cells [.sl 6, .sc (.int .i64), .sc (.int .i64), .sc (.int .i64)], .cells [.sl 7, .sc (.int .i64), .sc (.int .i64), .sc (.int .i64)], .cells [.fn 72 [(4, 0), (5, 0)], .sc (.int .i64)], .cells [.sl 8], .cells [.sc (.int .i64)], .rows 38 [.int .i64, .int .i64, .int .i64, .int .i64, .int .i64], .rows 38 [.int .i64, .int .i64, .int .i64, .int .i64, .int .i64], .ext 120 [.int .u32]]
def c_dual_Queue_served : FC := mkFCH 6 a_dual_Queue_served b_dual_Queue_served ra_dual_Queue_served rb_dual_Queue_served dual_Queue_served
theorem t_dual_Queue_served (N : Nat) : FCOK Tryz.prog N 82 c_dual_Queue_served := eff_ok facts (ok_turn_Serve N) (by kernel_rfl) (by kernel_rfl) (q_dual_Queue_served N) (fun t => by kernel_rfl)
def o_dual_Queue_served : List (Nat × FC) := (82, c_dual_Queue_served) :: o_turn_Serve
theorem ok_dual_Queue_served (N : Nat) : OrcOK Tryz.prog o_dual_Queue_served N := orc_cons (t_dual_Queue_served N) (ok_turn_Serve N)
def p_dual_Queue_Take_2 : List Pat := [.ptr 0 0, .sc (.int .i64), .any, .any, .ptr 6 0, .any, .any, .sl 7, .any, .any, .any, .any, .any, .any, .any, .any, .any, .any, .any, .any, .any, .any, .any, .any, .any, .any, .any, .any, .any, .any, .any, .any, .any, .any, .any, .any, .any, .any, .any, .any, .any, .any, .any, .any, .any, .any, .any, .any, .any, .any, .any, .any, .any, .any, .any, .any, .any, .any, .any, .any, .any, .any, .any, .any, .any, .any, .any, .any, .any, .any, .any, .any, .any, .any, .any, .any, .any, .any, .any, .any, .any, .any, .any, .any, .any, .any, .any, .any, .any, .any, .any, .any, .any, .any, .any, .any, .any, .any, .any, .any, .any, .any, .any, .any, .any, .any, .any]
def h_dual_Queue_Take_2 : List HPat := [.cells [.grp [.int .i64, .int .i64, .int .i64, .int .i64, .int .i64, .int .i64, .int .i64, .int .i64], .nilp, .ptr 1 0, .ptr 2 0, .grp [.int .i64, .int .i64, .int .i64, .int .i64, .int .i64, .int .i64, .int .i64, .int .i64, .int .i64], .grp [.int .i64, .int .i64, .int .i64, .int .i64, .int .i64, .int .i64, .int .i64, .int .i64, .int .i64], .grp [.int .i64, .int .i64, .int .i64, .int .i64, .int .i64, .int .i64, .int .i64, .int .i64, .int .i64], .grp [.int .i64, .int .i64], .sc (.int .i64), .ptr 3 0], .cells [.sl 8, .sc (.int .i64), .sc (.int .i64), .sc (.int .i64)], .cells [.sl 9, .sc (.int .i64), .sc (.int .i64), .sc (.int .i64)], .cells [.fn 72 [(4, 0), (5, 0)], .sc (.int .i64)], .cells [.sl 10], .cells [.sc (.int .i64)], .cells [.grp [.int .i64, .int .i64, .int .i64, .int .i64, .int .i64]], .rows 38 [.int .i64, .int .i64, .int .i64, .int .i64, .int .i64], .rows 38 [.int .i64, .int .i64, .int .i64, .int .i64, .int .i64], .rows 38 [.int .i64, .int .i64, .int .i64, .int .i64, .int .i64], .ext 120 [.int .u32]]
def x_dual_Queue_Take_2 : List XP := [⟨.ret, [.any, .any, .any, .any, .ptr 6 0, .sl 7, .sc (.bool), .any, .any, .any, .any, .any, .any, .any, .any, .any, .any, .any, .any, .any, .any, .any, .any, .any, .any, .any, .any, .any, .any, .any, .any, .any, .any, .any, .any, .any, .any, .any, .any, .any, .any, .any, .any, .any, .any, .any, .any, .any, .any, .any, .any, .any, .any, .any, .any, .any, .any, .any, .any, .any, .any, .any, .any, .any, .any, .any, .any, .any, .any, .any, .any, .any, .any, .any, .any, .any, .any, .any, .any, .any, .any, .any, .any, .any, .any, .any, .any, .any, .any, .any, .any, .any, .any, .any, .any, .any, .any, .any, .any, .any, .any, .any, .any, .any, .any, .any, .any], [.cells [.grp [.int .i64, .int .i64, .int .i64, .int .i64, .int .i64, .int .i64, .int .i64, .int .i64], .nilp, .ptr 1 0, .ptr 2 0, .grp [.int .i64, .int .i64, .int .i64, .int .i64, .int .i64, .int .i64, .int .i64, .int .i64, .int .i64], .grp [.int .i64, .int .i64, .int .i64, .int .i64, .int .i64, .int .i64, .int .i64, .int .i64, .int .i64], .grp [.int .i64, .int .i64, .int .i64, .int .i64, .int .i64, .int .i64, .int .i64, .int .i64, .int .i64], .grp [.int .i64, .int .i64], .sc (.int .i64), .ptr 3 0], .cells [.sl 8, .sc (.int .i64), .sc (.int .i64), .sc (.int .i64)], .cells [.sl 9, .sc (.int .i64), .sc (.int .i64), .sc (.int .i64)], .cells [.fn 72 [(4, 0), (5, 0)], .sc (.int .i64)], .cells [.sl 10], .cells [.sc (.int .i64)], .cells [.grp [.int .i64, .int .i64, .int .i64, .int .i64, .int .i64]], .rows 38 [.int .i64, .int .i64, .int .i64, .int .i64, .int .i64], .rows 38 [.int .i64, .int .i64, .int .i64, .int .i64, .int .i64], .rows 38 [.int .i64, .int .i64, .int .i64, .int .i64, .int .i64], .ext 120 [.int .u32]]⟩, ⟨.exit 0, [.any, .any, .any, .any, .ptr 6 0, .any, .any, .sl 7, .any, .any, .any, .any, .any, .any, .any, .any, .any, .any, .any, .any, .any, .any, .any, .any, .any, .any, .any, .any, .any, .any, .any, .any, .any, .any, .any, .any, .any, .any, .any, .any, .any, .any, .any, .any, .any, .any, .any, .any, .any, .any, .any, .any, .any, .any, .any, .any, .any, .any, .any, .any, .any, .any, .any, .any, .any, .any, .any, .any, .any, .any, .any, .any, .any, .any, .any, .any, .any, .any, .any, .any, .any, .any, .any, .any, .any, .any, .any, .any, .any, .any, .any, .any, .any, .any, .any, .any, .any, .any, .any, .any, .any, .any, .any, .any, .any, .any, .any], [.cells [.grp [.int .i64, .int .i64, .int .i64, .int .i64, .int .i64, .int .i64, .int .i64, .int .i64], .nilp, .ptr 1 0, .ptr 2 0, .grp [.int .i64, .int .i64, .int .i64, .int .i64, .int .i64, .int .i64, .int .i64, .int .i64, .int .i64], .grp [.int .i64, .int .i64, .int .i64, .int .i64, .int .i64, .int .i64, .int .i64, .int .i64, .int .i64], .grp [.int .i64, .int .i64, .int .i64, .int .i64, .int .i64, .int .i64, .int .i64, .int .i64, .int .i64], .grp [.int .i64, .int .i64], .sc (.int .i64), .ptr 3 0], .cells [.sl 8, .sc (.int .i64), .sc (.int .i64), .sc (.int .i64)], .cells [.sl 9, .sc (.int .i64), .sc (.int .i64), .sc (.int .i64)], .cells [.fn 72 [(4, 0), (5, 0)], .sc (.int .i64)], .cells [.sl 10], .cells [.sc (.int .i64)], .cells [.grp [.int .i64, .int .i64, .int .i64, .int .i64, .int .i64]], .rows 38 [.int .i64, .int .i64, .int .i64, .int .i64, .int .i64], .rows 38 [.int .i64, .int .i64, .int .i64, .int .i64, .int .i64], .rows 38 [.int .i64, .int .i64, .int .i64, .int .i64, .int .i64], .ext 120 [.int .u32]]⟩]
def lc_dual_Queue_Take_2 (N : Nat) : LC := mkLC 6 p_dual_Queue_Take_2 h_dual_Queue_Take_2 x_dual_Queue_Take_2 (dual_Queue_Take_L2 N)
def s_dual_Queue_Take (N : Nat) : List (Nat × LC) := [(2, lc_dual_Queue_Take_2 N)]
noncomputable def e_dual_Queue_Take (N : Nat) : Env := mkEnvX 6 [(8, 3)] Tryz.prog o_dual_Queue_served (s_dual_Queue_Take N) N
theorem k_dual_Queue_Take_2 (N : Nat) : LCOK (e_dual_Queue_Take N) 12 (loopAt Tryz.prog 62 0) (lc_dual_Queue_Take_2 N) := mkLC_ok rfl (by kernel_rfl) (by kernel_rfl) (fun F x => by kernel_rfl)
theorem q_dual_Queue_Take (N : Nat) : LoopsFor (e_dual_Queue_Take N) Tryz.prog 62 1 := loops_mk (by kernel_rfl) (fun j hj => match j, hj with
  | 0, _ => .inl ⟨lc_dual_Queue_Take_2 N, by kernel_rfl, k_dual_Queue_Take_2 N⟩
  | _ + 1, h => absurd h (by omega)) (fun _ => rfl)
def a_dual_Queue_Take : List Pat := [.ptr 0 0, .sc (.int .i64)]
def b_dual_Queue_Take : List HPat := [.cells [.grp [.int .i64, .int .i64, .int .i64, .int .i64, .int .i64, .int .i64, .int .i64, .int .i64], .nilp, .ptr 1 0, .ptr 2 0, .grp [.int .i64, .int .i64, .int .i64, .int .i64, .int .i64, .int .i64, .int .i64, .int .i64, .int .i64], .grp [.int .i64, .int .i64, .int .i64, .int .i64, .int .i64, .int .i64, .int .i64, .int .i64, .int .i64], .grp [.int .i64, .int .i64, .int .i64, .int .i64, .int .i64, .int .i64, .int .i64, .int .i64, .int .i64], .grp [.int .i64, .int .i64], .sc (.int .i64), .ptr 3 0], .cells [.sl 6, .sc (.int .i64), .sc (.int .i64), .sc (.int .i64)], .cells [.sl 7, .sc (.int .i64), .sc (.int .i64), .sc (.int .i64)], .cells [.fn 72 [(4, 0), (5, 0)], .sc (.int .i64)], .cells [.sl 8], .cells [.sc (.int .i64)], .rows 38 [.int .i64, .int .i64, .int .i64, .int .i64, .int .i64], .rows 38 [.int .i64, .int .i64, .int .i64, .int .i64, .int .i64], .ext 120 [.int .u32]]
def ra_dual_Queue_Take : List Pat := [.agg [.int .i64, .int .i64, .int .i64, .int .i64, .int .i64], .sl 9, .sc (.bool)]
def rb_dual_Queue_Take : List HPat := [.cells [.grp [.int .i64, .int .i64, .int .i64, .int .i64, .int .i64, .int .i64, .int .i64, .int .i64], .nilp, .ptr 1 0, .ptr 2 0, .grp [.int .i64, .int .i64, .int .i64, .int .i64, .int .i64, .int .i64, .int .i64, .int .i64, .int .i64], .grp [.int .i64, .int .i64, .int .i64, .int .i64, .int .i64, .int .i64, .int .i64, .int .i64, .int .i64], .grp [.int .i64, .int .i64, .int .i64, .int .i64, .int .i64, .int .i64, .int .i64, .int .i64, .int .i64], .grp [.int .i64, .int .i64], .sc (.int .i64), .ptr 3 0], .cells [.sl 6, .sc (.int .i64), .sc (.int .i64), .sc (.int .i64)], .cells [.sl 7, .sc (.int .i64), .sc (.int .i64), .sc (.int .i64)], .cells [.fn 72 [(4, 0), (5, 0)], .sc (.int .i64)], .cells [.sl 8], .cells [.sc (.int .i64)], .rows 38 [.int .i64, .int .i64, .int .i64, .int .i64, .int .i64], .rows 38 [.int .i64, .int .i64, .int .i64, .int .i64, .int .i64], .ext 120 [.int .u32], .rows 38 [.int .i64, .int .i64, .int .i64, .int .i64, .int .i64]]
def c_dual_Queue_Take : FC := mkFCH 6 a_dual_Queue_Take b_dual_Queue_Take ra_dual_Queue_Take rb_dual_Queue_Take dual_Queue_Take
theorem t_dual_Queue_Take (N : Nat) : FCOK Tryz.prog N 62 c_dual_Queue_Take := eff_ok facts (ok_dual_Queue_served N) (by kernel_rfl) (by kernel_rfl) (q_dual_Queue_Take N) (fun t => by kernel_rfl)
def o_dual_Queue_Take : List (Nat × FC) := (62, c_dual_Queue_Take) :: o_dual_Queue_served
theorem ok_dual_Queue_Take (N : Nat) : OrcOK Tryz.prog o_dual_Queue_Take N := orc_cons (t_dual_Queue_Take N) (ok_dual_Queue_served N)
def s_link_within (_ : Nat) : List (Nat × LC) := []
noncomputable def e_link_within (N : Nat) : Env := mkEnvX 0 [] Tryz.prog o_dual_Queue_Take (s_link_within N) N
theorem q_link_within (N : Nat) : LoopsFor (e_link_within N) Tryz.prog 83 0 := loops_mk (by kernel_rfl) (fun j hj => match j, hj with
  | _ + 0, h => absurd h (by omega)) (fun _ => rfl)
def c_link_within : FC := mkF [.agg [.int .i64, .int .i64, .int .i64]] [.agg [.int .i64, .int .i64, .int .i64]] link_within
theorem t_link_within (N : Nat) : FCOK Tryz.prog N 83 c_link_within := fun_ok facts (ok_dual_Queue_Take N) (by kernel_rfl) (by kernel_rfl) (q_link_within N) (fun t => by kernel_rfl)
def o_link_within : List (Nat × FC) := (83, c_link_within) :: o_dual_Queue_Take
theorem ok_link_within (N : Nat) : OrcOK Tryz.prog o_link_within N := orc_cons (t_link_within N) (ok_dual_Queue_Take N)
def s_sat_Div (_ : Nat) : List (Nat × LC) := []
noncomputable def e_sat_Div (N : Nat) : Env := mkEnvX 0 [] Tryz.prog o_link_within (s_sat_Div N) N
theorem q_sat_Div (N : Nat) : LoopsFor (e_sat_Div N) Tryz.prog 53 0 := loops_mk (by kernel_rfl) (fun j hj => match j, hj with
  | _ + 0, h => absurd h (by omega)) (fun _ => rfl)
def c_sat_Div : FC := mkF [.sc (.int .i64), .sc (.int .i64)] [.sc (.int .i64)] sat_Div
theorem t_sat_Div (N : Nat) : FCOK Tryz.prog N 53 c_sat_Div := fun_ok facts (ok_link_within N) (by kernel_rfl) (by kernel_rfl) (q_sat_Div N) (fun t => by kernel_rfl)
def o_sat_Div : List (Nat × FC) := (53, c_sat_Div) :: o_link_within
theorem ok_sat_Div (N : Nat) : OrcOK Tryz.prog o_sat_Div N := orc_cons (t_sat_Div N) (ok_link_within N)
def s_link_Span (_ : Nat) : List (Nat × LC) := []
noncomputable def e_link_Span (N : Nat) : Env := mkEnvX 0 [] Tryz.prog o_sat_Div (s_link_Span N) N
theorem q_link_Span (N : Nat) : LoopsFor (e_link_Span N) Tryz.prog 35 0 := loops_mk (by kernel_rfl) (fun j hj => match j, hj with
  | _ + 0, h => absurd h (by omega)) (fun _ => rfl)
def c_link_Span : FC := mkF [.sc (.int .i64), .sc (.int .i64)] [.sc (.int .i64)] link_Span
theorem t_link_Span (N : Nat) : FCOK Tryz.prog N 35 c_link_Span := fun_ok facts (ok_sat_Div N) (by kernel_rfl) (by kernel_rfl) (q_link_Span N) (fun t => by kernel_rfl)
def o_link_Span : List (Nat × FC) := (35, c_link_Span) :: o_sat_Div
theorem ok_link_Span (N : Nat) : OrcOK Tryz.prog o_link_Span N := orc_cons (t_link_Span N) (ok_sat_Div N)
def s_link_Take (_ : Nat) : List (Nat × LC) := []
noncomputable def e_link_Take (N : Nat) : Env := mkEnvX 0 [] Tryz.prog o_link_Span (s_link_Take N) N
theorem q_link_Take (N : Nat) : LoopsFor (e_link_Take N) Tryz.prog 63 0 := loops_mk (by kernel_rfl) (fun j hj => match j, hj with
  | _ + 0, h => absurd h (by omega)) (fun _ => rfl)
def c_link_Take : FC := mkF [.agg [.int .i64, .int .i64, .int .i64], .sc (.int .i64), .sc (.int .i64)] [.agg [.int .i64, .int .i64, .int .i64], .sc (.int .i64), .sc (.int .i64)] link_Take
theorem t_link_Take (N : Nat) : FCOK Tryz.prog N 63 c_link_Take := fun_ok facts (ok_link_Span N) (by kernel_rfl) (by kernel_rfl) (q_link_Take N) (fun t => by kernel_rfl)
def o_link_Take : List (Nat × FC) := (63, c_link_Take) :: o_link_Span
theorem ok_link_Take (N : Nat) : OrcOK Tryz.prog o_link_Take N := orc_cons (t_link_Take N) (ok_link_Span N)
def s_chain_place_take (_ : Nat) : List (Nat × LC) := []
noncomputable def e_chain_place_take (N : Nat) : Env := mkEnvX 7 [] Tryz.prog o_link_Take (s_chain_place_take N) N
theorem q_chain_place_take (N : Nat) : LoopsFor (e_chain_place_take N) Tryz.prog 44 0 := loops_mk (by kernel_rfl) (fun j hj => match j, hj with
  | _ + 0, h => absurd h (by omega)) (fun _ => rfl)
def a_chain_place_take : List Pat := [.ptr 0 0]
def b_chain_place_take : List HPat := [.cells [.grp [.int .i64, .int .i64, .int .i64, .int .i64, .int .i64, .int .i64, .int .i64, .int .i64, .int .i64, .int .i64], .any, .ptr 1 0, .grp [.int .i64, .int .i64, .int .i64], .sc (.int .i64), .sl 10, .sl 11], .cells [.grp [.int .i64, .int .i64, .int .i64, .int .i64, .int .i64, .int .i64, .int .i64, .int .i64], .nilp, .ptr 2 0, .ptr 3 0, .grp [.int .i64, .int .i64, .int .i64, .int .i64, .int .i64, .int .i64, .int .i64, .int .i64, .int .i64], .grp [.int .i64, .int .i64, .int .i64, .int .i64, .int .i64, .int .i64, .int .i64, .int .i64, .int .i64], .grp [.int .i64, .int .i64, .int .i64, .int .i64, .int .i64, .int .i64, .int .i64, .int .i64, .int .i64], .grp [.int .i64, .int .i64], .sc (.int .i64), .ptr 4 0], .cells [.sl 7, .sc (.int .i64), .sc (.int .i64), .sc (.int .i64)], .cells [.sl 8, .sc (.int .i64), .sc (.int .i64), .sc (.int .i64)], .cells [.fn 72 [(5, 0), (6, 0)], .sc (.int .i64)], .cells [.sl 9], .cells [.sc (.int .i64)], .rows 38 [.int .i64, .int .i64, .int .i64, .int .i64, .int .i64], .rows 38 [.int .i64, .int .i64, .int .i64, .int .i64, .int .i64], .ext 120 [.int .u32], .rows 38 [.int .i64, .int .i64, .int .i64, .int .i64, .int .i64], .rows 38 [.int .i64, .int .i64, .int .i64, .int .i64, .int .i64]]
def ra_chain_place_take : List Pat := []
def rb_chain_place_take : List HPat := [.cells [.grp [.int .i64, .int .i64, .int .i64, .int .i64, .int .i64, .int .i64, .int .i64, .int .i64, .int .i64, .int .i64], .any, .ptr 1 0, .grp [.int .i64, .int .i64, .int .i64], .sc (.int .i64), .sl 10, .sl 11], .cells [.grp [.int .i64, .int .i64, .int .i64, .int .i64, .int .i64, .int .i64, .int .i64, .int .i64], .nilp, .ptr 2 0, .ptr 3 0, .grp [.int .i64, .int .i64, .int .i64, .int .i64, .int .i64, .int .i64, .int .i64, .int .i64, .int .i64], .grp [.int .i64, .int .i64, .int .i64, .int .i64, .int .i64, .int .i64, .int .i64, .int .i64, .int .i64], .grp [.int .i64, .int .i64, .int .i64, .int .i64, .int .i64, .int .i64, .int .i64, .int .i64, .int .i64], .grp [.int .i64, .int .i64], .sc (.int .i64), .ptr 4 0], .cells [.sl 7, .sc (.int .i64), .sc (.int .i64), .sc (.int .i64)], .cells [.sl 8, .sc (.int .i64), .sc (.int .i64), .sc (.int .i64)], .cells [.fn 72 [(5, 0), (6, 0)], .sc (.int .i64)], .cells [.sl 9], .cells [.sc (.int .i64)], .rows 38 [.int .i64, .int .i64, .int .i64, .int .i64, .int .i64], .rows 38 [.int .i64, .int .i64, .int .i64, .int .i64, .int .i64], .ext 120 [.int .u32], .rows 38 [.int .i64, .int .i64, .int .i64, .int .i64, .int .i64], .rows 38 [.int .i64, .int .i64, .int .i64, .int .i64, .int .i64]]
def c_chain_place_take : FC := mkFCH 7 a_chain_place_take b_chain_place_take ra_chain_place_take rb_chain_place_take chain_place_take
theorem t_chain_place_take (N : Nat) : FCOK Tryz.prog N 44 c_chain_place_take := eff_ok facts (ok_link_Take N) (by kernel_rfl) (by kernel_rfl) (q_chain_place_take N) (fun t => by kernel_rfl)
def o_chain_place_take : List (Nat × FC) := (44, c_chain_place_take) :: o_link_Take
theorem ok_chain_place_take (N : Nat) : OrcOK Tryz.prog o_chain_place_take N := orc_cons (t_chain_place_take N) (ok_link_Take N)
def s_dual_Queue_Wait (_ : Nat) : List (Nat × LC) := []
noncomputable def e_dual_Queue_Wait (N : Nat) : Env := mkEnvX 0 [] Tryz.prog o_chain_place_take (s_dual_Queue_Wait N) N
theorem q_dual_Queue_Wait (N : Nat) : LoopsFor (e_dual_Queue_Wait N) Tryz.prog 84 0 := loops_mk (by kernel_rfl) (fun j hj => match j, hj with
  | _ + 0, h => absurd h (by omega)) (fun _ => rfl)
def a_dual_Queue_Wait : List Pat := [.ptr 0 0, .sc (.int .i64)]
def b_dual_Queue_Wait : List HPat := [.rcells [.grp [.int .i64, .int .i64, .int .i64, .int .i64, .int .i64, .int .i64, .int .i64, .int .i64], .nilp, .ptr 1 0, .ptr 2 0, .grp [.int .i64, .int .i64, .int .i64, .int .i64, .int .i64, .int .i64, .int .i64, .int .i64, .int .i64], .grp [.int .i64, .int .i64, .int .i64, .int .i64, .int .i64, .int .i64, .int .i64, .int .i64, .int .i64], .grp [.int .i64, .int .i64, .int .i64, .int .i64, .int .i64, .int .i64, .int .i64, .int .i64, .int .i64], .grp [.int .i64, .int .i64], .sc (.int .i64), .any], .rcells [.sl 3, .sc (.int .i64), .sc (.int .i64), .sc (.int .i64)], .rcells [.sl 4, .sc (.int .i64), .sc (.int .i64), .sc (.int .i64)], .ext 38 [.int .i64, .int .i64, .int .i64, .int .i64, .int .i64], .ext 38 [.int .i64, .int .i64, .int .i64, .int .i64, .int .i64]]
def c_dual_Queue_Wait : FC := mkFC a_dual_Queue_Wait b_dual_Queue_Wait [.sc (.int .i64), .sc (.int .i64)] dual_Queue_Wait
theorem t_dual_Queue_Wait (N : Nat) : FCOK Tryz.prog N 84 c_dual_Queue_Wait := ro_ok facts (ok_chain_place_take N) (by kernel_rfl) (by kernel_rfl) (q_dual_Queue_Wait N) (fun t => by kernel_rfl)
def o_dual_Queue_Wait : List (Nat × FC) := (84, c_dual_Queue_Wait) :: o_chain_place_take
theorem ok_dual_Queue_Wait (N : Nat) : OrcOK Tryz.prog o_dual_Queue_Wait N := orc_cons (t_dual_Queue_Wait N) (ok_chain_place_take N)
def s_pi_keep_1 (_ : Nat) : List (Nat × LC) := []
noncomputable def e_pi_keep_1 (N : Nat) : Env := mkEnvX 0 [] Tryz.prog o_dual_Queue_Wait (s_pi_keep_1 N) N
theorem q_pi_keep_1 (N : Nat) : LoopsFor (e_pi_keep_1 N) Tryz.prog 123 0 := loops_mk (by kernel_rfl) (fun j hj => match j, hj with
  | _ + 0, h => absurd h (by omega)) (fun _ => rfl)
def a_pi_keep_1 : List Pat := [.sc (.int .i64), .ptr 0 0]
def b_pi_keep_1 : List HPat := [.rcells [.sc (.int .i64)]]
def c_pi_keep_1 : FC := mkFC a_pi_keep_1 b_pi_keep_1 [.sc (.int .i64)] pi_keep_1
theorem t_pi_keep_1 (N : Nat) : FCOK Tryz.prog N 123 c_pi_keep_1 := ro_ok facts (ok_dual_Queue_Wait N) (by kernel_rfl) (by kernel_rfl) (q_pi_keep_1 N) (fun t => by kernel_rfl)
def o_pi_keep_1 : List (Nat × FC) := (123, c_pi_keep_1) :: o_dual_Queue_Wait
theorem ok_pi_keep_1 (N : Nat) : OrcOK Tryz.prog o_pi_keep_1 N := orc_cons (t_pi_keep_1 N) (ok_dual_Queue_Wait N)
def s_pi_Step (_ : Nat) : List (Nat × LC) := []
noncomputable def e_pi_Step (N : Nat) : Env := mkEnvX 0 [] Tryz.prog o_pi_keep_1 (s_pi_Step N) N
theorem q_pi_Step (N : Nat) : LoopsFor (e_pi_Step N) Tryz.prog 85 0 := loops_mk (by kernel_rfl) (fun j hj => match j, hj with
  | _ + 0, h => absurd h (by omega)) (fun _ => rfl)
def c_pi_Step : FC := mkF [.agg [.int .i64, .int .i64], .sc (.int .i64), .agg [.int .i64, .int .i64, .int .i64, .int .i64, .int .i64, .int .i64, .int .i64, .int .i64]] [.agg [.int .i64, .int .i64]] pi_Step
theorem t_pi_Step (N : Nat) : FCOK Tryz.prog N 85 c_pi_Step := fun_ok facts (ok_pi_keep_1 N) (by kernel_rfl) (by kernel_rfl) (q_pi_Step N) (fun t => by kernel_rfl)
def o_pi_Step : List (Nat × FC) := (85, c_pi_Step) :: o_pi_keep_1
theorem ok_pi_Step (N : Nat) : OrcOK Tryz.prog o_pi_Step N := orc_cons (t_pi_Step N) (ok_pi_keep_1 N)
def s_dual_Queue_Update (_ : Nat) : List (Nat × LC) := []
noncomputable def e_dual_Queue_Update (N : Nat) : Env := mkEnvX 6 [] Tryz.prog o_pi_Step (s_dual_Queue_Update N) N
theorem q_dual_Queue_Update (N : Nat) : LoopsFor (e_dual_Queue_Update N) Tryz.prog 64 0 := loops_mk (by kernel_rfl) (fun j hj => match j, hj with
  | _ + 0, h => absurd h (by omega)) (fun _ => rfl)
def a_dual_Queue_Update : List Pat := [.ptr 0 0, .sc (.int .i64)]
def b_dual_Queue_Update : List HPat := [.cells [.grp [.int .i64, .int .i64, .int .i64, .int .i64, .int .i64, .int .i64, .int .i64, .int .i64], .nilp, .ptr 1 0, .ptr 2 0, .grp [.int .i64, .int .i64, .int .i64, .int .i64, .int .i64, .int .i64, .int .i64, .int .i64, .int .i64], .grp [.int .i64, .int .i64, .int .i64, .int .i64, .int .i64, .int .i64, .int .i64, .int .i64, .int .i64], .grp [.int .i64, .int .i64, .int .i64, .int .i64, .int .i64, .int .i64, .int .i64, .int .i64, .int .i64], .grp [.int .i64, .int .i64], .sc (.int .i64), .ptr 3 0], .cells [.sl 6, .sc (.int .i64), .sc (.int .i64), .sc (.int .i64)], .cells [.sl 7, .sc (.int .i64), .sc (.int .i64), .sc (.int .i64)], .cells [.fn 72 [(4, 0), (5, 0)], .sc (.int .i64)], .cells [.sl 8], .cells [.sc (.int .i64)], .rows 38 [.int .i64, .int .i64, .int .i64, .int .i64, .int .i64], .rows 38 [.int .i64, .int .i64, .int .i64, .int .i64, .int .i64], .ext 120 [.int .u32]]
def ra_dual_Queue_Update : List Pat := []
def rb_dual_Queue_Update : List HPat := [.cells [.grp [.int .i64, .int .i64, .int .i64, .int .i64, .int .i64, .int .i64, .int .i64, .int .i64], .nilp, .ptr 1 0, .ptr 2 0, .grp [.int .i64, .int .i64, .int .i64, .int .i64, .int .i64, .int .i64, .int .i64, .int .i64, .int .i64], .grp [.int .i64, .int .i64, .int .i64, .int .i64, .int .i64, .int .i64, .int .i64, .int .i64, .int .i64], .grp [.int .i64, .int .i64, .int .i64, .int .i64, .int .i64, .int .i64, .int .i64, .int .i64, .int .i64], .grp [.int .i64, .int .i64], .sc (.int .i64), .ptr 3 0], .cells [.sl 6, .sc (.int .i64), .sc (.int .i64), .sc (.int .i64)], .cells [.sl 7, .sc (.int .i64), .sc (.int .i64), .sc (.int .i64)], .cells [.fn 72 [(4, 0), (5, 0)], .sc (.int .i64)], .cells [.sl 8], .cells [.sc (.int .i64)], .rows 38 [.int .i64, .int .i64, .int .i64, .int .i64, .int .i64], .rows 38 [.int .i64, .int .i64, .int .i64, .int .i64, .int .i64], .ext 120 [.int .u32]]
def c_dual_Queue_Update : FC := mkFCH 6 a_dual_Queue_Update b_dual_Queue_Update ra_dual_Queue_Update rb_dual_Queue_Update dual_Queue_Update
theorem t_dual_Queue_Update (N : Nat) : FCOK Tryz.prog N 64 c_dual_Queue_Update := eff_ok facts (ok_pi_Step N) (by kernel_rfl) (by kernel_rfl) (q_dual_Queue_Update N) (fun t => by kernel_rfl)
def o_dual_Queue_Update : List (Nat × FC) := (64, c_dual_Queue_Update) :: o_pi_Step
theorem ok_dual_Queue_Update (N : Nat) : OrcOK Tryz.prog o_dual_Queue_Update N := orc_cons (t_dual_Queue_Update N) (ok_pi_Step N)
def s_chain_place_step (_ : Nat) : List (Nat × LC) := []
noncomputable def e_chain_place_step (N : Nat) : Env := mkEnvX 7 [] Tryz.prog o_dual_Queue_Update (s_chain_place_step N) N
theorem q_chain_place_step (N : Nat) : LoopsFor (e_chain_place_step N) Tryz.prog 45 0 := loops_mk (by kernel_rfl) (fun j hj => match j, hj with
  | _ + 0, h => absurd h (by omega)) (fun _ => rfl)
def a_chain_place_step : List Pat := [.ptr 0 0]
def b_chain_place_step : List HPat := [.cells [.grp [.int .i64, .int .i64, .int .i64, .int .i64, .int .i64, .int .i64, .int .i64, .int .i64, .int .i64, .int .i64], .any, .ptr 1 0, .grp [.int .i64, .int .i64, .int .i64], .sc (.int .i64), .sl 10, .sl 11], .cells [.grp [.int .i64, .int .i64, .int .i64, .int .i64, .int .i64, .int .i64, .int .i64, .int .i64], .nilp, .ptr 2 0, .ptr 3 0, .grp [.int .i64, .int .i64, .int .i64, .int .i64, .int .i64, .int .i64, .int .i64, .int .i64, .int .i64], .grp [.int .i64, .int .i64, .int .i64, .int .i64, .int .i64, .int .i64, .int .i64, .int .i64, .int .i64], .grp [.int .i64, .int .i64, .int .i64, .int .i64, .int .i64, .int .i64, .int .i64, .int .i64, .int .i64], .grp [.int .i64, .int .i64], .sc (.int .i64), .ptr 4 0], .cells [.sl 7, .sc (.int .i64), .sc (.int .i64), .sc (.int .i64)], .cells [.sl 8, .sc (.int .i64), .sc (.int .i64), .sc (.int .i64)], .cells [.fn 72 [(5, 0), (6, 0)], .sc (.int .i64)], .cells [.sl 9], .cells [.sc (.int .i64)], .rows 38 [.int .i64, .int .i64, .int .i64, .int .i64, .int .i64], .rows 38 [.int .i64, .int .i64, .int .i64, .int .i64, .int .i64], .ext 120 [.int .u32], .rows 38 [.int .i64, .int .i64, .int .i64, .int .i64, .int .i64], .rows 38 [.int .i64, .int .i64, .int .i64, .int .i64, .int .i64]]
def ra_chain_place_step : List Pat := []
def rb_chain_place_step : List HPat := [.cells [.grp [.int .i64, .int .i64, .int .i64, .int .i64, .int .i64, .int .i64, .int .i64, .int .i64, .int .i64, .int .i64], .any, .ptr 1 0, .grp [.int .i64, .int .i64, .int .i64], .sc (.int .i64), .sl 10, .sl 11], .cells [.grp [.int .i64, .int .i64, .int .i64, .int .i64, .int .i64, .int .i64, .int .i64, .int .i64], .nilp, .ptr 2 0, .ptr 3 0, .grp [.int .i64, .int .i64, .int .i64, .int .i64, .int .i64, .int .i64, .int .i64, .int .i64, .int .i64], .grp [.int .i64, .int .i64, .int .i64, .int .i64, .int .i64, .int .i64, .int .i64, .int .i64, .int .i64], .grp [.int .i64, .int .i64, .int .i64, .int .i64, .int .i64, .int .i64, .int .i64, .int .i64, .int .i64], .grp [.int .i64, .int .i64], .sc (.int .i64), .ptr 4 0], .cells [.sl 7, .sc (.int .i64), .sc (.int .i64), .sc (.int .i64)], .cells [.sl 8, .sc (.int .i64), .sc (.int .i64), .sc (.int .i64)], .cells [.fn 72 [(5, 0), (6, 0)], .sc (.int .i64)], .cells [.sl 9], .cells [.sc (.int .i64)], .rows 38 [.int .i64, .int .i64, .int .i64, .int .i64, .int .i64], .rows 38 [.int .i64, .int .i64, .int .i64, .int .i64, .int .i64], .ext 120 [.int .u32], .rows 38 [.int .i64, .int .i64, .int .i64, .int .i64, .int .i64], .rows 38 [.int .i64, .int .i64, .int .i64, .int .i64, .int .i64]]
def c_chain_place_step : FC := mkFCH 7 a_chain_place_step b_chain_place_step ra_chain_place_step rb_chain_place_step chain_place_step
theorem t_chain_place_step (N : Nat) : FCOK Tryz.prog N 45 c_chain_place_step := eff_ok facts (ok_dual_Queue_Update N) (by kernel_rfl) (by kernel_rfl) (q_chain_place_step N) (fun t => by kernel_rfl)
def o_chain_place_step : List (Nat × FC) := (45, c_chain_place_step) :: o_dual_Queue_Update
theorem ok_chain_place_step (N : Nat) : OrcOK Tryz.prog o_chain_place_step N := orc_cons (t_chain_place_step N) (ok_dual_Queue_Update N)
def p_chain_place_upto_2 : List Pat := [.any, .any, .ptr 7 0, .ptr 8 0, .fn 58 [(7, 0), (8, 0)], .any, .any, .any, .any, .any, .any, .any, .any, .any, .any, .any, .any, .any, .any, .any]
def h_chain_place_upto_2 : List HPat := [.cells [.grp [.int .i64, .int .i64, .int .i64, .int .i64, .int .i64, .int .i64, .int .i64, .int .i64, .int .i64, .int .i64], .any, .ptr 1 0, .grp [.int .i64, .int .i64, .int .i64], .sc (.int .i64), .sl 9, .sl 10], .cells [.grp [.int .i64, .int .i64, .int .i64, .int .i64, .int .i64, .int .i64, .int .i64, .int .i64], .nilp, .ptr 2 0, .ptr 3 0, .grp [.int .i64, .int .i64, .int .i64, .int .i64, .int .i64, .int .i64, .int .i64, .int .i64, .int .i64], .grp [.int .i64, .int .i64, .int .i64, .int .i64, .int .i64, .int .i64, .int .i64, .int .i64, .int .i64], .grp [.int .i64, .int .i64, .int .i64, .int .i64, .int .i64, .int .i64, .int .i64, .int .i64, .int .i64], .grp [.int .i64, .int .i64], .sc (.int .i64), .ptr 4 0], .cells [.sl 11, .sc (.int .i64), .sc (.int .i64), .sc (.int .i64)], .cells [.sl 12, .sc (.int .i64), .sc (.int .i64), .sc (.int .i64)], .cells [.fn 72 [(5, 0), (6, 0)], .sc (.int .i64)], .cells [.sl 13], .cells [.sc (.int .i64)], .cells [.ptr 0 0], .cells [.sc (.int .i64)], .rows 38 [.int .i64, .int .i64, .int .i64, .int .i64, .int .i64], .rows 38 [.int .i64, .int .i64, .int .i64, .int .i64, .int .i64], .rows 38 [.int .i64, .int .i64, .int .i64, .int .i64, .int .i64], .rows 38 [.int .i64, .int .i64, .int .i64, .int .i64, .int .i64], .ext 120 [.int .u32]]
def x_chain_place_upto_2 : List XP := [⟨.exit 0, [.any, .any, .any, .any, .any, .any, .any, .any, .any, .any, .any, .any, .any, .any, .any, .any, .any, .any, .any, .any], [.cells [.grp [.int .i64, .int .i64, .int .i64, .int .i64, .int .i64, .int .i64, .int .i64, .int .i64, .int .i64, .int .i64], .any, .ptr 1 0, .grp [.int .i64, .int .i64, .int .i64], .sc (.int .i64), .sl 7, .sl 8], .cells [.grp [.int .i64, .int .i64, .int .i64, .int .i64, .int .i64, .int .i64, .int .i64, .int .i64], .nilp, .ptr 2 0, .ptr 3 0, .grp [.int .i64, .int .i64, .int .i64, .int .i64, .int .i64, .int .i64, .int .i64, .int .i64, .int .i64], .grp [.int .i64, .int .i64, .int .i64, .int .i64, .int .i64, .int .i64, .int .i64, .int .i64, .int .i64], .grp [.int .i64, .int .i64, .int .i64, .int .i64, .int .i64, .int .i64, .int .i64, .int .i64, .int .i64], .grp [.int .i64, .int .i64], .sc (.int .i64), .ptr 4 0], .cells [.sl 9, .sc (.int .i64), .sc (.int .i64), .sc (.int .i64)], .cells [.sl 10, .sc (.int .i64), .sc (.int .i64), .sc (.int .i64)], .cells [.fn 72 [(5, 0), (6, 0)], .sc (.int .i64)], .cells [.sl 11], .cells [.sc (.int .i64)], .rows 38 [.int .i64, .int .i64, .int .i64, .int .i64, .int .i64], .rows 38 [.int .i64, .int .i64, .int .i64, .int .i64, .int .i64], .rows 38 [.int .i64, .int .i64, .int .i64, .int .i64, .int .i64], .rows 38 [.int .i64, .int .i64, .int .i64, .int .i64, .int .i64], .ext 120 [.int .u32]]⟩]
def lc_chain_place_upto_2 (N : Nat) : LC := mkLC 7 p_chain_place_upto_2 h_chain_place_upto_2 x_chain_place_upto_2 (chain_place_upto_L2 N)
def s_chain_place_upto (N : Nat) : List (Nat × LC) := [(2, lc_chain_place_upto_2 N)]
noncomputable def e_chain_place_upto (N : Nat) : Env := mkEnvX 7 [] Tryz.prog o_chain_place_step (s_chain_place_upto N) N
theorem k_chain_place_upto_2 (N : Nat) : LCOK (e_chain_place_upto N) 12 (loopAt Tryz.prog 41 0) (lc_chain_place_upto_2 N) := mkLC_ok rfl (by kernel_rfl) (by kernel_rfl) (fun F x => by kernel_rfl)
theorem q_chain_place_upto (N : Nat) : LoopsFor (e_chain_place_upto N) Tryz.prog 41 1 := loops_mk (by kernel_rfl) (fun j hj => match j, hj with
  | 0, _ => .inl ⟨lc_chain_place_upto_2 N, by kernel_rfl, k_chain_place_upto_2 N⟩
  | _ + 1, h => absurd h (by omega)) (fun _ => rfl)
def a_chain_place_upto : List Pat := [.ptr 0 0, .sc (.int .i64)]
def b_chain_place_upto : List HPat := [.cells [.grp [.int .i64, .int .i64, .int .i64, .int .i64, .int .i64, .int .i64, .int .i64, .int .i64, .int .i64, .int .i64], .any, .ptr 1 0, .grp [.int .i64, .int .i64, .int .i64], .sc (.int .i64), .sl 10, .sl 11], .cells [.grp [.int .i64, .int .i64, .int .i64, .int .i64, .int .i64, .int .i64, .int .i64, .int .i64], .nilp, .ptr 2 0, .ptr 3 0, .grp [.int .i64, .int .i64, .int .i64, .int .i64, .int .i64, .int .i64, .int .i64, .int .i64, .int .i64], .grp [.int .i64, .int .i64, .int .i64, .int .i64, .int .i64, .int .i64, .int .i64, .int .i64, .int .i64], .grp [.int .i64, .int .i64, .int .i64, .int .i64, .int .i64, .int .i64, .int .i64, .int .i64, .int .i64], .grp [.int .i64, .int .i64], .sc (.int .i64), .ptr 4 0], .cells [.sl 7, .sc (.int .i64), .sc (.int .i64), .sc (.int .i64)], .cells [.sl 8, .sc (.int .i64), .sc (.int .i64), .sc (.int .i64)], .cells [.fn 72 [(5, 0), (6, 0)], .sc (.int .i64)], .cells [.sl 9], .cells [.sc (.int .i64)], .rows 38 [.int .i64, .int .i64, .int .i64, .int .i64, .int .i64], .rows 38 [.int .i64, .int .i64, .int .i64, .int .i64, .int .i64], .ext 120 [.int .u32], .rows 38 [.int .i64, .int .i64, .int .i64, .int .i64, .int .i64], .rows 38 [.int .i64, .int .i64, .int .i64, .int .i64, .int .i64]]
def ra_chain_place_upto : List Pat := []
def rb_chain_place_upto : List HPat := [.cells [.grp [.int .i64, .int .i64, .int .i64, .int .i64, .int .i64, .int .i64, .int .i64, .int .i64, .int .i64, .int .i64], .any, .ptr 1 0, .grp [.int .i64, .int .i64, .int .i64], .sc (.int .i64), .sl 10, .sl 11], .cells [.grp [.int .i64, .int .i64, .int .i64, .int .i64, .int .i64, .int .i64, .int .i64, .int .i64], .nilp, .ptr 2 0, .ptr 3 0, .grp [.int .i64, .int .i64, .int .i64, .int .i64, .int .i64, .int .i64, .int .i64, .int .i64, .int .i64], .grp [.int .i64, .int .i64, .int .i64, .int .i64, .int .i64, .int .i64, .int .i64, .int .i64, .int .i64], .grp [.int .i64, .int .i64, .int .i64, .int .i64, .int .i64, .int .i64, .int .i64, .int .i64, .int .i64], .grp [.int .i64, .int .i64], .sc (.int .i64), .ptr 4 0], .cells [.sl 7, .sc (.int .i64), .sc (.int .i64), .sc (.int .i64)], .cells [.sl 8, .sc (.int .i64), .sc (.int .i64), .sc (.int .i64)], .cells [.fn 72 [(5, 0), (6, 0)], .sc (.int .i64)], .cells [.sl 9], .cells [.sc (.int .i64)], .rows 38 [.int .i64, .int .i64, .int .i64, .int .i64, .int .i64], .rows 38 [.int .i64, .int .i64, .int .i64, .int .i64, .int .i64], .ext 120 [.int .u32], .rows 38 [.int .i64, .int .i64, .int .i64, .int .i64, .int .i64], .rows 38 [.int .i64, .int .i64, .int .i64, .int .i64, .int .i64]]
def c_chain_place_upto : FC := mkFCH 7 a_chain_place_upto b_chain_place_upto ra_chain_place_upto rb_chain_place_upto chain_place_upto
theorem t_chain_place_upto (N : Nat) : FCOK Tryz.prog N 41 c_chain_place_upto := eff_ok facts (ok_chain_place_step N) (by kernel_rfl) (by kernel_rfl) (q_chain_place_upto N) (fun t => by kernel_rfl)
def o_chain_place_upto : List (Nat × FC) := (41, c_chain_place_upto) :: o_chain_place_step
theorem ok_chain_place_upto (N : Nat) : OrcOK Tryz.prog o_chain_place_upto N := orc_cons (t_chain_place_upto N) (ok_chain_place_step N)
def s_ecn_is (_ : Nat) : List (Nat × LC) := []
noncomputable def e_ecn_is (N : Nat) : Env := mkEnvX 0 [] Tryz.prog o_chain_place_upto (s_ecn_is N) N
theorem q_ecn_is (N : Nat) : LoopsFor (e_ecn_is N) Tryz.prog 97 0 := loops_mk (by kernel_rfl) (fun j hj => match j, hj with
  | _ + 0, h => absurd h (by omega)) (fun _ => rfl)
def c_ecn_is : FC := mkF [.sc (.int .i64)] [.sc (.bool)] ecn_is
theorem t_ecn_is (N : Nat) : FCOK Tryz.prog N 97 c_ecn_is := fun_ok facts (ok_chain_place_upto N) (by kernel_rfl) (by kernel_rfl) (q_ecn_is N) (fun t => by kernel_rfl)
def o_ecn_is : List (Nat × FC) := (97, c_ecn_is) :: o_chain_place_upto
theorem ok_ecn_is (N : Nat) : OrcOK Tryz.prog o_ecn_is N := orc_cons (t_ecn_is N) (ok_chain_place_upto N)
def s_ecn_Low (_ : Nat) : List (Nat × LC) := []
noncomputable def e_ecn_Low (N : Nat) : Env := mkEnvX 0 [] Tryz.prog o_ecn_is (s_ecn_Low N) N
theorem q_ecn_Low (N : Nat) : LoopsFor (e_ecn_Low N) Tryz.prog 75 0 := loops_mk (by kernel_rfl) (fun j hj => match j, hj with
  | _ + 0, h => absurd h (by omega)) (fun _ => rfl)
def c_ecn_Low : FC := mkF [.sc (.int .i64)] [.sc (.bool)] ecn_Low
theorem t_ecn_Low (N : Nat) : FCOK Tryz.prog N 75 c_ecn_Low := fun_ok facts (ok_ecn_is N) (by kernel_rfl) (by kernel_rfl) (q_ecn_Low N) (fun t => by kernel_rfl)
def o_ecn_Low : List (Nat × FC) := (75, c_ecn_Low) :: o_ecn_is
theorem ok_ecn_Low (N : Nat) : OrcOK Tryz.prog o_ecn_Low N := orc_cons (t_ecn_Low N) (ok_ecn_is N)
def p_ring_Ring_api_Packet_grow_2 : List Pat := [.ptr 0 0, .any, .sl 1, .any, .any, .any, .any, .any, .any, .any, .any, .any, .any, .any, .any, .any, .any, .any, .any, .any, .sc (.int .i64), .sc (.int .i64), .any, .any, .any, .any, .any, .any, .any, .any, .any, .any, .any, .any, .any, .any, .any, .any, .any, .any, .any, .any, .any, .any, .any, .any, .any, .any, .any, .any, .any, .any, .any]
def h_ring_Ring_api_Packet_grow_2 : List HPat := [.cells [.sl 2, .sc (.int .i64), .sc (.int .i64), .sc (.int .i64)], .rows 38 [.int .i64, .int .i64, .int .i64, .int .i64, .int .i64], .rows 38 [.int .i64, .int .i64, .int .i64, .int .i64, .int .i64]]
def x_ring_Ring_api_Packet_grow_2 : List XP := [⟨.exit 0, [.ptr 0 0, .any, .sl 1, .any, .any, .any, .any, .any, .any, .any, .any, .any, .any, .any, .any, .any, .any, .any, .any, .any, .any, .any, .any, .any, .any, .any, .any, .any, .any, .any, .any, .any, .any, .any, .any, .any, .any, .any, .any, .any, .any, .any, .any, .any, .any, .any, .any, .any, .any, .any, .any, .any, .any], [.cells [.sl 2, .sc (.int .i64), .sc (.int .i64), .sc (.int .i64)], .rows 38 [.int .i64, .int .i64, .int .i64, .int .i64, .int .i64], .rows 38 [.int .i64, .int .i64, .int .i64, .int .i64, .int .i64]]⟩]
def lc_ring_Ring_api_Packet_grow_2 (N : Nat) : LC := mkLC 1 p_ring_Ring_api_Packet_grow_2 h_ring_Ring_api_Packet_grow_2 x_ring_Ring_api_Packet_grow_2 (ring_Ring_api_Packet_grow_L2 N)
def s_ring_Ring_api_Packet_grow (N : Nat) : List (Nat × LC) := [(2, lc_ring_Ring_api_Packet_grow_2 N)]
noncomputable def e_ring_Ring_api_Packet_grow (N : Nat) : Env := mkEnvX 1 [] Tryz.prog o_ecn_Low (s_ring_Ring_api_Packet_grow N) N
theorem k_ring_Ring_api_Packet_grow_2 (N : Nat) : LCOK (e_ring_Ring_api_Packet_grow N) 12 (loopAt Tryz.prog 76 0) (lc_ring_Ring_api_Packet_grow_2 N) := mkLC_ok rfl (by kernel_rfl) (by kernel_rfl) (fun F x => by kernel_rfl)
theorem q_ring_Ring_api_Packet_grow (N : Nat) : LoopsFor (e_ring_Ring_api_Packet_grow N) Tryz.prog 76 1 := loops_mk (by kernel_rfl) (fun j hj => match j, hj with
  | 0, _ => .inl ⟨lc_ring_Ring_api_Packet_grow_2 N, by kernel_rfl, k_ring_Ring_api_Packet_grow_2 N⟩
  | _ + 1, h => absurd h (by omega)) (fun _ => rfl)
def a_ring_Ring_api_Packet_grow : List Pat := [.ptr 0 0]
def b_ring_Ring_api_Packet_grow : List HPat := [.cells [.sl 1, .sc (.int .i64), .sc (.int .i64), .sc (.int .i64)], .rows 38 [.int .i64, .int .i64, .int .i64, .int .i64, .int .i64]]
def ra_ring_Ring_api_Packet_grow : List Pat := []
def rb_ring_Ring_api_Packet_grow : List HPat := [.cells [.sl 1, .sc (.int .i64), .sc (.int .i64), .sc (.int .i64)], .rows 38 [.int .i64, .int .i64, .int .i64, .int .i64, .int .i64]]
def c_ring_Ring_api_Packet_grow : FC := mkFCH 1 a_ring_Ring_api_Packet_grow b_ring_Ring_api_Packet_grow ra_ring_Ring_api_Packet_grow rb_ring_Ring_api_Packet_grow ring_Ring_api_Packet_grow
theorem t_ring_Ring_api_Packet_grow (N : Nat) : FCOK Tryz.prog N 76 c_ring_Ring_api_Packet_grow := eff_ok facts (ok_ecn_Low N) (by kernel_rfl) (by kernel_rfl) (q_ring_Ring_api_Packet_grow N) (fun t => by kernel_rfl)
def o_ring_Ring_api_Packet_grow : List (Nat × FC) := (76, c_ring_Ring_api_Packet_grow) :: o_ecn_Low
theorem ok_ring_Ring_api_Packet_grow (N : Nat) : OrcOK Tryz.prog o_ring_Ring_api_Packet_grow N := orc_cons (t_ring_Ring_api_Packet_grow N) (ok_ecn_Low N)
def s_ring_Ring_api_Packet_Push (_ : Nat) : List (Nat × LC) := []
noncomputable def e_ring_Ring_api_Packet_Push (N : Nat) : Env := mkEnvX 1 [] Tryz.prog o_ring_Ring_api_Packet_grow (s_ring_Ring_api_Packet_Push N) N
theorem q_ring_Ring_api_Packet_Push (N : Nat) : LoopsFor (e_ring_Ring_api_Packet_Push N) Tryz.prog 60 0 := loops_mk (by kernel_rfl) (fun j hj => match j, hj with
  | _ + 0, h => absurd h (by omega)) (fun _ => rfl)
def a_ring_Ring_api_Packet_Push : List Pat := [.ptr 0 0, .agg [.int .i64, .int .i64, .int .i64, .int .i64, .int .i64]]
def b_ring_Ring_api_Packet_Push : List HPat := [.cells [.sl 1, .sc (.int .i64), .sc (.int .i64), .sc (.int .i64)], .rows 38 [.int .i64, .int .i64, .int .i64, .int .i64, .int .i64]]
def ra_ring_Ring_api_Packet_Push : List Pat := [.sc (.int .i64)]
def rb_ring_Ring_api_Packet_Push : List HPat := [.cells [.sl 1, .sc (.int .i64), .sc (.int .i64), .sc (.int .i64)], .rows 38 [.int .i64, .int .i64, .int .i64, .int .i64, .int .i64]]
def c_ring_Ring_api_Packet_Push : FC := mkFCH 1 a_ring_Ring_api_Packet_Push b_ring_Ring_api_Packet_Push ra_ring_Ring_api_Packet_Push rb_ring_Ring_api_Packet_Push ring_Ring_api_Packet_Push
theorem t_ring_Ring_api_Packet_Push (N : Nat) : FCOK Tryz.prog N 60 c_ring_Ring_api_Packet_Push := eff_ok facts (ok_ring_Ring_api_Packet_grow N) (by kernel_rfl) (by kernel_rfl) (q_ring_Ring_api_Packet_Push N) (fun t => by kernel_rfl)
def o_ring_Ring_api_Packet_Push : List (Nat × FC) := (60, c_ring_Ring_api_Packet_Push) :: o_ring_Ring_api_Packet_grow
theorem ok_ring_Ring_api_Packet_Push (N : Nat) : OrcOK Tryz.prog o_ring_Ring_api_Packet_Push N := orc_cons (t_ring_Ring_api_Packet_Push N) (ok_ring_Ring_api_Packet_grow N)
def s_dual_Queue_Put (_ : Nat) : List (Nat × LC) := []
noncomputable def e_dual_Queue_Put (N : Nat) : Env := mkEnvX 6 [] Tryz.prog o_ring_Ring_api_Packet_Push (s_dual_Queue_Put N) N
theorem q_dual_Queue_Put (N : Nat) : LoopsFor (e_dual_Queue_Put N) Tryz.prog 42 0 := loops_mk (by kernel_rfl) (fun j hj => match j, hj with
  | _ + 0, h => absurd h (by omega)) (fun _ => rfl)
def a_dual_Queue_Put : List Pat := [.ptr 0 0, .sc (.int .i64), .agg [.int .i64, .int .i64, .int .i64, .int .i64, .int .i64]]
def b_dual_Queue_Put : List HPat := [.cells [.grp [.int .i64, .int .i64, .int .i64, .int .i64, .int .i64, .int .i64, .int .i64, .int .i64], .nilp, .ptr 1 0, .ptr 2 0, .grp [.int .i64, .int .i64, .int .i64, .int .i64, .int .i64, .int .i64, .int .i64, .int .i64, .int .i64], .grp [.int .i64, .int .i64, .int .i64, .int .i64, .int .i64, .int .i64, .int .i64, .int .i64, .int .i64], .grp [.int .i64, .int .i64, .int .i64, .int .i64, .int .i64, .int .i64, .int .i64, .int .i64, .int .i64], .grp [.int .i64, .int .i64], .sc (.int .i64), .ptr 3 0], .cells [.sl 6, .sc (.int .i64), .sc (.int .i64), .sc (.int .i64)], .cells [.sl 7, .sc (.int .i64), .sc (.int .i64), .sc (.int .i64)], .cells [.fn 72 [(4, 0), (5, 0)], .sc (.int .i64)], .cells [.sl 8], .cells [.sc (.int .i64)], .rows 38 [.int .i64, .int .i64, .int .i64, .int .i64, .int .i64], .rows 38 [.int .i64, .int .i64, .int .i64, .int .i64, .int .i64], .ext 120 [.int .u32]]
def ra_dual_Queue_Put : List Pat := [.sc (.bool)]
def rb_dual_Queue_Put : List HPat := [.cells [.grp [.int .i64, .int .i64, .int .i64, .int .i64, .int .i64, .int .i64, .int .i64, .int .i64], .nilp, .ptr 1 0, .ptr 2 0, .grp [.int .i64, .int .i64, .int .i64, .int .i64, .int .i64, .int .i64, .int .i64, .int .i64, .int .i64], .grp [.int .i64, .int .i64, .int .i64, .int .i64, .int .i64, .int .i64, .int .i64, .int .i64, .int .i64], .grp [.int .i64, .int .i64, .int .i64, .int .i64, .int .i64, .int .i64, .int .i64, .int .i64, .int .i64], .grp [.int .i64, .int .i64], .sc (.int .i64), .ptr 3 0], .cells [.sl 6, .sc (.int .i64), .sc (.int .i64), .sc (.int .i64)], .cells [.sl 7, .sc (.int .i64), .sc (.int .i64), .sc (.int .i64)], .cells [.fn 72 [(4, 0), (5, 0)], .sc (.int .i64)], .cells [.sl 8], .cells [.sc (.int .i64)], .rows 38 [.int .i64, .int .i64, .int .i64, .int .i64, .int .i64], .rows 38 [.int .i64, .int .i64, .int .i64, .int .i64, .int .i64], .ext 120 [.int .u32]]
def c_dual_Queue_Put : FC := mkFCH 6 a_dual_Queue_Put b_dual_Queue_Put ra_dual_Queue_Put rb_dual_Queue_Put dual_Queue_Put
theorem t_dual_Queue_Put (N : Nat) : FCOK Tryz.prog N 42 c_dual_Queue_Put := eff_ok facts (ok_ring_Ring_api_Packet_Push N) (by kernel_rfl) (by kernel_rfl) (q_dual_Queue_Put N) (fun t => by kernel_rfl)
def o_dual_Queue_Put : List (Nat × FC) := (42, c_dual_Queue_Put) :: o_ring_Ring_api_Packet_Push
theorem ok_dual_Queue_Put (N : Nat) : OrcOK Tryz.prog o_dual_Queue_Put N := orc_cons (t_dual_Queue_Put N) (ok_ring_Ring_api_Packet_Push N)
def s_chain_place_put (_ : Nat) : List (Nat × LC) := []
noncomputable def e_chain_place_put (N : Nat) : Env := mkEnvX 7 [] Tryz.prog o_dual_Queue_Put (s_chain_place_put N) N
theorem q_chain_place_put (N : Nat) : LoopsFor (e_chain_place_put N) Tryz.prog 21 0 := loops_mk (by kernel_rfl) (fun j hj => match j, hj with
  | _ + 0, h => absurd h (by omega)) (fun _ => rfl)
def a_chain_place_put : List Pat := [.ptr 0 0, .agg [.int .i64, .int .i64, .int .i64, .int .i64, .int .i64]]
def b_chain_place_put : List HPat := [.cells [.grp [.int .i64, .int .i64, .int .i64, .int .i64, .int .i64, .int .i64, .int .i64, .int .i64, .int .i64, .int .i64], .any, .ptr 1 0, .grp [.int .i64, .int .i64, .int .i64], .sc (.int .i64), .sl 10, .sl 11], .cells [.grp [.int .i64, .int .i64, .int .i64, .int .i64, .int .i64, .int .i64, .int .i64, .int .i64], .nilp, .ptr 2 0, .ptr 3 0, .grp [.int .i64, .int .i64, .int .i64, .int .i64, .int .i64, .int .i64, .int .i64, .int .i64, .int .i64], .grp [.int .i64, .int .i64, .int .i64, .int .i64, .int .i64, .int .i64, .int .i64, .int .i64, .int .i64], .grp [.int .i64, .int .i64, .int .i64, .int .i64, .int .i64, .int .i64, .int .i64, .int .i64, .int .i64], .grp [.int .i64, .int .i64], .sc (.int .i64), .ptr 4 0], .cells [.sl 7, .sc (.int .i64), .sc (.int .i64), .sc (.int .i64)], .cells [.sl 8, .sc (.int .i64), .sc (.int .i64), .sc (.int .i64)], .cells [.fn 72 [(5, 0), (6, 0)], .sc (.int .i64)], .cells [.sl 9], .cells [.sc (.int .i64)], .rows 38 [.int .i64, .int .i64, .int .i64, .int .i64, .int .i64], .rows 38 [.int .i64, .int .i64, .int .i64, .int .i64, .int .i64], .ext 120 [.int .u32], .rows 38 [.int .i64, .int .i64, .int .i64, .int .i64, .int .i64], .rows 38 [.int .i64, .int .i64, .int .i64, .int .i64, .int .i64]]
def ra_chain_place_put : List Pat := []
def rb_chain_place_put : List HPat := [.cells [.grp [.int .i64, .int .i64, .int .i64, .int .i64, .int .i64, .int .i64, .int .i64, .int .i64, .int .i64, .int .i64], .any, .ptr 1 0, .grp [.int .i64, .int .i64, .int .i64], .sc (.int .i64), .sl 10, .sl 11], .cells [.grp [.int .i64, .int .i64, .int .i64, .int .i64, .int .i64, .int .i64, .int .i64, .int .i64], .nilp, .ptr 2 0, .ptr 3 0, .grp [.int .i64, .int .i64, .int .i64, .int .i64, .int .i64, .int .i64, .int .i64, .int .i64, .int .i64], .grp [.int .i64, .int .i64, .int .i64, .int .i64, .int .i64, .int .i64, .int .i64, .int .i64, .int .i64], .grp [.int .i64, .int .i64, .int .i64, .int .i64, .int .i64, .int .i64, .int .i64, .int .i64, .int .i64], .grp [.int .i64, .int .i64], .sc (.int .i64), .ptr 4 0], .cells [.sl 7, .sc (.int .i64), .sc (.int .i64), .sc (.int .i64)], .cells [.sl 8, .sc (.int .i64), .sc (.int .i64), .sc (.int .i64)], .cells [.fn 72 [(5, 0), (6, 0)], .sc (.int .i64)], .cells [.sl 9], .cells [.sc (.int .i64)], .rows 38 [.int .i64, .int .i64, .int .i64, .int .i64, .int .i64], .rows 38 [.int .i64, .int .i64, .int .i64, .int .i64, .int .i64], .ext 120 [.int .u32], .rows 38 [.int .i64, .int .i64, .int .i64, .int .i64, .int .i64], .rows 38 [.int .i64, .int .i64, .int .i64, .int .i64, .int .i64]]
def c_chain_place_put : FC := mkFCH 7 a_chain_place_put b_chain_place_put ra_chain_place_put rb_chain_place_put chain_place_put
theorem t_chain_place_put (N : Nat) : FCOK Tryz.prog N 21 c_chain_place_put := eff_ok facts (ok_dual_Queue_Put N) (by kernel_rfl) (by kernel_rfl) (q_chain_place_put N) (fun t => by kernel_rfl)
def o_chain_place_put : List (Nat × FC) := (21, c_chain_place_put) :: o_dual_Queue_Put
theorem ok_chain_place_put (N : Nat) : OrcOK Tryz.prog o_chain_place_put N := orc_cons (t_chain_place_put N) (ok_dual_Queue_Put N)
def p_chain_place_rest_0 : List Pat := [.ptr 0 0, .any, .any, .any, .any, .any, .any, .any, .any, .any, .any, .any, .any, .any, .any, .any, .any, .any, .any, .any, .any]
def h_chain_place_rest_0 : List HPat := [.cells [.grp [.int .i64, .int .i64, .int .i64, .int .i64, .int .i64, .int .i64, .int .i64, .int .i64, .int .i64, .int .i64], .any, .ptr 1 0, .grp [.int .i64, .int .i64, .int .i64], .sc (.int .i64), .sl 7, .sl 8], .cells [.grp [.int .i64, .int .i64, .int .i64, .int .i64, .int .i64, .int .i64, .int .i64, .int .i64], .nilp, .ptr 2 0, .ptr 3 0, .grp [.int .i64, .int .i64, .int .i64, .int .i64, .int .i64, .int .i64, .int .i64, .int .i64, .int .i64], .grp [.int .i64, .int .i64, .int .i64, .int .i64, .int .i64, .int .i64, .int .i64, .int .i64, .int .i64], .grp [.int .i64, .int .i64, .int .i64, .int .i64, .int .i64, .int .i64, .int .i64, .int .i64, .int .i64], .grp [.int .i64, .int .i64], .sc (.int .i64), .ptr 4 0], .cells [.sl 9, .sc (.int .i64), .sc (.int .i64), .sc (.int .i64)], .cells [.sl 10, .sc (.int .i64), .sc (.int .i64), .sc (.int .i64)], .cells [.fn 72 [(5, 0), (6, 0)], .sc (.int .i64)], .cells [.sl 11], .cells [.sc (.int .i64)], .rows 38 [.int .i64, .int .i64, .int .i64, .int .i64, .int .i64], .rows 38 [.int .i64, .int .i64, .int .i64, .int .i64, .int .i64], .rows 38 [.int .i64, .int .i64, .int .i64, .int .i64, .int .i64], .rows 38 [.int .i64, .int .i64, .int .i64, .int .i64, .int .i64], .ext 120 [.int .u32]]
def x_chain_place_rest_0 : List XP := [⟨.exit 0, [.any, .any, .any, .any, .any, .any, .any, .any, .any, .any, .any, .any, .any, .any, .any, .any, .any, .any, .any, .any, .any], [.cells [.grp [.int .i64, .int .i64, .int .i64, .int .i64, .int .i64, .int .i64, .int .i64, .int .i64, .int .i64, .int .i64], .any, .ptr 1 0, .grp [.int .i64, .int .i64, .int .i64], .sc (.int .i64), .sl 7, .sl 8], .cells [.grp [.int .i64, .int .i64, .int .i64, .int .i64, .int .i64, .int .i64, .int .i64, .int .i64], .nilp, .ptr 2 0, .ptr 3 0, .grp [.int .i64, .int .i64, .int .i64, .int .i64, .int .i64, .int .i64, .int .i64, .int .i64, .int .i64], .grp [.int .i64, .int .i64, .int .i64, .int .i64, .int .i64, .int .i64, .int .i64, .int .i64, .int .i64], .grp [.int .i64, .int .i64, .int .i64, .int .i64, .int .i64, .int .i64, .int .i64, .int .i64, .int .i64], .grp [.int .i64, .int .i64], .sc (.int .i64), .ptr 4 0], .cells [.sl 9, .sc (.int .i64), .sc (.int .i64), .sc (.int .i64)], .cells [.sl 10, .sc (.int .i64), .sc (.int .i64), .sc (.int .i64)], .cells [.fn 72 [(5, 0), (6, 0)], .sc (.int .i64)], .cells [.sl 11], .cells [.sc (.int .i64)], .rows 38 [.int .i64, .int .i64, .int .i64, .int .i64, .int .i64], .rows 38 [.int .i64, .int .i64, .int .i64, .int .i64, .int .i64], .rows 38 [.int .i64, .int .i64, .int .i64, .int .i64, .int .i64], .rows 38 [.int .i64, .int .i64, .int .i64, .int .i64, .int .i64], .ext 120 [.int .u32]]⟩]
def lc_chain_place_rest_0 (N : Nat) : LC := mkLC 7 p_chain_place_rest_0 h_chain_place_rest_0 x_chain_place_rest_0 (chain_place_rest_L0 N)
def s_chain_place_rest (N : Nat) : List (Nat × LC) := [(0, lc_chain_place_rest_0 N)]
noncomputable def e_chain_place_rest (N : Nat) : Env := mkEnvX 7 [] Tryz.prog o_chain_place_put (s_chain_place_rest N) N
theorem k_chain_place_rest_0 (N : Nat) : LCOK (e_chain_place_rest N) 12 (loopAt Tryz.prog 22 0) (lc_chain_place_rest_0 N) := mkLC_ok rfl (by kernel_rfl) (by kernel_rfl) (fun F x => by kernel_rfl)
theorem q_chain_place_rest (N : Nat) : LoopsFor (e_chain_place_rest N) Tryz.prog 22 1 := loops_mk (by kernel_rfl) (fun j hj => match j, hj with
  | 0, _ => .inl ⟨lc_chain_place_rest_0 N, by kernel_rfl, k_chain_place_rest_0 N⟩
  | _ + 1, h => absurd h (by omega)) (fun _ => rfl)
def a_chain_place_rest : List Pat := [.ptr 0 0]
def b_chain_place_rest : List HPat := [.cells [.grp [.int .i64, .int .i64, .int .i64, .int .i64, .int .i64, .int .i64, .int .i64, .int .i64, .int .i64, .int .i64], .any, .ptr 1 0, .grp [.int .i64, .int .i64, .int .i64], .sc (.int .i64), .sl 10, .sl 11], .cells [.grp [.int .i64, .int .i64, .int .i64, .int .i64, .int .i64, .int .i64, .int .i64, .int .i64], .nilp, .ptr 2 0, .ptr 3 0, .grp [.int .i64, .int .i64, .int .i64, .int .i64, .int .i64, .int .i64, .int .i64, .int .i64, .int .i64], .grp [.int .i64, .int .i64, .int .i64, .int .i64, .int .i64, .int .i64, .int .i64, .int .i64, .int .i64], .grp [.int .i64, .int .i64, .int .i64, .int .i64, .int .i64, .int .i64, .int .i64, .int .i64, .int .i64], .grp [.int .i64, .int .i64], .sc (.int .i64), .ptr 4 0], .cells [.sl 7, .sc (.int .i64), .sc (.int .i64), .sc (.int .i64)], .cells [.sl 8, .sc (.int .i64), .sc (.int .i64), .sc (.int .i64)], .cells [.fn 72 [(5, 0), (6, 0)], .sc (.int .i64)], .cells [.sl 9], .cells [.sc (.int .i64)], .rows 38 [.int .i64, .int .i64, .int .i64, .int .i64, .int .i64], .rows 38 [.int .i64, .int .i64, .int .i64, .int .i64, .int .i64], .ext 120 [.int .u32], .rows 38 [.int .i64, .int .i64, .int .i64, .int .i64, .int .i64], .rows 38 [.int .i64, .int .i64, .int .i64, .int .i64, .int .i64]]
def ra_chain_place_rest : List Pat := []
def rb_chain_place_rest : List HPat := [.cells [.grp [.int .i64, .int .i64, .int .i64, .int .i64, .int .i64, .int .i64, .int .i64, .int .i64, .int .i64, .int .i64], .any, .ptr 1 0, .grp [.int .i64, .int .i64, .int .i64], .sc (.int .i64), .sl 10, .sl 11], .cells [.grp [.int .i64, .int .i64, .int .i64, .int .i64, .int .i64, .int .i64, .int .i64, .int .i64], .nilp, .ptr 2 0, .ptr 3 0, .grp [.int .i64, .int .i64, .int .i64, .int .i64, .int .i64, .int .i64, .int .i64, .int .i64, .int .i64], .grp [.int .i64, .int .i64, .int .i64, .int .i64, .int .i64, .int .i64, .int .i64, .int .i64, .int .i64], .grp [.int .i64, .int .i64, .int .i64, .int .i64, .int .i64, .int .i64, .int .i64, .int .i64, .int .i64], .grp [.int .i64, .int .i64], .sc (.int .i64), .ptr 4 0], .cells [.sl 7, .sc (.int .i64), .sc (.int .i64), .sc (.int .i64)], .cells [.sl 8, .sc (.int .i64), .sc (.int .i64), .sc (.int .i64)], .cells [.fn 72 [(5, 0), (6, 0)], .sc (.int .i64)], .cells [.sl 9], .cells [.sc (.int .i64)], .rows 38 [.int .i64, .int .i64, .int .i64, .int .i64, .int .i64], .rows 38 [.int .i64, .int .i64, .int .i64, .int .i64, .int .i64], .ext 120 [.int .u32], .rows 38 [.int .i64, .int .i64, .int .i64, .int .i64, .int .i64], .rows 38 [.int .i64, .int .i64, .int .i64, .int .i64, .int .i64]]
def c_chain_place_rest : FC := mkFCH 7 a_chain_place_rest b_chain_place_rest ra_chain_place_rest rb_chain_place_rest chain_place_rest
theorem t_chain_place_rest (N : Nat) : FCOK Tryz.prog N 22 c_chain_place_rest := eff_ok facts (ok_chain_place_put N) (by kernel_rfl) (by kernel_rfl) (q_chain_place_rest N) (fun t => by kernel_rfl)
def o_chain_place_rest : List (Nat × FC) := (22, c_chain_place_rest) :: o_chain_place_put
theorem ok_chain_place_rest (N : Nat) : OrcOK Tryz.prog o_chain_place_rest N := orc_cons (t_chain_place_rest N) (ok_chain_place_put N)
def p_chain_Pass_3 : List Pat := [.any, .any, .any, .any, .any, .any, .ptr 0 0, .any, .any, .any, .any, .any, .sl 1, .sc (.int .i64), .sc (.int .i64), .any, .any, .any, .any, .any, .any, .any, .any, .any, .any, .any, .any, .any, .any, .any, .any, .any]
def h_chain_Pass_3 : List HPat := [.cells [.grp [.int .i64, .int .i64, .int .i64, .int .i64, .int .i64, .int .i64, .int .i64, .int .i64, .int .i64, .int .i64], .any, .ptr 2 0, .grp [.int .i64, .int .i64, .int .i64], .sc (.int .i64), .sl 3, .sl 4], .rows 38 [.int .i64, .int .i64, .int .i64, .int .i64, .int .i64], .cells [.grp [.int .i64, .int .i64, .int .i64, .int .i64, .int .i64, .int .i64, .int .i64, .int .i64], .nilp, .ptr 5 0, .ptr 6 0, .grp [.int .i64, .int .i64, .int .i64, .int .i64, .int .i64, .int .i64, .int .i64, .int .i64, .int .i64], .grp [.int .i64, .int .i64, .int .i64, .int .i64, .int .i64, .int .i64, .int .i64, .int .i64, .int .i64], .grp [.int .i64, .int .i64, .int .i64, .int .i64, .int .i64, .int .i64, .int .i64, .int .i64, .int .i64], .grp [.int .i64, .int .i64], .sc (.int .i64), .ptr 7 0], .rows 38 [.int .i64, .int .i64, .int .i64, .int .i64, .int .i64], .rows 38 [.int .i64, .int .i64, .int .i64, .int .i64, .int .i64], .cells [.sl 8, .sc (.int .i64), .sc (.int .i64), .sc (.int .i64)], .cells [.sl 9, .sc (.int .i64), .sc (.int .i64), .sc (.int .i64)], .cells [.fn 72 [(10, 0), (11, 0)], .sc (.int .i64)], .rows 38 [.int .i64, .int .i64, .int .i64, .int .i64, .int .i64], .rows 38 [.int .i64, .int .i64, .int .i64, .int .i64, .int .i64], .cells [.sl 12], .cells [.sc (.int .i64)], .ext 120 [.int .u32]]
def x_chain_Pass_3 : List XP := [⟨.exit 0, [.any, .any, .any, .any, .any, .any, .ptr 0 0, .any, .any, .any, .any, .any, .any, .any, .any, .any, .any, .any, .any, .any, .any, .any, .any, .any, .any, .any, .any, .any, .any, .any, .any, .any], [.cells [.grp [.int .i64, .int .i64, .int .i64, .int .i64, .int .i64, .int .i64, .int .i64, .int .i64, .int .i64, .int .i64], .any, .ptr 1 0, .grp [.int .i64, .int .i64, .int .i64], .sc (.int .i64), .sl 2, .sl 3], .cells [.grp [.int .i64, .int .i64, .int .i64, .int .i64, .int .i64, .int .i64, .int .i64, .int .i64], .nilp, .ptr 4 0, .ptr 5 0, .grp [.int .i64, .int .i64, .int .i64, .int .i64, .int .i64, .int .i64, .int .i64, .int .i64, .int .i64], .grp [.int .i64, .int .i64, .int .i64, .int .i64, .int .i64, .int .i64, .int .i64, .int .i64, .int .i64], .grp [.int .i64, .int .i64, .int .i64, .int .i64, .int .i64, .int .i64, .int .i64, .int .i64, .int .i64], .grp [.int .i64, .int .i64], .sc (.int .i64), .ptr 6 0], .rows 38 [.int .i64, .int .i64, .int .i64, .int .i64, .int .i64], .rows 38 [.int .i64, .int .i64, .int .i64, .int .i64, .int .i64], .cells [.sl 7, .sc (.int .i64), .sc (.int .i64), .sc (.int .i64)], .cells [.sl 8, .sc (.int .i64), .sc (.int .i64), .sc (.int .i64)], .cells [.fn 72 [(9, 0), (10, 0)], .sc (.int .i64)], .rows 38 [.int .i64, .int .i64, .int .i64, .int .i64, .int .i64], .rows 38 [.int .i64, .int .i64, .int .i64, .int .i64, .int .i64], .cells [.sl 11], .cells [.sc (.int .i64)], .ext 120 [.int .u32]]⟩]
def lc_chain_Pass_3 (N : Nat) : LC := mkLC 0 p_chain_Pass_3 h_chain_Pass_3 x_chain_Pass_3 (chain_Pass_L3 N)
def s_chain_Pass (N : Nat) : List (Nat × LC) := [(3, lc_chain_Pass_3 N)]
noncomputable def e_chain_Pass (N : Nat) : Env := mkEnvX 0 [] Tryz.prog o_chain_place_rest (s_chain_Pass N) N
theorem k_chain_Pass_3 (N : Nat) : LCOK (e_chain_Pass N) 12 (loopAt Tryz.prog 7 0) (lc_chain_Pass_3 N) := mkLC_ok rfl (by kernel_rfl) (by kernel_rfl) (fun F x => by kernel_rfl)
theorem q_chain_Pass (N : Nat) : LoopsFor (e_chain_Pass N) Tryz.prog 7 1 := loops_mk (by kernel_rfl) (fun j hj => match j, hj with
  | 0, _ => .inl ⟨lc_chain_Pass_3 N, by kernel_rfl, k_chain_Pass_3 N⟩
  | _ + 1, h => absurd h (by omega)) (fun _ => rfl)
def a_chain_Pass : List Pat := [.aggp [.grp [.int .i64, .int .i64, .int .i64, .int .i64, .int .i64, .int .i64, .int .i64, .int .i64, .int .i64, .int .i64], .sl 0], .sl 1]
def b_chain_Pass : List HPat := [.ext 120 [.int .u32], .ext 38 [.int .i64, .int .i64, .int .i64, .int .i64, .int .i64]]
def ra_chain_Pass : List Pat := [.sl 0, .sl 1]
def rb_chain_Pass : List HPat := [.ext 38 [.int .i64, .int .i64, .int .i64, .int .i64, .int .i64], .ext 38 [.int .i64, .int .i64, .int .i64, .int .i64, .int .i64]]
def c_chain_Pass : FC := mkFCH 0 a_chain_Pass b_chain_Pass ra_chain_Pass rb_chain_Pass chain_Pass
theorem t_chain_Pass (N : Nat) : FCOK Tryz.prog N 7 c_chain_Pass := eff_ok facts (ok_chain_place_rest N) (by kernel_rfl) (by kernel_rfl) (q_chain_Pass N) (fun t => by kernel_rfl)
def o_chain_Pass : List (Nat × FC) := (7, c_chain_Pass) :: o_chain_place_rest
theorem ok_chain_Pass (N : Nat) : OrcOK Tryz.prog o_chain_Pass N := orc_cons (t_chain_Pass N) (ok_chain_place_rest N)
def s_leatref50_keep (_ : Nat) : List (Nat × LC) := []
noncomputable def e_leatref50_keep (N : Nat) : Env := mkEnvX 0 [] Tryz.prog o_chain_Pass (s_leatref50_keep N) N
theorem q_leatref50_keep (N : Nat) : LoopsFor (e_leatref50_keep N) Tryz.prog 30 0 := loops_mk (by kernel_rfl) (fun j hj => match j, hj with
  | _ + 0, h => absurd h (by omega)) (fun _ => rfl)
def c_leatref50_keep : FC := mkF [.sc (.int .i64), .sc (.int .i64), .sc (.int .i64)] [.sc (.int .i64)] leatref50_keep
theorem t_leatref50_keep (N : Nat) : FCOK Tryz.prog N 30 c_leatref50_keep := fun_ok facts (ok_chain_Pass N) (by kernel_rfl) (by kernel_rfl) (q_leatref50_keep N) (fun t => by kernel_rfl)
def o_leatref50_keep : List (Nat × FC) := (30, c_leatref50_keep) :: o_chain_Pass
theorem ok_leatref50_keep (N : Nat) : OrcOK Tryz.prog o_leatref50_keep N := orc_cons (t_leatref50_keep N) (ok_chain_Pass N)
def s_leatref36_keep (_ : Nat) : List (Nat × LC) := []
noncomputable def e_leatref36_keep (N : Nat) : Env := mkEnvX 0 [] Tryz.prog o_leatref50_keep (s_leatref36_keep N) N
theorem q_leatref36_keep (N : Nat) : LoopsFor (e_leatref36_keep N) Tryz.prog 48 0 := loops_mk (by kernel_rfl) (fun j hj => match j, hj with
  | _ + 0, h => absurd h (by omega)) (fun _ => rfl)
def c_leatref36_keep : FC := mkF [.sc (.int .i64), .sc (.int .i64), .sc (.int .i64)] [.sc (.int .i64)] leatref36_keep
theorem t_leatref36_keep (N : Nat) : FCOK Tryz.prog N 48 c_leatref36_keep := fun_ok facts (ok_leatref50_keep N) (by kernel_rfl) (by kernel_rfl) (q_leatref36_keep N) (fun t => by kernel_rfl)
def o_leatref36_keep : List (Nat × FC) := (48, c_leatref36_keep) :: o_leatref50_keep
theorem ok_leatref36_keep (N : Nat) : OrcOK Tryz.prog o_leatref36_keep N := orc_cons (t_leatref36_keep N) (ok_leatref50_keep N)
def s_leatref36_Limit (_ : Nat) : List (Nat × LC) := []
noncomputable def e_leatref36_Limit (N : Nat) : Env := mkEnvX 0 [] Tryz.prog o_leatref36_keep (s_leatref36_Limit N) N
theorem q_leatref36_Limit (N : Nat) : LoopsFor (e_leatref36_Limit N) Tryz.prog 31 0 := loops_mk (by kernel_rfl) (fun j hj => match j, hj with
  | _ + 0, h => absurd h (by omega)) (fun _ => rfl)
def c_leatref36_Limit : FC := mkF [.agg [.int .i64, .int .i64, .int .i64, .int .i64, .int .i64, .int .i64, .int .i64, .int .i64]] [.agg [.int .i64, .int .i64, .int .i64, .int .i64, .int .i64, .int .i64, .int .i64, .int .i64]] leatref36_Limit
theorem t_leatref36_Limit (N : Nat) : FCOK Tryz.prog N 31 c_leatref36_Limit := fun_ok facts (ok_leatref36_keep N) (by kernel_rfl) (by kernel_rfl) (q_leatref36_Limit N) (fun t => by kernel_rfl)
def o_leatref36_Limit : List (Nat × FC) := (31, c_leatref36_Limit) :: o_leatref36_keep
theorem ok_leatref36_Limit (N : Nat) : OrcOK Tryz.prog o_leatref36_Limit N := orc_cons (t_leatref36_Limit N) (ok_leatref36_keep N)
def s_leatref50_Limit (_ : Nat) : List (Nat × LC) := []
noncomputable def e_leatref50_Limit (N : Nat) : Env := mkEnvX 0 [] Tryz.prog o_leatref36_Limit (s_leatref50_Limit N) N
theorem q_leatref50_Limit (N : Nat) : LoopsFor (e_leatref50_Limit N) Tryz.prog 10 0 := loops_mk (by kernel_rfl) (fun j hj => match j, hj with
  | _ + 0, h => absurd h (by omega)) (fun _ => rfl)
def a_leatref50_Limit : List Pat := [.aggp [.grp [.int .i64, .int .i64, .int .i64, .int .i64, .int .i64, .int .i64, .int .i64, .int .i64, .int .i64, .int .i64], .sl 0]]
def b_leatref50_Limit : List HPat := [.ext 120 [.int .u32]]
def ra_leatref50_Limit : List Pat := [.aggp [.grp [.int .i64, .int .i64, .int .i64, .int .i64, .int .i64, .int .i64, .int .i64, .int .i64, .int .i64, .int .i64], .sl 0]]
def rb_leatref50_Limit : List HPat := [.ext 120 [.int .u32]]
def c_leatref50_Limit : FC := mkFCH 0 a_leatref50_Limit b_leatref50_Limit ra_leatref50_Limit rb_leatref50_Limit leatref50_Limit
theorem t_leatref50_Limit (N : Nat) : FCOK Tryz.prog N 10 c_leatref50_Limit := eff_ok facts (ok_leatref36_Limit N) (by kernel_rfl) (by kernel_rfl) (q_leatref50_Limit N) (fun t => by kernel_rfl)
def o_leatref50_Limit : List (Nat × FC) := (10, c_leatref50_Limit) :: o_leatref36_Limit
theorem ok_leatref50_Limit (N : Nat) : OrcOK Tryz.prog o_leatref50_Limit N := orc_cons (t_leatref50_Limit N) (ok_leatref36_Limit N)
def s_leatref36_New (_ : Nat) : List (Nat × LC) := []
noncomputable def e_leatref36_New (N : Nat) : Env := mkEnvX 0 [] Tryz.prog o_leatref50_Limit (s_leatref36_New N) N
theorem q_leatref36_New (N : Nat) : LoopsFor (e_leatref36_New N) Tryz.prog 23 0 := loops_mk (by kernel_rfl) (fun j hj => match j, hj with
  | _ + 0, h => absurd h (by omega)) (fun _ => rfl)
def a_leatref36_New : List Pat := [.agg [.int .i64, .int .i64, .int .i64, .int .i64, .int .i64, .int .i64, .int .i64, .int .i64], .sl 0]
def b_leatref36_New : List HPat := [.ext 120 [.int .u32]]
def ra_leatref36_New : List Pat := [.aggp [.grp [.int .i64, .int .i64, .int .i64, .int .i64, .int .i64, .int .i64, .int .i64, .int .i64], .nils, .sl 0, .sl 1, .grp [.int .i64, .int .i64, .int .i64, .int .i64, .int .i64, .int .i64, .int .i64, .int .i64, .int .i64], .grp [.int .i64, .int .i64, .int .i64, .int .i64, .int .i64, .int .i64, .int .i64, .int .i64, .int .i64], .grp [.int .i64, .int .i64, .int .i64, .int .i64, .int .i64, .int .i64, .int .i64, .int .i64, .int .i64], .grp [.int .i64, .int .i64], .sc (.int .i64), .sl 2, .sc (.int .i64)]]
def rb_leatref36_New : List HPat := [.ext 38 [.int .i64, .int .i64, .int .i64, .int .i64, .int .i64], .ext 38 [.int .i64, .int .i64, .int .i64, .int .i64, .int .i64], .ext 120 [.int .u32]]
def c_leatref36_New : FC := mkFCH 0 a_leatref36_New b_leatref36_New ra_leatref36_New rb_leatref36_New leatref36_New
theorem t_leatref36_New (N : Nat) : FCOK Tryz.prog N 23 c_leatref36_New := eff_ok facts (ok_leatref50_Limit N) (by kernel_rfl) (by kernel_rfl) (q_leatref36_New N) (fun t => by kernel_rfl)
def o_leatref36_New : List (Nat × FC) := (23, c_leatref36_New) :: o_leatref50_Limit
theorem ok_leatref36_New (N : Nat) : OrcOK Tryz.prog o_leatref36_New N := orc_cons (t_leatref36_New N) (ok_leatref50_Limit N)
def s_leatref50_Clean (_ : Nat) : List (Nat × LC) := []
noncomputable def e_leatref50_Clean (N : Nat) : Env := mkEnvX 0 [] Tryz.prog o_leatref36_New (s_leatref50_Clean N) N
theorem q_leatref50_Clean (N : Nat) : LoopsFor (e_leatref50_Clean N) Tryz.prog 14 0 := loops_mk (by kernel_rfl) (fun j hj => match j, hj with
  | _ + 0, h => absurd h (by omega)) (fun _ => rfl)
def c_leatref50_Clean : FC := mkF [.agg [.int .i64, .int .i64, .int .i64, .int .i64, .int .i64]] [.agg [.int .i64, .int .i64, .int .i64, .int .i64, .int .i64]] leatref50_Clean
theorem t_leatref50_Clean (N : Nat) : FCOK Tryz.prog N 14 c_leatref50_Clean := fun_ok facts (ok_leatref36_New N) (by kernel_rfl) (by kernel_rfl) (q_leatref50_Clean N) (fun t => by kernel_rfl)
def o_leatref50_Clean : List (Nat × FC) := (14, c_leatref50_Clean) :: o_leatref36_New
theorem ok_leatref50_Clean (N : Nat) : OrcOK Tryz.prog o_leatref50_Clean N := orc_cons (t_leatref50_Clean N) (ok_leatref36_New N)
def p_leatref50_Sorted_7 : List Pat := [.sl 0, .any, .any, .sl 1, .sc (.int .i64), .ptr 2 0, .sc (.int .i64), .any, .any, .any, .any, .any, .any, .any, .any, .any, .any, .any, .any, .any, .any, .any, .any, .any, .any, .any, .any, .any, .any, .any, .any, .any, .any, .any, .any, .any, .any, .any, .any, .any, .any, .any, .any, .any, .any, .any, .any]
def h_leatref50_Sorted_7 : List HPat := [.ext 38 [.int .i64, .int .i64, .int .i64, .int .i64, .int .i64], .rows 38 [.int .i64, .int .i64, .int .i64, .int .i64, .int .i64], .cells [.grp [.int .i64, .int .i64, .int .i64, .int .i64, .int .i64]]]
def x_leatref50_Sorted_7 : List XP := [⟨.exit 2, [.sl 0, .any, .any, .sl 1, .sc (.int .i64), .ptr 2 0, .sc (.int .i64), .any, .any, .any, .any, .any, .any, .any, .any, .any, .any, .any, .any, .any, .any, .any, .any, .any, .any, .any, .any, .any, .any, .any, .any, .any, .any, .any, .any, .any, .any, .any, .any, .any, .any, .any, .any, .any, .any, .any, .any], [.ext 38 [.int .i64, .int .i64, .int .i64, .int .i64, .int .i64], .rows 38 [.int .i64, .int .i64, .int .i64, .int .i64, .int .i64], .cells [.grp [.int .i64, .int .i64, .int .i64, .int .i64, .int .i64]]]⟩]
def lc_leatref50_Sorted_7 (N : Nat) : LC := mkLC 0 p_leatref50_Sorted_7 h_leatref50_Sorted_7 x_leatref50_Sorted_7 (leatref50_Sorted_L7 N)
def p_leatref50_Sorted_3 : List Pat := [.sl 0, .any, .any, .sl 1, .sc (.int .i64), .any, .any, .any, .any, .any, .any, .any, .any, .any, .any, .any, .any, .any, .any, .any, .any, .any, .any, .any, .any, .any, .any, .any, .any, .any, .any, .any, .any, .any, .any, .any, .any, .any, .any, .any, .any, .any, .any, .any, .any, .any, .any]
def h_leatref50_Sorted_3 : List HPat := [.ext 38 [.int .i64, .int .i64, .int .i64, .int .i64, .int .i64], .rows 38 [.int .i64, .int .i64, .int .i64, .int .i64, .int .i64]]
def x_leatref50_Sorted_3 : List XP := [⟨.exit 0, [.any, .any, .any, .sl 0, .any, .any, .any, .any, .any, .any, .any, .any, .any, .any, .any, .any, .any, .any, .any, .any, .any, .any, .any, .any, .any, .any, .any, .any, .any, .any, .any, .any, .any, .any, .any, .any, .any, .any, .any, .any, .any, .any, .any, .any, .any, .any, .any], [.rows 38 [.int .i64, .int .i64, .int .i64, .int .i64, .int .i64]]⟩]
def lc_leatref50_Sorted_3 (N : Nat) : LC := mkLC 0 p_leatref50_Sorted_3 h_leatref50_Sorted_3 x_leatref50_Sorted_3 (leatref50_Sorted_L3 N)
def s_leatref50_Sorted (N : Nat) : List (Nat × LC) := [(7, lc_leatref50_Sorted_7 N), (3, lc_leatref50_Sorted_3 N)]
noncomputable def e_leatref50_Sorted (N : Nat) : Env := mkEnvX 0 [] Tryz.prog o_leatref50_Clean (s_leatref50_Sorted N) N
theorem k_leatref50_Sorted_7 (N : Nat) : LCOK (e_leatref50_Sorted N) 12 (loopAt Tryz.prog 24 1) (lc_leatref50_Sorted_7 N) := mkLC_ok rfl (by kernel_rfl) (by kernel_rfl) (fun F x => by kernel_rfl)
theorem k_leatref50_Sorted_3 (N : Nat) : LCOK (e_leatref50_Sorted N) 12 (loopAt Tryz.prog 24 0) (lc_leatref50_Sorted_3 N) := mkLC_ok rfl (by kernel_rfl) (by kernel_rfl) (fun F x => by kernel_rfl)
theorem q_leatref50_Sorted (N : Nat) : LoopsFor (e_leatref50_Sorted N) Tryz.prog 24 2 := loops_mk (by kernel_rfl) (fun j hj => match j, hj with
  | 0, _ => .inl ⟨lc_leatref50_Sorted_3 N, by kernel_rfl, k_leatref50_Sorted_3 N⟩
  | 1, _ => .inl ⟨lc_leatref50_Sorted_7 N, by kernel_rfl, k_leatref50_Sorted_7 N⟩
  | _ + 2, h => absurd h (by omega)) (fun _ => rfl)
def c_leatref50_Sorted : FC := mkF [.row 38 [.int .i64, .int .i64, .int .i64, .int .i64, .int .i64]] [.row 38 [.int .i64, .int .i64, .int .i64, .int .i64, .int .i64]] leatref50_Sorted
theorem t_leatref50_Sorted (N : Nat) : FCOK Tryz.prog N 24 c_leatref50_Sorted := fun_ok facts (ok_leatref50_Clean N) (by kernel_rfl) (by kernel_rfl) (q_leatref50_Sorted N) (fun t => by kernel_rfl)
def o_leatref50_Sorted : List (Nat × FC) := (24, c_leatref50_Sorted) :: o_leatref50_Clean
theorem ok_leatref50_Sorted (N : Nat) : OrcOK Tryz.prog o_leatref50_Sorted N := orc_cons (t_leatref50_Sorted N) (ok_leatref50_Clean N)
def s_leatref36_first (_ : Nat) : List (Nat × LC) := []
noncomputable def e_leatref36_first (N : Nat) : Env := mkEnvX 0 [] Tryz.prog o_leatref50_Sorted (s_leatref36_first N) N
theorem q_leatref36_first (N : Nat) : LoopsFor (e_leatref36_first N) Tryz.prog 66 0 := loops_mk (by kernel_rfl) (fun j hj => match j, hj with
  | _ + 0, h => absurd h (by omega)) (fun _ => rfl)
def a_leatref36_first : List Pat := [.aggp [.grp [.int .i64, .int .i64, .int .i64, .int .i64, .int .i64, .int .i64, .int .i64, .int .i64], .nils, .sl 0, .sl 1, .grp [.int .i64, .int .i64, .int .i64, .int .i64, .int .i64, .int .i64, .int .i64, .int .i64, .int .i64], .grp [.int .i64, .int .i64, .int .i64, .int .i64, .int .i64, .int .i64, .int .i64, .int .i64, .int .i64], .grp [.int .i64, .int .i64, .int .i64, .int .i64, .int .i64, .int .i64, .int .i64, .int .i64, .int .i64], .grp [.int .i64, .int .i64], .sc (.int .i64), .sl 2, .sc (.int .i64)], .sc (.int .i64)]
def b_leatref36_first : List HPat := [.ext 38 [.int .i64, .int .i64, .int .i64, .int .i64, .int .i64], .ext 38 [.int .i64, .int .i64, .int .i64, .int .i64, .int .i64], .ext 120 [.int .u32]]
def c_leatref36_first : FC := mkFC a_leatref36_first b_leatref36_first [.sc (.int .i64)] leatref36_first
theorem t_leatref36_first (N : Nat) : FCOK Tryz.prog N 66 c_leatref36_first := ro_ok facts (ok_leatref50_Sorted N) (by kernel_rfl) (by kernel_rfl) (q_leatref36_first N) (fun t => by kernel_rfl)
def o_leatref36_first : List (Nat × FC) := (66, c_leatref36_first) :: o_leatref50_Sorted
theorem ok_leatref36_first (N : Nat) : OrcOK Tryz.prog o_leatref36_first N := orc_cons (t_leatref36_first N) (ok_leatref50_Sorted N)
def s_leatref35_within (_ : Nat) : List (Nat × LC) := []
noncomputable def e_leatref35_within (N : Nat) : Env := mkEnvX 0 [] Tryz.prog o_leatref36_first (s_leatref35_within N) N
theorem q_leatref35_within (N : Nat) : LoopsFor (e_leatref35_within N) Tryz.prog 86 0 := loops_mk (by kernel_rfl) (fun j hj => match j, hj with
  | _ + 0, h => absurd h (by omega)) (fun _ => rfl)
def c_leatref35_within : FC := mkF [.sc (.int .i64), .sc (.int .i64)] [.sc (.int .i64)] leatref35_within
theorem t_leatref35_within (N : Nat) : FCOK Tryz.prog N 86 c_leatref35_within := fun_ok facts (ok_leatref36_first N) (by kernel_rfl) (by kernel_rfl) (q_leatref35_within N) (fun t => by kernel_rfl)
def o_leatref35_within : List (Nat × FC) := (86, c_leatref35_within) :: o_leatref36_first
theorem ok_leatref35_within (N : Nat) : OrcOK Tryz.prog o_leatref35_within N := orc_cons (t_leatref35_within N) (ok_leatref36_first N)
def s_leatref35_Pick (_ : Nat) : List (Nat × LC) := []
noncomputable def e_leatref35_Pick (N : Nat) : Env := mkEnvX 0 [] Tryz.prog o_leatref35_within (s_leatref35_Pick N) N
theorem q_leatref35_Pick (N : Nat) : LoopsFor (e_leatref35_Pick N) Tryz.prog 65 0 := loops_mk (by kernel_rfl) (fun j hj => match j, hj with
  | _ + 0, h => absurd h (by omega)) (fun _ => rfl)
def c_leatref35_Pick : FC := mkF [.agg [.int .i64], .sc (.int .i64), .sc (.int .i64)] [.sc (.int .i64)] leatref35_Pick
theorem t_leatref35_Pick (N : Nat) : FCOK Tryz.prog N 65 c_leatref35_Pick := fun_ok facts (ok_leatref35_within N) (by kernel_rfl) (by kernel_rfl) (q_leatref35_Pick N) (fun t => by kernel_rfl)
def o_leatref35_Pick : List (Nat × FC) := (65, c_leatref35_Pick) :: o_leatref35_within
theorem ok_leatref35_Pick (N : Nat) : OrcOK Tryz.prog o_leatref35_Pick N := orc_cons (t_leatref35_Pick N) (ok_leatref35_within N)
def s_leatref36_Delay (_ : Nat) : List (Nat × LC) := []
noncomputable def e_leatref36_Delay (N : Nat) : Env := mkEnvX 0 [] Tryz.prog o_leatref35_Pick (s_leatref36_Delay N) N
theorem q_leatref36_Delay (N : Nat) : LoopsFor (e_leatref36_Delay N) Tryz.prog 67 0 := loops_mk (by kernel_rfl) (fun j hj => match j, hj with
  | _ + 0, h => absurd h (by omega)) (fun _ => rfl)
def a_leatref36_Delay : List Pat := [.aggp [.grp [.int .i64, .int .i64, .int .i64, .int .i64, .int .i64, .int .i64, .int .i64, .int .i64], .nils, .sl 0, .sl 1, .grp [.int .i64, .int .i64, .int .i64, .int .i64, .int .i64, .int .i64, .int .i64, .int .i64, .int .i64], .grp [.int .i64, .int .i64, .int .i64, .int .i64, .int .i64, .int .i64, .int .i64, .int .i64, .int .i64], .grp [.int .i64, .int .i64, .int .i64, .int .i64, .int .i64, .int .i64, .int .i64, .int .i64, .int .i64], .grp [.int .i64, .int .i64], .sc (.int .i64), .sl 2, .sc (.int .i64)], .sc (.int .i64), .sc (.int .i64)]
def b_leatref36_Delay : List HPat := [.ext 38 [.int .i64, .int .i64, .int .i64, .int .i64, .int .i64], .ext 38 [.int .i64, .int .i64, .int .i64, .int .i64, .int .i64], .ext 120 [.int .u32]]
def c_leatref36_Delay : FC := mkFC a_leatref36_Delay b_leatref36_Delay [.sc (.int .i64)] leatref36_Delay
theorem t_leatref36_Delay (N : Nat) : FCOK Tryz.prog N 67 c_leatref36_Delay := ro_ok facts (ok_leatref35_Pick N) (by kernel_rfl) (by kernel_rfl) (q_leatref36_Delay N) (fun t => by kernel_rfl)
def o_leatref36_Delay : List (Nat × FC) := (67, c_leatref36_Delay) :: o_leatref35_Pick
theorem ok_leatref36_Delay (N : Nat) : OrcOK Tryz.prog o_leatref36_Delay N := orc_cons (t_leatref36_Delay N) (ok_leatref35_Pick N)
def s_leatref08_Draw (_ : Nat) : List (Nat × LC) := []
noncomputable def e_leatref08_Draw (N : Nat) : Env := mkEnvX 0 [] Tryz.prog o_leatref36_Delay (s_leatref08_Draw N) N
theorem q_leatref08_Draw (N : Nat) : LoopsFor (e_leatref08_Draw N) Tryz.prog 112 0 := loops_mk (by kernel_rfl) (fun j hj => match j, hj with
  | _ + 0, h => absurd h (by omega)) (fun _ => rfl)
def c_leatref08_Draw : FC := mkF [.row 120 [.int .u32], .sc (.int .i64)] [.sc (.int .u32)] leatref08_Draw
theorem t_leatref08_Draw (N : Nat) : FCOK Tryz.prog N 112 c_leatref08_Draw := fun_ok facts (ok_leatref36_Delay N) (by kernel_rfl) (by kernel_rfl) (q_leatref08_Draw N) (fun t => by kernel_rfl)
def o_leatref08_Draw : List (Nat × FC) := (112, c_leatref08_Draw) :: o_leatref36_Delay
theorem ok_leatref08_Draw (N : Nat) : OrcOK Tryz.prog o_leatref08_Draw N := orc_cons (t_leatref08_Draw N) (ok_leatref36_Delay N)
def s_leatref36_draw (_ : Nat) : List (Nat × LC) := []
noncomputable def e_leatref36_draw (N : Nat) : Env := mkEnvX 0 [] Tryz.prog o_leatref08_Draw (s_leatref36_draw N) N
theorem q_leatref36_draw (N : Nat) : LoopsFor (e_leatref36_draw N) Tryz.prog 87 0 := loops_mk (by kernel_rfl) (fun j hj => match j, hj with
  | _ + 0, h => absurd h (by omega)) (fun _ => rfl)
def a_leatref36_draw : List Pat := [.aggp [.grp [.int .i64, .int .i64, .int .i64, .int .i64, .int .i64, .int .i64, .int .i64, .int .i64], .nils, .sl 0, .sl 1, .grp [.int .i64, .int .i64, .int .i64, .int .i64, .int .i64, .int .i64, .int .i64, .int .i64, .int .i64], .grp [.int .i64, .int .i64, .int .i64, .int .i64, .int .i64, .int .i64, .int .i64, .int .i64, .int .i64], .grp [.int .i64, .int .i64, .int .i64, .int .i64, .int .i64, .int .i64, .int .i64, .int .i64, .int .i64], .grp [.int .i64, .int .i64], .sc (.int .i64), .sl 2, .sc (.int .i64)]]
def b_leatref36_draw : List HPat := [.ext 38 [.int .i64, .int .i64, .int .i64, .int .i64, .int .i64], .ext 38 [.int .i64, .int .i64, .int .i64, .int .i64, .int .i64], .ext 120 [.int .u32]]
def ra_leatref36_draw : List Pat := [.aggp [.grp [.int .i64, .int .i64, .int .i64, .int .i64, .int .i64, .int .i64, .int .i64, .int .i64], .nils, .sl 0, .sl 1, .grp [.int .i64, .int .i64, .int .i64, .int .i64, .int .i64, .int .i64, .int .i64, .int .i64, .int .i64], .grp [.int .i64, .int .i64, .int .i64, .int .i64, .int .i64, .int .i64, .int .i64, .int .i64, .int .i64], .grp [.int .i64, .int .i64, .int .i64, .int .i64, .int .i64, .int .i64, .int .i64, .int .i64, .int .i64], .grp [.int .i64, .int .i64], .sc (.int .i64), .sl 2, .sc (.int .i64)], .sc (.int .u32)]
def rb_leatref36_draw : List HPat := [.ext 38 [.int .i64, .int .i64, .int .i64, .int .i64, .int .i64], .ext 38 [.int .i64, .int .i64, .int .i64, .int .i64, .int .i64], .ext 120 [.int .u32]]
def c_leatref36_draw : FC := mkFCH 0 a_leatref36_draw b_leatref36_draw ra_leatref36_draw rb_leatref36_draw leatref36_draw
theorem t_leatref36_draw (N : Nat) : FCOK Tryz.prog N 87 c_leatref36_draw := eff_ok facts (ok_leatref08_Draw N) (by kernel_rfl) (by kernel_rfl) (q_leatref36_draw N) (fun t => by kernel_rfl)
def o_leatref36_draw : List (Nat × FC) := (87, c_leatref36_draw) :: o_leatref08_Draw
theorem ok_leatref36_draw (N : Nat) : OrcOK Tryz.prog o_leatref36_draw N := orc_cons (t_leatref36_draw N) (ok_leatref08_Draw N)
def s_leatref33_within (_ : Nat) : List (Nat × LC) := []
noncomputable def e_leatref33_within (N : Nat) : Env := mkEnvX 0 [] Tryz.prog o_leatref36_draw (s_leatref33_within N) N
theorem q_leatref33_within (N : Nat) : LoopsFor (e_leatref33_within N) Tryz.prog 113 0 := loops_mk (by kernel_rfl) (fun j hj => match j, hj with
  | _ + 0, h => absurd h (by omega)) (fun _ => rfl)
def c_leatref33_within : FC := mkF [.sc (.int .i64), .sc (.int .i64)] [.sc (.int .i64)] leatref33_within
theorem t_leatref33_within (N : Nat) : FCOK Tryz.prog N 113 c_leatref33_within := fun_ok facts (ok_leatref36_draw N) (by kernel_rfl) (by kernel_rfl) (q_leatref33_within N) (fun t => by kernel_rfl)
def o_leatref33_within : List (Nat × FC) := (113, c_leatref33_within) :: o_leatref36_draw
theorem ok_leatref33_within (N : Nat) : OrcOK Tryz.prog o_leatref33_within N := orc_cons (t_leatref33_within N) (ok_leatref36_draw N)
def s_leatref33_Classic (_ : Nat) : List (Nat × LC) := []
noncomputable def e_leatref33_Classic (N : Nat) : Env := mkEnvX 0 [] Tryz.prog o_leatref33_within (s_leatref33_Classic N) N
theorem q_leatref33_Classic (N : Nat) : LoopsFor (e_leatref33_Classic N) Tryz.prog 89 0 := loops_mk (by kernel_rfl) (fun j hj => match j, hj with
  | _ + 0, h => absurd h (by omega)) (fun _ => rfl)
def c_leatref33_Classic : FC := mkF [.sc (.int .i64)] [.sc (.int .i64)] leatref33_Classic
theorem t_leatref33_Classic (N : Nat) : FCOK Tryz.prog N 89 c_leatref33_Classic := fun_ok facts (ok_leatref33_within N) (by kernel_rfl) (by kernel_rfl) (q_leatref33_Classic N) (fun t => by kernel_rfl)
def o_leatref33_Classic : List (Nat × FC) := (89, c_leatref33_Classic) :: o_leatref33_within
theorem ok_leatref33_Classic (N : Nat) : OrcOK Tryz.prog o_leatref33_Classic N := orc_cons (t_leatref33_Classic N) (ok_leatref33_within N)
def s_leatref33_Hit (_ : Nat) : List (Nat × LC) := []
noncomputable def e_leatref33_Hit (N : Nat) : Env := mkEnvX 0 [] Tryz.prog o_leatref33_Classic (s_leatref33_Hit N) N
theorem q_leatref33_Hit (N : Nat) : LoopsFor (e_leatref33_Hit N) Tryz.prog 88 0 := loops_mk (by kernel_rfl) (fun j hj => match j, hj with
  | _ + 0, h => absurd h (by omega)) (fun _ => rfl)
def c_leatref33_Hit : FC := mkF [.sc (.int .u32), .sc (.int .i64)] [.sc (.bool)] leatref33_Hit
theorem t_leatref33_Hit (N : Nat) : FCOK Tryz.prog N 88 c_leatref33_Hit := fun_ok facts (ok_leatref33_Classic N) (by kernel_rfl) (by kernel_rfl) (q_leatref33_Hit N) (fun t => by kernel_rfl)
def o_leatref33_Hit : List (Nat × FC) := (88, c_leatref33_Hit) :: o_leatref33_Classic
theorem ok_leatref33_Hit (N : Nat) : OrcOK Tryz.prog o_leatref33_Hit N := orc_cons (t_leatref33_Hit N) (ok_leatref33_Classic N)
def s_leatref09_Mark (_ : Nat) : List (Nat × LC) := []
noncomputable def e_leatref09_Mark (N : Nat) : Env := mkEnvX 0 [] Tryz.prog o_leatref33_Hit (s_leatref09_Mark N) N
theorem q_leatref09_Mark (N : Nat) : LoopsFor (e_leatref09_Mark N) Tryz.prog 90 0 := loops_mk (by kernel_rfl) (fun j hj => match j, hj with
  | _ + 0, h => absurd h (by omega)) (fun _ => rfl)
def c_leatref09_Mark : FC := mkF [.sc (.int .i64)] [.sc (.int .i64), .sc (.bool)] leatref09_Mark
theorem t_leatref09_Mark (N : Nat) : FCOK Tryz.prog N 90 c_leatref09_Mark := fun_ok facts (ok_leatref33_Hit N) (by kernel_rfl) (by kernel_rfl) (q_leatref09_Mark N) (fun t => by kernel_rfl)
def o_leatref09_Mark : List (Nat × FC) := (90, c_leatref09_Mark) :: o_leatref33_Hit
theorem ok_leatref09_Mark (N : Nat) : OrcOK Tryz.prog o_leatref09_Mark N := orc_cons (t_leatref09_Mark N) (ok_leatref33_Hit N)
def s_leatref33_Over (_ : Nat) : List (Nat × LC) := []
noncomputable def e_leatref33_Over (N : Nat) : Env := mkEnvX 0 [] Tryz.prog o_leatref09_Mark (s_leatref33_Over N) N
theorem q_leatref33_Over (N : Nat) : LoopsFor (e_leatref33_Over N) Tryz.prog 91 0 := loops_mk (by kernel_rfl) (fun j hj => match j, hj with
  | _ + 0, h => absurd h (by omega)) (fun _ => rfl)
def c_leatref33_Over : FC := mkF [.sc (.int .i64), .sc (.int .i64)] [.sc (.bool)] leatref33_Over
theorem t_leatref33_Over (N : Nat) : FCOK Tryz.prog N 91 c_leatref33_Over := fun_ok facts (ok_leatref09_Mark N) (by kernel_rfl) (by kernel_rfl) (q_leatref33_Over N) (fun t => by kernel_rfl)
def o_leatref33_Over : List (Nat × FC) := (91, c_leatref33_Over) :: o_leatref09_Mark
theorem ok_leatref33_Over (N : Nat) : OrcOK Tryz.prog o_leatref33_Over N := orc_cons (t_leatref33_Over N) (ok_leatref09_Mark N)
def s_leatref33_Low (_ : Nat) : List (Nat × LC) := []
noncomputable def e_leatref33_Low (N : Nat) : Env := mkEnvX 0 [] Tryz.prog o_leatref33_Over (s_leatref33_Low N) N
theorem q_leatref33_Low (N : Nat) : LoopsFor (e_leatref33_Low N) Tryz.prog 93 0 := loops_mk (by kernel_rfl) (fun j hj => match j, hj with
  | _ + 0, h => absurd h (by omega)) (fun _ => rfl)
def c_leatref33_Low : FC := mkF [.sc (.int .i64), .sc (.int .i64)] [.sc (.int .i64)] leatref33_Low
theorem t_leatref33_Low (N : Nat) : FCOK Tryz.prog N 93 c_leatref33_Low := fun_ok facts (ok_leatref33_Over N) (by kernel_rfl) (by kernel_rfl) (q_leatref33_Low N) (fun t => by kernel_rfl)
def o_leatref33_Low : List (Nat × FC) := (93, c_leatref33_Low) :: o_leatref33_Over
theorem ok_leatref33_Low (N : Nat) : OrcOK Tryz.prog o_leatref33_Low N := orc_cons (t_leatref33_Low N) (ok_leatref33_Over N)
def s_leatref34_within (_ : Nat) : List (Nat × LC) := []
noncomputable def e_leatref34_within (N : Nat) : Env := mkEnvX 0 [] Tryz.prog o_leatref33_Low (s_leatref34_within N) N
theorem q_leatref34_within (N : Nat) : LoopsFor (e_leatref34_within N) Tryz.prog 124 0 := loops_mk (by kernel_rfl) (fun j hj => match j, hj with
  | _ + 0, h => absurd h (by omega)) (fun _ => rfl)
def c_leatref34_within : FC := mkF [.sc (.int .i64)] [.sc (.int .i64)] leatref34_within
theorem t_leatref34_within (N : Nat) : FCOK Tryz.prog N 124 c_leatref34_within := fun_ok facts (ok_leatref33_Low N) (by kernel_rfl) (by kernel_rfl) (q_leatref34_within N) (fun t => by kernel_rfl)
def o_leatref34_within : List (Nat × FC) := (124, c_leatref34_within) :: o_leatref33_Low
theorem ok_leatref34_within (N : Nat) : OrcOK Tryz.prog o_leatref34_within N := orc_cons (t_leatref34_within N) (ok_leatref33_Low N)
def s_leatref34_Ramp (_ : Nat) : List (Nat × LC) := []
noncomputable def e_leatref34_Ramp (N : Nat) : Env := mkEnvX 0 [] Tryz.prog o_leatref34_within (s_leatref34_Ramp N) N
theorem q_leatref34_Ramp (N : Nat) : LoopsFor (e_leatref34_Ramp N) Tryz.prog 114 0 := loops_mk (by kernel_rfl) (fun j hj => match j, hj with
  | _ + 0, h => absurd h (by omega)) (fun _ => rfl)
def c_leatref34_Ramp : FC := mkF [.sc (.int .i64), .sc (.int .i64), .sc (.int .i64)] [.sc (.int .i64)] leatref34_Ramp
theorem t_leatref34_Ramp (N : Nat) : FCOK Tryz.prog N 114 c_leatref34_Ramp := fun_ok facts (ok_leatref34_within N) (by kernel_rfl) (by kernel_rfl) (q_leatref34_Ramp N) (fun t => by kernel_rfl)
def o_leatref34_Ramp : List (Nat × FC) := (114, c_leatref34_Ramp) :: o_leatref34_within
theorem ok_leatref34_Ramp (N : Nat) : OrcOK Tryz.prog o_leatref34_Ramp N := orc_cons (t_leatref34_Ramp N) (ok_leatref34_within N)
def s_leatref34_Mark (_ : Nat) : List (Nat × LC) := []
noncomputable def e_leatref34_Mark (N : Nat) : Env := mkEnvX 0 [] Tryz.prog o_leatref34_Ramp (s_leatref34_Mark N) N
theorem q_leatref34_Mark (N : Nat) : LoopsFor (e_leatref34_Mark N) Tryz.prog 92 0 := loops_mk (by kernel_rfl) (fun j hj => match j, hj with
  | _ + 0, h => absurd h (by omega)) (fun _ => rfl)
def c_leatref34_Mark : FC := mkF [.sc (.int .i64), .agg [.int .i64, .int .i64, .int .i64, .int .i64, .int .i64, .int .i64, .int .i64, .int .i64], .sc (.int .i64)] [.sc (.int .i64)] leatref34_Mark
theorem t_leatref34_Mark (N : Nat) : FCOK Tryz.prog N 92 c_leatref34_Mark := fun_ok facts (ok_leatref34_Ramp N) (by kernel_rfl) (by kernel_rfl) (q_leatref34_Mark N) (fun t => by kernel_rfl)
def o_leatref34_Mark : List (Nat × FC) := (92, c_leatref34_Mark) :: o_leatref34_Ramp
theorem ok_leatref34_Mark (N : Nat) : OrcOK Tryz.prog o_leatref34_Mark N := orc_cons (t_leatref34_Mark N) (ok_leatref34_Ramp N)
def s_leatref36_judge (_ : Nat) : List (Nat × LC) := []
noncomputable def e_leatref36_judge (N : Nat) : Env := mkEnvX 0 [] Tryz.prog o_leatref34_Mark (s_leatref36_judge N) N
theorem q_leatref36_judge (N : Nat) : LoopsFor (e_leatref36_judge N) Tryz.prog 68 0 := loops_mk (by kernel_rfl) (fun j hj => match j, hj with
  | _ + 0, h => absurd h (by omega)) (fun _ => rfl)
def a_leatref36_judge : List Pat := [.aggp [.grp [.int .i64, .int .i64, .int .i64, .int .i64, .int .i64, .int .i64, .int .i64, .int .i64], .nils, .sl 0, .sl 1, .grp [.int .i64, .int .i64, .int .i64, .int .i64, .int .i64, .int .i64, .int .i64, .int .i64, .int .i64], .grp [.int .i64, .int .i64, .int .i64, .int .i64, .int .i64, .int .i64, .int .i64, .int .i64, .int .i64], .grp [.int .i64, .int .i64, .int .i64, .int .i64, .int .i64, .int .i64, .int .i64, .int .i64, .int .i64], .grp [.int .i64, .int .i64], .sc (.int .i64), .sl 2, .sc (.int .i64)], .sc (.int .i64), .agg [.int .i64, .int .i64, .int .i64, .int .i64, .int .i64], .sc (.int .i64)]
def b_leatref36_judge : List HPat := [.ext 38 [.int .i64, .int .i64, .int .i64, .int .i64, .int .i64], .ext 38 [.int .i64, .int .i64, .int .i64, .int .i64, .int .i64], .ext 120 [.int .u32]]
def ra_leatref36_judge : List Pat := [.aggp [.grp [.int .i64, .int .i64, .int .i64, .int .i64, .int .i64, .int .i64, .int .i64, .int .i64], .nils, .sl 0, .sl 1, .grp [.int .i64, .int .i64, .int .i64, .int .i64, .int .i64, .int .i64, .int .i64, .int .i64, .int .i64], .grp [.int .i64, .int .i64, .int .i64, .int .i64, .int .i64, .int .i64, .int .i64, .int .i64, .int .i64], .grp [.int .i64, .int .i64, .int .i64, .int .i64, .int .i64, .int .i64, .int .i64, .int .i64, .int .i64], .grp [.int .i64, .int .i64], .sc (.int .i64), .sl 2, .sc (.int .i64)], .sc (.int .i64), .sc (.bool)]
def rb_leatref36_judge : List HPat := [.ext 38 [.int .i64, .int .i64, .int .i64, .int .i64, .int .i64], .ext 38 [.int .i64, .int .i64, .int .i64, .int .i64, .int .i64], .ext 120 [.int .u32]]
def c_leatref36_judge : FC := mkFCH 0 a_leatref36_judge b_leatref36_judge ra_leatref36_judge rb_leatref36_judge leatref36_judge
theorem t_leatref36_judge (N : Nat) : FCOK Tryz.prog N 68 c_leatref36_judge := eff_ok facts (ok_leatref34_Mark N) (by kernel_rfl) (by kernel_rfl) (q_leatref36_judge N) (fun t => by kernel_rfl)
def o_leatref36_judge : List (Nat × FC) := (68, c_leatref36_judge) :: o_leatref34_Mark
theorem ok_leatref36_judge (N : Nat) : OrcOK Tryz.prog o_leatref36_judge N := orc_cons (t_leatref36_judge N) (ok_leatref34_Mark N)
def s_leatref35_Serve (_ : Nat) : List (Nat × LC) := []
noncomputable def e_leatref35_Serve (N : Nat) : Env := mkEnvX 0 [] Tryz.prog o_leatref36_judge (s_leatref35_Serve N) N
theorem q_leatref35_Serve (N : Nat) : LoopsFor (e_leatref35_Serve N) Tryz.prog 69 0 := loops_mk (by kernel_rfl) (fun j hj => match j, hj with
  | _ + 0, h => absurd h (by omega)) (fun _ => rfl)
def c_leatref35_Serve : FC := mkF [.agg [.int .i64], .sc (.int .i64), .sc (.int .i64), .sc (.bool)] [.agg [.int .i64]] leatref35_Serve
theorem t_leatref35_Serve (N : Nat) : FCOK Tryz.prog N 69 c_leatref35_Serve := fun_ok facts (ok_leatref36_judge N) (by kernel_rfl) (by kernel_rfl) (q_leatref35_Serve N) (fun t => by kernel_rfl)
def o_leatref35_Serve : List (Nat × FC) := (69, c_leatref35_Serve) :: o_leatref36_judge
theorem ok_leatref35_Serve (N : Nat) : OrcOK Tryz.prog o_leatref35_Serve N := orc_cons (t_leatref35_Serve N) (ok_leatref36_judge N)
def p_leatref36_Take_2 : List Pat := [.any, .sc (.int .i64), .ptr 0 0, .any, .ptr 1 0, .ptr 2 0, .any, .any, .sl 3, .any, .any, .any, .any, .any, .any, .any, .any, .any, .any, .any, .any, .any, .any, .any, .any, .any, .any, .any, .any, .any, .any, .any, .any, .any, .any, .any, .any, .any, .any, .any, .any, .any, .any, .any, .any, .any, .any, .any, .any, .any, .any, .any, .any, .any, .any, .any, .any, .any, .any, .any, .any, .any, .any, .any, .any, .any, .any, .any, .any, .any, .any, .any, .any, .any, .any, .any, .any, .any, .any, .any, .any, .any, .any, .any, .any, .any, .any, .any, .any, .any, .any, .any, .any, .any, .any, .any, .any, .any, .any, .any, .any, .any, .any, .any, .any, .any, .any, .any, .any, .any, .any, .any, .any, .any, .any, .any, .any, .any, .any, .any, .any, .any, .any, .any, .any, .any, .any, .any, .any, .any, .any, .any, .any, .any, .any, .any, .any, .any, .any, .any, .any, .any, .any, .any, .any, .any, .any, .any, .any, .any, .any, .any, .any, .any, .any, .any, .any, .any, .any, .any, .any, .any, .any, .any, .any, .any, .any, .any]
def h_leatref36_Take_2 : List HPat := [.cells [.grp [.int .i64, .int .i64, .int .i64, .int .i64, .int .i64, .int .i64, .int .i64, .int .i64], .nils, .sl 4, .sl 5, .grp [.int .i64, .int .i64, .int .i64, .int .i64, .int .i64, .int .i64, .int .i64, .int .i64, .int .i64], .grp [.int .i64, .int .i64, .int .i64, .int .i64, .int .i64, .int .i64, .int .i64, .int .i64, .int .i64], .grp [.int .i64, .int .i64, .int .i64, .int .i64, .int .i64, .int .i64, .int .i64, .int .i64, .int .i64], .grp [.int .i64, .int .i64], .sc (.int .i64), .sl 6, .sc (.int .i64)], .cells [.grp [.int .i64, .int .i64, .int .i64, .int .i64, .int .i64, .int .i64, .int .i64, .int .i64], .nils, .nils, .nils, .grp [.int .i64, .int .i64, .int .i64, .int .i64, .int .i64, .int .i64, .int .i64, .int .i64, .int .i64], .grp [.int .i64, .int .i64, .int .i64, .int .i64, .int .i64, .int .i64, .int .i64, .int .i64, .int .i64], .grp [.int .i64, .int .i64, .int .i64, .int .i64, .int .i64, .int .i64, .int .i64, .int .i64, .int .i64], .grp [.int .i64, .int .i64], .sc (.int .i64), .nils, .sc (.int .i64)], .cells [.grp [.int .i64, .int .i64, .int .i64, .int .i64, .int .i64]], .rows 38 [.int .i64, .int .i64, .int .i64, .int .i64, .int .i64], .ext 38 [.int .i64, .int .i64, .int .i64, .int .i64, .int .i64], .ext 38 [.int .i64, .int .i64, .int .i64, .int .i64, .int .i64], .ext 120 [.int .u32]]
def x_leatref36_Take_2 : List XP := [⟨.ret, [.any, .any, .any, .any, .ptr 0 0, .ptr 1 0, .sl 2, .sc (.bool), .any, .any, .any, .any, .any, .any, .any, .any, .any, .any, .any, .any, .any, .any, .any, .any, .any, .any, .any, .any, .any, .any, .any, .any, .any, .any, .any, .any, .any, .any, .any, .any, .any, .any, .any, .any, .any, .any, .any, .any, .any, .any, .any, .any, .any, .any, .any, .any, .any, .any, .any, .any, .any, .any, .any, .any, .any, .any, .any, .any, .any, .any, .any, .any, .any, .any, .any, .any, .any, .any, .any, .any, .any, .any, .any, .any, .any, .any, .any, .any, .any, .any, .any, .any, .any, .any, .any, .any, .any, .any, .any, .any, .any, .any, .any, .any, .any, .any, .any, .any, .any, .any, .any, .any, .any, .any, .any, .any, .any, .any, .any, .any, .any, .any, .any, .any, .any, .any, .any, .any, .any, .any, .any, .any, .any, .any, .any, .any, .any, .any, .any, .any, .any, .any, .any, .any, .any, .any, .any, .any, .any, .any, .any, .any, .any, .any, .any, .any, .any, .any, .any, .any, .any, .any, .any, .any, .any, .any, .any, .any], [.cells [.grp [.int .i64, .int .i64, .int .i64, .int .i64, .int .i64, .int .i64, .int .i64, .int .i64], .nils, .sl 3, .sl 4, .grp [.int .i64, .int .i64, .int .i64, .int .i64, .int .i64, .int .i64, .int .i64, .int .i64, .int .i64], .grp [.int .i64, .int .i64, .int .i64, .int .i64, .int .i64, .int .i64, .int .i64, .int .i64, .int .i64], .grp [.int .i64, .int .i64, .int .i64, .int .i64, .int .i64, .int .i64, .int .i64, .int .i64, .int .i64], .grp [.int .i64, .int .i64], .sc (.int .i64), .sl 5, .sc (.int .i64)], .cells [.grp [.int .i64, .int .i64, .int .i64, .int .i64, .int .i64]], .rows 38 [.int .i64, .int .i64, .int .i64, .int .i64, .int .i64], .ext 38 [.int .i64, .int .i64, .int .i64, .int .i64, .int .i64], .ext 38 [.int .i64, .int .i64, .int .i64, .int .i64, .int .i64], .ext 120 [.int .u32]]⟩, ⟨.exit 0, [.any, .any, .ptr 0 0, .any, .ptr 1 0, .ptr 2 0, .any, .any, .sl 3, .any, .any, .any, .any, .any, .any, .any, .any, .any, .any, .any, .any, .any, .any, .any, .any, .any, .any, .any, .any, .any, .any, .any, .any, .any, .any, .any, .any, .any, .any, .any, .any, .any, .any, .any, .any, .any, .any, .any, .any, .any, .any, .any, .any, .any, .any, .any, .any, .any, .any, .any, .any, .any, .any, .any, .any, .any, .any, .any, .any, .any, .any, .any, .any, .any, .any, .any, .any, .any, .any, .any, .any, .any, .any, .any, .any, .any, .any, .any, .any, .any, .any, .any, .any, .any, .any, .any, .any, .any, .any, .any, .any, .any, .any, .any, .any, .any, .any, .any, .any, .any, .any, .any, .any, .any, .any, .any, .any, .any, .any, .any, .any, .any, .any, .any, .any, .any, .any, .any, .any, .any, .any, .any, .any, .any, .any, .any, .any, .any, .any, .any, .any, .any, .any, .any, .any, .any, .any, .any, .any, .any, .any, .any, .any, .any, .any, .any, .any, .any, .any, .any, .any, .any, .any, .any, .any, .any, .any, .any], [.cells [.grp [.int .i64, .int .i64, .int .i64, .int .i64, .int .i64, .int .i64, .int .i64, .int .i64], .nils, .sl 4, .sl 5, .grp [.int .i64, .int .i64, .int .i64, .int .i64, .int .i64, .int .i64, .int .i64, .int .i64, .int .i64], .grp [.int .i64, .int .i64, .int .i64, .int .i64, .int .i64, .int .i64, .int .i64, .int .i64, .int .i64], .grp [.int .i64, .int .i64, .int .i64, .int .i64, .int .i64, .int .i64, .int .i64, .int .i64, .int .i64], .grp [.int .i64, .int .i64], .sc (.int .i64), .sl 6, .sc (.int .i64)], .cells [.grp [.int .i64, .int .i64, .int .i64, .int .i64, .int .i64, .int .i64, .int .i64, .int .i64], .nils, .nils, .nils, .grp [.int .i64, .int .i64, .int .i64, .int .i64, .int .i64, .int .i64, .int .i64, .int .i64, .int .i64], .grp [.int .i64, .int .i64, .int .i64, .int .i64, .int .i64, .int .i64, .int .i64, .int .i64, .int .i64], .grp [.int .i64, .int .i64, .int .i64, .int .i64, .int .i64, .int .i64, .int .i64, .int .i64, .int .i64], .grp [.int .i64, .int .i64], .sc (.int .i64), .nils, .sc (.int .i64)], .cells [.grp [.int .i64, .int .i64, .int .i64, .int .i64, .int .i64]], .rows 38 [.int .i64, .int .i64, .int .i64, .int .i64, .int .i64], .ext 38 [.int .i64, .int .i64, .int .i64, .int .i64, .int .i64], .ext 38 [.int .i64, .int .i64, .int .i64, .int .i64, .int .i64], .ext 120 [.int .u32]]⟩]
def lc_leatref36_Take_2 (N : Nat) : LC := mkLC 0 p_leatref36_Take_2 h_leatref36_Take_2 x_leatref36_Take_2 (leatref36_Take_L2 N)
def s_leatref36_Take (N : Nat) : List (Nat × LC) := [(2, lc_leatref36_Take_2 N)]
noncomputable def e_leatref36_Take (N : Nat) : Env := mkEnvX 0 [] Tryz.prog o_leatref35_Serve (s_leatref36_Take N) N
theorem k_leatref36_Take_2 (N : Nat) : LCOK (e_leatref36_Take N) 12 (loopAt Tryz.prog 46 0) (lc_leatref36_Take_2 N) := mkLC_ok rfl (by kernel_rfl) (by kernel_rfl) (fun F x => by kernel_rfl)
theorem q_leatref36_Take (N : Nat) : LoopsFor (e_leatref36_Take N) Tryz.prog 46 1 := loops_mk (by kernel_rfl) (fun j hj => match j, hj with
  | 0, _ => .inl ⟨lc_leatref36_Take_2 N, by kernel_rfl, k_leatref36_Take_2 N⟩
  | _ + 1, h => absurd h (by omega)) (fun _ => rfl)
def a_leatref36_Take : List Pat := [.aggp [.grp [.int .i64, .int .i64, .int .i64, .int .i64, .int .i64, .int .i64, .int .i64, .int .i64], .nils, .sl 0, .sl 1, .grp [.int .i64, .int .i64, .int .i64, .int .i64, .int .i64, .int .i64, .int .i64, .int .i64, .int .i64], .grp [.int .i64, .int .i64, .int .i64, .int .i64, .int .i64, .int .i64, .int .i64, .int .i64, .int .i64], .grp [.int .i64, .int .i64, .int .i64, .int .i64, .int .i64, .int .i64, .int .i64, .int .i64, .int .i64], .grp [.int .i64, .int .i64], .sc (.int .i64), .sl 2, .sc (.int .i64)], .sc (.int .i64)]
def b_leatref36_Take : List HPat := [.ext 38 [.int .i64, .int .i64, .int .i64, .int .i64, .int .i64], .ext 38 [.int .i64, .int .i64, .int .i64, .int .i64, .int .i64], .ext 120 [.int .u32]]
def ra_leatref36_Take : List Pat := [.aggp [.grp [.int .i64, .int .i64, .int .i64, .int .i64, .int .i64, .int .i64, .int .i64, .int .i64], .nils, .sl 0, .sl 1, .grp [.int .i64, .int .i64, .int .i64, .int .i64, .int .i64, .int .i64, .int .i64, .int .i64, .int .i64], .grp [.int .i64, .int .i64, .int .i64, .int .i64, .int .i64, .int .i64, .int .i64, .int .i64, .int .i64], .grp [.int .i64, .int .i64, .int .i64, .int .i64, .int .i64, .int .i64, .int .i64, .int .i64, .int .i64], .grp [.int .i64, .int .i64], .sc (.int .i64), .sl 2, .sc (.int .i64)], .agg [.int .i64, .int .i64, .int .i64, .int .i64, .int .i64], .sl 3, .sc (.bool)]
def rb_leatref36_Take : List HPat := [.ext 38 [.int .i64, .int .i64, .int .i64, .int .i64, .int .i64], .ext 38 [.int .i64, .int .i64, .int .i64, .int .i64, .int .i64], .ext 120 [.int .u32], .rows 38 [.int .i64, .int .i64, .int .i64, .int .i64, .int .i64]]
def c_leatref36_Take : FC := mkFCH 0 a_leatref36_Take b_leatref36_Take ra_leatref36_Take rb_leatref36_Take leatref36_Take
theorem t_leatref36_Take (N : Nat) : FCOK Tryz.prog N 46 c_leatref36_Take := eff_ok facts (ok_leatref35_Serve N) (by kernel_rfl) (by kernel_rfl) (q_leatref36_Take N) (fun t => by kernel_rfl)
def o_leatref36_Take : List (Nat × FC) := (46, c_leatref36_Take) :: o_leatref35_Serve
theorem ok_leatref36_Take (N : Nat) : OrcOK Tryz.prog o_leatref36_Take N := orc_cons (t_leatref36_Take N) (ok_leatref35_Serve N)
def s_leatref37_keep (_ : Nat) : List (Nat × LC) := []
noncomputable def e_leatref37_keep (N : Nat) : Env := mkEnvX 0 [] Tryz.prog o_leatref36_Take (s_leatref37_keep N) N
theorem q_leatref37_keep (N : Nat) : LoopsFor (e_leatref37_keep N) Tryz.prog 52 0 := loops_mk (by kernel_rfl) (fun j hj => match j, hj with
  | _ + 0, h => absurd h (by omega)) (fun _ => rfl)
def c_leatref37_keep : FC := mkF [.sc (.int .i64), .sc (.int .i64), .sc (.int .i64)] [.sc (.int .i64)] leatref37_keep
theorem t_leatref37_keep (N : Nat) : FCOK Tryz.prog N 52 c_leatref37_keep := fun_ok facts (ok_leatref36_Take N) (by kernel_rfl) (by kernel_rfl) (q_leatref37_keep N) (fun t => by kernel_rfl)
def o_leatref37_keep : List (Nat × FC) := (52, c_leatref37_keep) :: o_leatref36_Take
theorem ok_leatref37_keep (N : Nat) : OrcOK Tryz.prog o_leatref37_keep N := orc_cons (t_leatref37_keep N) (ok_leatref36_Take N)
def s_leatref37_Span (_ : Nat) : List (Nat × LC) := []
noncomputable def e_leatref37_Span (N : Nat) : Env := mkEnvX 0 [] Tryz.prog o_leatref37_keep (s_leatref37_Span N) N
theorem q_leatref37_Span (N : Nat) : LoopsFor (e_leatref37_Span N) Tryz.prog 34 0 := loops_mk (by kernel_rfl) (fun j hj => match j, hj with
  | _ + 0, h => absurd h (by omega)) (fun _ => rfl)
def c_leatref37_Span : FC := mkF [.sc (.int .i64), .sc (.int .i64)] [.sc (.int .i64)] leatref37_Span
theorem t_leatref37_Span (N : Nat) : FCOK Tryz.prog N 34 c_leatref37_Span := fun_ok facts (ok_leatref37_keep N) (by kernel_rfl) (by kernel_rfl) (q_leatref37_Span N) (fun t => by kernel_rfl)
def o_leatref37_Span : List (Nat × FC) := (34, c_leatref37_Span) :: o_leatref37_keep
theorem ok_leatref37_Span (N : Nat) : OrcOK Tryz.prog o_leatref37_Span N := orc_cons (t_leatref37_Span N) (ok_leatref37_keep N)
def s_leatref32_within (_ : Nat) : List (Nat × LC) := []
noncomputable def e_leatref32_within (N : Nat) : Env := mkEnvX 0 [] Tryz.prog o_leatref37_Span (s_leatref32_within N) N
theorem q_leatref32_within (N : Nat) : LoopsFor (e_leatref32_within N) Tryz.prog 94 0 := loops_mk (by kernel_rfl) (fun j hj => match j, hj with
  | _ + 0, h => absurd h (by omega)) (fun _ => rfl)
def c_leatref32_within : FC := mkF [.sc (.int .i64), .sc (.int .i64)] [.sc (.int .i64)] leatref32_within
theorem t_leatref32_within (N : Nat) : FCOK Tryz.prog N 94 c_leatref32_within := fun_ok facts (ok_leatref37_Span N) (by kernel_rfl) (by kernel_rfl) (q_leatref32_within N) (fun t => by kernel_rfl)
def o_leatref32_within : List (Nat × FC) := (94, c_leatref32_within) :: o_leatref37_Span
theorem ok_leatref32_within (N : Nat) : OrcOK Tryz.prog o_leatref32_within N := orc_cons (t_leatref32_within N) (ok_leatref37_Span N)
def s_leatref01_Neg (_ : Nat) : List (Nat × LC) := []
noncomputable def e_leatref01_Neg (N : Nat) : Env := mkEnvX 0 [] Tryz.prog o_leatref32_within (s_leatref01_Neg N) N
theorem q_leatref01_Neg (N : Nat) : LoopsFor (e_leatref01_Neg N) Tryz.prog 115 0 := loops_mk (by kernel_rfl) (fun j hj => match j, hj with
  | _ + 0, h => absurd h (by omega)) (fun _ => rfl)
def c_leatref01_Neg : FC := mkF [.sc (.int .i64)] [.sc (.int .i64)] leatref01_Neg
theorem t_leatref01_Neg (N : Nat) : FCOK Tryz.prog N 115 c_leatref01_Neg := fun_ok facts (ok_leatref32_within N) (by kernel_rfl) (by kernel_rfl) (q_leatref01_Neg N) (fun t => by kernel_rfl)
def o_leatref01_Neg : List (Nat × FC) := (115, c_leatref01_Neg) :: o_leatref32_within
theorem ok_leatref01_Neg (N : Nat) : OrcOK Tryz.prog o_leatref01_Neg N := orc_cons (t_leatref01_Neg N) (ok_leatref32_within N)
def s_leatref01_Div (_ : Nat) : List (Nat × LC) := []
noncomputable def e_leatref01_Div (N : Nat) : Env := mkEnvX 0 [] Tryz.prog o_leatref01_Neg (s_leatref01_Div N) N
theorem q_leatref01_Div (N : Nat) : LoopsFor (e_leatref01_Div N) Tryz.prog 95 0 := loops_mk (by kernel_rfl) (fun j hj => match j, hj with
  | _ + 0, h => absurd h (by omega)) (fun _ => rfl)
def c_leatref01_Div : FC := mkF [.sc (.int .i64), .sc (.int .i64)] [.sc (.int .i64)] leatref01_Div
theorem t_leatref01_Div (N : Nat) : FCOK Tryz.prog N 95 c_leatref01_Div := fun_ok facts (ok_leatref01_Neg N) (by kernel_rfl) (by kernel_rfl) (q_leatref01_Div N) (fun t => by kernel_rfl)
def o_leatref01_Div : List (Nat × FC) := (95, c_leatref01_Div) :: o_leatref01_Neg
theorem ok_leatref01_Div (N : Nat) : OrcOK Tryz.prog o_leatref01_Div N := orc_cons (t_leatref01_Div N) (ok_leatref01_Neg N)
def s_leatref32_Step (_ : Nat) : List (Nat × LC) := []
noncomputable def e_leatref32_Step (N : Nat) : Env := mkEnvX 0 [] Tryz.prog o_leatref01_Div (s_leatref32_Step N) N
theorem q_leatref32_Step (N : Nat) : LoopsFor (e_leatref32_Step N) Tryz.prog 70 0 := loops_mk (by kernel_rfl) (fun j hj => match j, hj with
  | _ + 0, h => absurd h (by omega)) (fun _ => rfl)
def c_leatref32_Step : FC := mkF [.agg [.int .i64, .int .i64], .sc (.int .i64), .agg [.int .i64, .int .i64, .int .i64, .int .i64, .int .i64, .int .i64, .int .i64, .int .i64]] [.agg [.int .i64, .int .i64]] leatref32_Step
theorem t_leatref32_Step (N : Nat) : FCOK Tryz.prog N 70 c_leatref32_Step := fun_ok facts (ok_leatref01_Div N) (by kernel_rfl) (by kernel_rfl) (q_leatref32_Step N) (fun t => by kernel_rfl)
def o_leatref32_Step : List (Nat × FC) := (70, c_leatref32_Step) :: o_leatref01_Div
theorem ok_leatref32_Step (N : Nat) : OrcOK Tryz.prog o_leatref32_Step N := orc_cons (t_leatref32_Step N) (ok_leatref01_Div N)
def s_leatref36_Update (_ : Nat) : List (Nat × LC) := []
noncomputable def e_leatref36_Update (N : Nat) : Env := mkEnvX 0 [] Tryz.prog o_leatref32_Step (s_leatref36_Update N) N
theorem q_leatref36_Update (N : Nat) : LoopsFor (e_leatref36_Update N) Tryz.prog 47 0 := loops_mk (by kernel_rfl) (fun j hj => match j, hj with
  | _ + 0, h => absurd h (by omega)) (fun _ => rfl)
def a_leatref36_Update : List Pat := [.aggp [.grp [.int .i64, .int .i64, .int .i64, .int .i64, .int .i64, .int .i64, .int .i64, .int .i64], .nils, .sl 0, .sl 1, .grp [.int .i64, .int .i64, .int .i64, .int .i64, .int .i64, .int .i64, .int .i64, .int .i64, .int .i64], .grp [.int .i64, .int .i64, .int .i64, .int .i64, .int .i64, .int .i64, .int .i64, .int .i64, .int .i64], .grp [.int .i64, .int .i64, .int .i64, .int .i64, .int .i64, .int .i64, .int .i64, .int .i64, .int .i64], .grp [.int .i64, .int .i64], .sc (.int .i64), .sl 2, .sc (.int .i64)], .sc (.int .i64)]
def b_leatref36_Update : List HPat := [.ext 38 [.int .i64, .int .i64, .int .i64, .int .i64, .int .i64], .ext 38 [.int .i64, .int .i64, .int .i64, .int .i64, .int .i64], .ext 120 [.int .u32]]
def ra_leatref36_Update : List Pat := [.aggp [.grp [.int .i64, .int .i64, .int .i64, .int .i64, .int .i64, .int .i64, .int .i64, .int .i64], .nils, .sl 0, .sl 1, .grp [.int .i64, .int .i64, .int .i64, .int .i64, .int .i64, .int .i64, .int .i64, .int .i64, .int .i64], .grp [.int .i64, .int .i64, .int .i64, .int .i64, .int .i64, .int .i64, .int .i64, .int .i64, .int .i64], .grp [.int .i64, .int .i64, .int .i64, .int .i64, .int .i64, .int .i64, .int .i64, .int .i64, .int .i64], .grp [.int .i64, .int .i64], .sc (.int .i64), .sl 2, .sc (.int .i64)]]
def rb_leatref36_Update : List HPat := [.ext 38 [.int .i64, .int .i64, .int .i64, .int .i64, .int .i64], .ext 38 [.int .i64, .int .i64, .int .i64, .int .i64, .int .i64], .ext 120 [.int .u32]]
def c_leatref36_Update : FC := mkFCH 0 a_leatref36_Update b_leatref36_Update ra_leatref36_Update rb_leatref36_Update leatref36_Update
theorem t_leatref36_Update (N : Nat) : FCOK Tryz.prog N 47 c_leatref36_Update := eff_ok facts (ok_leatref32_Step N) (by kernel_rfl) (by kernel_rfl) (q_leatref36_Update N) (fun t => by kernel_rfl)
def o_leatref36_Update : List (Nat × FC) := (47, c_leatref36_Update) :: o_leatref32_Step
theorem ok_leatref36_Update (N : Nat) : OrcOK Tryz.prog o_leatref36_Update N := orc_cons (t_leatref36_Update N) (ok_leatref32_Step N)
def s_leatref50_one (_ : Nat) : List (Nat × LC) := []
noncomputable def e_leatref50_one (N : Nat) : Env := mkEnvX 0 [] Tryz.prog o_leatref36_Update (s_leatref50_one N) N
theorem q_leatref50_one (N : Nat) : LoopsFor (e_leatref50_one N) Tryz.prog 25 0 := loops_mk (by kernel_rfl) (fun j hj => match j, hj with
  | _ + 0, h => absurd h (by omega)) (fun _ => rfl)
def a_leatref50_one : List Pat := [.aggp [.grp [.int .i64, .int .i64, .int .i64, .int .i64, .int .i64, .int .i64, .int .i64, .int .i64, .int .i64, .int .i64], .sl 0, .grp [.int .i64, .int .i64, .int .i64, .int .i64, .int .i64, .int .i64, .int .i64, .int .i64], .nils, .sl 1, .sl 2, .grp [.int .i64, .int .i64, .int .i64, .int .i64, .int .i64, .int .i64, .int .i64, .int .i64, .int .i64], .grp [.int .i64, .int .i64, .int .i64, .int .i64, .int .i64, .int .i64, .int .i64, .int .i64, .int .i64], .grp [.int .i64, .int .i64, .int .i64, .int .i64, .int .i64, .int .i64, .int .i64, .int .i64, .int .i64], .grp [.int .i64, .int .i64], .sc (.int .i64), .sl 3, .sc (.int .i64), .sc (.int .i64), .sc (.int .i64), .sl 4, .sl 5], .sc (.int .i64)]
def b_leatref50_one : List HPat := [.ext 120 [.int .u32], .ext 38 [.int .i64, .int .i64, .int .i64, .int .i64, .int .i64], .ext 38 [.int .i64, .int .i64, .int .i64, .int .i64, .int .i64], .ext 120 [.int .u32], .rows 38 [.int .i64, .int .i64, .int .i64, .int .i64, .int .i64], .rows 38 [.int .i64, .int .i64, .int .i64, .int .i64, .int .i64]]
def ra_leatref50_one : List Pat := [.aggp [.grp [.int .i64, .int .i64, .int .i64, .int .i64, .int .i64, .int .i64, .int .i64, .int .i64, .int .i64, .int .i64], .sl 0, .grp [.int .i64, .int .i64, .int .i64, .int .i64, .int .i64, .int .i64, .int .i64, .int .i64], .nils, .sl 1, .sl 2, .grp [.int .i64, .int .i64, .int .i64, .int .i64, .int .i64, .int .i64, .int .i64, .int .i64, .int .i64], .grp [.int .i64, .int .i64, .int .i64, .int .i64, .int .i64, .int .i64, .int .i64, .int .i64, .int .i64], .grp [.int .i64, .int .i64, .int .i64, .int .i64, .int .i64, .int .i64, .int .i64, .int .i64, .int .i64], .grp [.int .i64, .int .i64], .sc (.int .i64), .sl 3, .sc (.int .i64), .sc (.int .i64), .sc (.int .i64), .sl 4, .sl 5], .sc (.bool)]
def rb_leatref50_one : List HPat := [.ext 120 [.int .u32], .ext 38 [.int .i64, .int .i64, .int .i64, .int .i64, .int .i64], .ext 38 [.int .i64, .int .i64, .int .i64, .int .i64, .int .i64], .ext 120 [.int .u32], .rows 38 [.int .i64, .int .i64, .int .i64, .int .i64, .int .i64], .rows 38 [.int .i64, .int .i64, .int .i64, .int .i64, .int .i64]]
def c_leatref50_one : FC := mkFCH 0 a_leatref50_one b_leatref50_one ra_leatref50_one rb_leatref50_one leatref50_one
theorem t_leatref50_one (N : Nat) : FCOK Tryz.prog N 25 c_leatref50_one := eff_ok facts (ok_leatref36_Update N) (by kernel_rfl) (by kernel_rfl) (q_leatref50_one N) (fun t => by kernel_rfl)
def o_leatref50_one : List (Nat × FC) := (25, c_leatref50_one) :: o_leatref36_Update
theorem ok_leatref50_one (N : Nat) : OrcOK Tryz.prog o_leatref50_one N := orc_cons (t_leatref50_one N) (ok_leatref36_Update N)
def s_leatref36_of (_ : Nat) : List (Nat × LC) := []
noncomputable def e_leatref36_of (N : Nat) : Env := mkEnvX 0 [] Tryz.prog o_leatref50_one (s_leatref36_of N) N
theorem q_leatref36_of (N : Nat) : LoopsFor (e_leatref36_of N) Tryz.prog 49 0 := loops_mk (by kernel_rfl) (fun j hj => match j, hj with
  | _ + 0, h => absurd h (by omega)) (fun _ => rfl)
def c_leatref36_of : FC := mkF [.agg [.int .i64, .int .i64, .int .i64, .int .i64, .int .i64]] [.sc (.int .i64)] leatref36_of
theorem t_leatref36_of (N : Nat) : FCOK Tryz.prog N 49 c_leatref36_of := fun_ok facts (ok_leatref50_one N) (by kernel_rfl) (by kernel_rfl) (q_leatref36_of N) (fun t => by kernel_rfl)
def o_leatref36_of : List (Nat × FC) := (49, c_leatref36_of) :: o_leatref50_one
theorem ok_leatref36_of (N : Nat) : OrcOK Tryz.prog o_leatref36_of N := orc_cons (t_leatref36_of N) (ok_leatref50_one N)
def p_leatref36_Bytes_6 : List Pat := [.any, .ptr 0 0, .any, .sc (.int .i64), .sc (.int .i64), .sc (.int .i64), .any, .any, .any, .any, .any, .any, .any, .any, .any, .any, .any, .any, .any, .any, .any, .any, .any, .any, .any, .any, .any, .any, .any, .any]
def h_leatref36_Bytes_6 : List HPat := [.cells [.grp [.int .i64, .int .i64, .int .i64, .int .i64, .int .i64, .int .i64, .int .i64, .int .i64], .nils, .sl 1, .sl 2, .grp [.int .i64, .int .i64, .int .i64, .int .i64, .int .i64, .int .i64, .int .i64, .int .i64, .int .i64], .grp [.int .i64, .int .i64, .int .i64, .int .i64, .int .i64, .int .i64, .int .i64, .int .i64, .int .i64], .grp [.int .i64, .int .i64, .int .i64, .int .i64, .int .i64, .int .i64, .int .i64, .int .i64, .int .i64], .grp [.int .i64, .int .i64], .sc (.int .i64), .sl 3, .sc (.int .i64)], .ext 38 [.int .i64, .int .i64, .int .i64, .int .i64, .int .i64], .ext 38 [.int .i64, .int .i64, .int .i64, .int .i64, .int .i64], .ext 120 [.int .u32]]
def x_leatref36_Bytes_6 : List XP := [⟨.exit 2, [.any, .ptr 0 0, .any, .sc (.int .i64), .sc (.int .i64), .any, .any, .any, .any, .any, .any, .any, .any, .any, .any, .any, .any, .any, .any, .any, .any, .any, .any, .any, .any, .any, .any, .any, .any, .any], [.cells [.grp [.int .i64, .int .i64, .int .i64, .int .i64, .int .i64, .int .i64, .int .i64, .int .i64], .nils, .sl 1, .sl 2, .grp [.int .i64, .int .i64, .int .i64, .int .i64, .int .i64, .int .i64, .int .i64, .int .i64, .int .i64], .grp [.int .i64, .int .i64, .int .i64, .int .i64, .int .i64, .int .i64, .int .i64, .int .i64, .int .i64], .grp [.int .i64, .int .i64, .int .i64, .int .i64, .int .i64, .int .i64, .int .i64, .int .i64, .int .i64], .grp [.int .i64, .int .i64], .sc (.int .i64), .sl 3, .sc (.int .i64)], .ext 38 [.int .i64, .int .i64, .int .i64, .int .i64, .int .i64], .ext 38 [.int .i64, .int .i64, .int .i64, .int .i64, .int .i64], .ext 120 [.int .u32]]⟩]
def lc_leatref36_Bytes_6 (N : Nat) : LC := mkLC 0 p_leatref36_Bytes_6 h_leatref36_Bytes_6 x_leatref36_Bytes_6 (leatref36_Bytes_L6 N)
def p_leatref36_Bytes_3 : List Pat := [.any, .ptr 0 0, .any, .sc (.int .i64), .sc (.int .i64), .any, .any, .any, .any, .any, .any, .any, .any, .any, .any, .any, .any, .any, .any, .any, .any, .any, .any, .any, .any, .any, .any, .any, .any, .any]
def h_leatref36_Bytes_3 : List HPat := [.cells [.grp [.int .i64, .int .i64, .int .i64, .int .i64, .int .i64, .int .i64, .int .i64, .int .i64], .nils, .sl 1, .sl 2, .grp [.int .i64, .int .i64, .int .i64, .int .i64, .int .i64, .int .i64, .int .i64, .int .i64, .int .i64], .grp [.int .i64, .int .i64, .int .i64, .int .i64, .int .i64, .int .i64, .int .i64, .int .i64, .int .i64], .grp [.int .i64, .int .i64, .int .i64, .int .i64, .int .i64, .int .i64, .int .i64, .int .i64, .int .i64], .grp [.int .i64, .int .i64], .sc (.int .i64), .sl 3, .sc (.int .i64)], .ext 38 [.int .i64, .int .i64, .int .i64, .int .i64, .int .i64], .ext 38 [.int .i64, .int .i64, .int .i64, .int .i64, .int .i64], .ext 120 [.int .u32]]
def x_leatref36_Bytes_3 : List XP := [⟨.exit 0, [.any, .any, .any, .sc (.int .i64), .any, .any, .any, .any, .any, .any, .any, .any, .any, .any, .any, .any, .any, .any, .any, .any, .any, .any, .any, .any, .any, .any, .any, .any, .any, .any], []⟩]
def lc_leatref36_Bytes_3 (N : Nat) : LC := mkLC 0 p_leatref36_Bytes_3 h_leatref36_Bytes_3 x_leatref36_Bytes_3 (leatref36_Bytes_L3 N)
def s_leatref36_Bytes (N : Nat) : List (Nat × LC) := [(6, lc_leatref36_Bytes_6 N), (3, lc_leatref36_Bytes_3 N)]
noncomputable def e_leatref36_Bytes (N : Nat) : Env := mkEnvX 0 [] Tryz.prog o_leatref36_of (s_leatref36_Bytes N) N
theorem k_leatref36_Bytes_6 (N : Nat) : LCOK (e_leatref36_Bytes N) 12 (loopAt Tryz.prog 50 1) (lc_leatref36_Bytes_6 N) := mkLC_ok rfl (by kernel_rfl) (by kernel_rfl) (fun F x => by kernel_rfl)
theorem k_leatref36_Bytes_3 (N : Nat) : LCOK (e_leatref36_Bytes N) 12 (loopAt Tryz.prog 50 0) (lc_leatref36_Bytes_3 N) := mkLC_ok rfl (by kernel_rfl) (by kernel_rfl) (fun F x => by kernel_rfl)
theorem q_leatref36_Bytes (N : Nat) : LoopsFor (e_leatref36_Bytes N) Tryz.prog 50 2 := loops_mk (by kernel_rfl) (fun j hj => match j, hj with
  | 0, _ => .inl ⟨lc_leatref36_Bytes_3 N, by kernel_rfl, k_leatref36_Bytes_3 N⟩
  | 1, _ => .inl ⟨lc_leatref36_Bytes_6 N, by kernel_rfl, k_leatref36_Bytes_6 N⟩
  | _ + 2, h => absurd h (by omega)) (fun _ => rfl)
def a_leatref36_Bytes : List Pat := [.aggp [.grp [.int .i64, .int .i64, .int .i64, .int .i64, .int .i64, .int .i64, .int .i64, .int .i64], .nils, .sl 0, .sl 1, .grp [.int .i64, .int .i64, .int .i64, .int .i64, .int .i64, .int .i64, .int .i64, .int .i64, .int .i64], .grp [.int .i64, .int .i64, .int .i64, .int .i64, .int .i64, .int .i64, .int .i64, .int .i64, .int .i64], .grp [.int .i64, .int .i64, .int .i64, .int .i64, .int .i64, .int .i64, .int .i64, .int .i64, .int .i64], .grp [.int .i64, .int .i64], .sc (.int .i64), .sl 2, .sc (.int .i64)]]
def b_leatref36_Bytes : List HPat := [.ext 38 [.int .i64, .int .i64, .int .i64, .int .i64, .int .i64], .ext 38 [.int .i64, .int .i64, .int .i64, .int .i64, .int .i64], .ext 120 [.int .u32]]
def c_leatref36_Bytes : FC := mkFC a_leatref36_Bytes b_leatref36_Bytes [.sc (.int .i64)] leatref36_Bytes
theorem t_leatref36_Bytes (N : Nat) : FCOK Tryz.prog N 50 c_leatref36_Bytes := ro_ok facts (ok_leatref36_of N) (by kernel_rfl) (by kernel_rfl) (q_leatref36_Bytes N) (fun t => by kernel_rfl)
def o_leatref36_Bytes : List (Nat × FC) := (50, c_leatref36_Bytes) :: o_leatref36_of
theorem ok_leatref36_Bytes (N : Nat) : OrcOK Tryz.prog o_leatref36_Bytes N := orc_cons (t_leatref36_Bytes N) (ok_leatref36_of N)
def s_leatref36_Put (_ : Nat) : List (Nat × LC) := []
noncomputable def e_leatref36_Put (N : Nat) : Env := mkEnvX 0 [] Tryz.prog o_leatref36_Bytes (s_leatref36_Put N) N
theorem q_leatref36_Put (N : Nat) : LoopsFor (e_leatref36_Put N) Tryz.prog 26 0 := loops_mk (by kernel_rfl) (fun j hj => match j, hj with
  | _ + 0, h => absurd h (by omega)) (fun _ => rfl)
def a_leatref36_Put : List Pat := [.aggp [.grp [.int .i64, .int .i64, .int .i64, .int .i64, .int .i64, .int .i64, .int .i64, .int .i64], .nils, .sl 0, .sl 1, .grp [.int .i64, .int .i64, .int .i64, .int .i64, .int .i64, .int .i64, .int .i64, .int .i64, .int .i64], .grp [.int .i64, .int .i64, .int .i64, .int .i64, .int .i64, .int .i64, .int .i64, .int .i64, .int .i64], .grp [.int .i64, .int .i64, .int .i64, .int .i64, .int .i64, .int .i64, .int .i64, .int .i64, .int .i64], .grp [.int .i64, .int .i64], .sc (.int .i64), .sl 2, .sc (.int .i64)], .sc (.int .i64), .agg [.int .i64, .int .i64, .int .i64, .int .i64, .int .i64]]
def b_leatref36_Put : List HPat := [.ext 38 [.int .i64, .int .i64, .int .i64, .int .i64, .int .i64], .ext 38 [.int .i64, .int .i64, .int .i64, .int .i64, .int .i64], .ext 120 [.int .u32]]
def ra_leatref36_Put : List Pat := [.aggp [.grp [.int .i64, .int .i64, .int .i64, .int .i64, .int .i64, .int .i64, .int .i64, .int .i64], .nils, .sl 0, .sl 1, .grp [.int .i64, .int .i64, .int .i64, .int .i64, .int .i64, .int .i64, .int .i64, .int .i64, .int .i64], .grp [.int .i64, .int .i64, .int .i64, .int .i64, .int .i64, .int .i64, .int .i64, .int .i64, .int .i64], .grp [.int .i64, .int .i64, .int .i64, .int .i64, .int .i64, .int .i64, .int .i64, .int .i64, .int .i64], .grp [.int .i64, .int .i64], .sc (.int .i64), .sl 2, .sc (.int .i64)], .sc (.bool)]
def rb_leatref36_Put : List HPat := [.ext 38 [.int .i64, .int .i64, .int .i64, .int .i64, .int .i64], .ext 38 [.int .i64, .int .i64, .int .i64, .int .i64, .int .i64], .ext 120 [.int .u32]]
def c_leatref36_Put : FC := mkFCH 0 a_leatref36_Put b_leatref36_Put ra_leatref36_Put rb_leatref36_Put leatref36_Put
theorem t_leatref36_Put (N : Nat) : FCOK Tryz.prog N 26 c_leatref36_Put := eff_ok facts (ok_leatref36_Bytes N) (by kernel_rfl) (by kernel_rfl) (q_leatref36_Put N) (fun t => by kernel_rfl)
def o_leatref36_Put : List (Nat × FC) := (26, c_leatref36_Put) :: o_leatref36_Bytes
theorem ok_leatref36_Put (N : Nat) : OrcOK Tryz.prog o_leatref36_Put N := orc_cons (t_leatref36_Put N) (ok_leatref36_Bytes N)
def p_leatref50_Pass_8 : List Pat := [.any, .any, .any, .any, .any, .any, .ptr 0 0, .sl 1, .sc (.int .i64), .sc (.bool), .any, .any, .any, .any, .any, .any, .any, .any, .any, .any, .any, .any, .any, .any, .any, .any, .any, .any, .any, .any, .any, .any, .any, .any, .any, .any, .any, .any, .any, .any, .any, .any, .any, .any, .any, .any, .any, .any, .any, .any, .any, .any, .any, .any, .any, .any, .any, .any, .any, .any, .any, .any, .any, .any, .any, .any, .any, .any, .any, .any, .any, .any, .any, .any, .any, .any, .any, .any, .any, .any, .any, .any, .any, .any, .any, .any, .any, .any, .any, .any, .any, .any, .any]
def h_leatref50_Pass_8 : List HPat := [.cells [.grp [.int .i64, .int .i64, .int .i64, .int .i64, .int .i64, .int .i64, .int .i64, .int .i64, .int .i64, .int .i64], .sl 2, .grp [.int .i64, .int .i64, .int .i64, .int .i64, .int .i64, .int .i64, .int .i64, .int .i64], .nils, .sl 3, .sl 4, .grp [.int .i64, .int .i64, .int .i64, .int .i64, .int .i64, .int .i64, .int .i64, .int .i64, .int .i64], .grp [.int .i64, .int .i64, .int .i64, .int .i64, .int .i64, .int .i64, .int .i64, .int .i64, .int .i64], .grp [.int .i64, .int .i64, .int .i64, .int .i64, .int .i64, .int .i64, .int .i64, .int .i64, .int .i64], .grp [.int .i64, .int .i64], .sc (.int .i64), .sl 5, .sc (.int .i64), .sc (.int .i64), .sc (.int .i64), .sl 6, .sl 7], .rows 38 [.int .i64, .int .i64, .int .i64, .int .i64, .int .i64], .ext 120 [.int .u32], .ext 38 [.int .i64, .int .i64, .int .i64, .int .i64, .int .i64], .ext 38 [.int .i64, .int .i64, .int .i64, .int .i64, .int .i64], .ext 120 [.int .u32], .rows 38 [.int .i64, .int .i64, .int .i64, .int .i64, .int .i64], .rows 38 [.int .i64, .int .i64, .int .i64, .int .i64, .int .i64]]
def x_leatref50_Pass_8 : List XP := [⟨.exit 2, [.any, .any, .any, .any, .any, .any, .ptr 0 0, .sl 1, .sc (.int .i64), .any, .any, .any, .any, .any, .any, .any, .any, .any, .any, .any, .any, .any, .any, .any, .any, .any, .any, .any, .any, .any, .any, .any, .any, .any, .any, .any, .any, .any, .any, .any, .any, .any, .any, .any, .any, .any, .any, .any, .any, .any, .any, .any, .any, .any, .any, .any, .any, .any, .any, .any, .any, .any, .any, .any, .any, .any, .any, .any, .any, .any, .any, .any, .any, .any, .any, .any, .any, .any, .any, .any, .any, .any, .any, .any, .any, .any, .any, .any, .any, .any, .any, .any, .any], [.cells [.grp [.int .i64, .int .i64, .int .i64, .int .i64, .int .i64, .int .i64, .int .i64, .int .i64, .int .i64, .int .i64], .sl 2, .grp [.int .i64, .int .i64, .int .i64, .int .i64, .int .i64, .int .i64, .int .i64, .int .i64], .nils, .sl 3, .sl 4, .grp [.int .i64, .int .i64, .int .i64, .int .i64, .int .i64, .int .i64, .int .i64, .int .i64, .int .i64], .grp [.int .i64, .int .i64, .int .i64, .int .i64, .int .i64, .int .i64, .int .i64, .int .i64, .int .i64], .grp [.int .i64, .int .i64, .int .i64, .int .i64, .int .i64, .int .i64, .int .i64, .int .i64, .int .i64], .grp [.int .i64, .int .i64], .sc (.int .i64), .sl 5, .sc (.int .i64), .sc (.int .i64), .sc (.int .i64), .sl 6, .sl 7], .rows 38 [.int .i64, .int .i64, .int .i64, .int .i64, .int .i64], .ext 120 [.int .u32], .ext 38 [.int .i64, .int .i64, .int .i64, .int .i64, .int .i64], .ext 38 [.int .i64, .int .i64, .int .i64, .int .i64, .int .i64], .ext 120 [.int .u32], .rows 38 [.int .i64, .int .i64, .int .i64, .int .i64, .int .i64], .rows 38 [.int .i64, .int .i64, .int .i64, .int .i64, .int .i64]]⟩]
def lc_leatref50_Pass_8 (N : Nat) : LC := mkLC 0 p_leatref50_Pass_8 h_leatref50_Pass_8 x_leatref50_Pass_8 (leatref50_Pass_L8 N)
def p_leatref50_Pass_5 : List Pat := [.any, .any, .any, .any, .any, .any, .ptr 0 0, .sl 1, .sc (.int .i64), .any, .any, .any, .any, .any, .any, .any, .any, .any, .any, .any, .any, .any, .any, .any, .any, .any, .any, .any, .any, .any, .any, .any, .any, .any, .any, .any, .any, .any, .any, .any, .any, .any, .any, .any, .any, .any, .any, .any, .any, .any, .any, .any, .any, .any, .any, .any, .any, .any, .any, .any, .any, .any, .any, .any, .any, .any, .any, .any, .any, .any, .any, .any, .any, .any, .any, .any, .any, .any, .any, .any, .any, .any, .any, .any, .any, .any, .any, .any, .any, .any, .any, .any, .any]
def h_leatref50_Pass_5 : List HPat := [.cells [.grp [.int .i64, .int .i64, .int .i64, .int .i64, .int .i64, .int .i64, .int .i64, .int .i64, .int .i64, .int .i64], .sl 2, .grp [.int .i64, .int .i64, .int .i64, .int .i64, .int .i64, .int .i64, .int .i64, .int .i64], .nils, .sl 3, .sl 4, .grp [.int .i64, .int .i64, .int .i64, .int .i64, .int .i64, .int .i64, .int .i64, .int .i64, .int .i64], .grp [.int .i64, .int .i64, .int .i64, .int .i64, .int .i64, .int .i64, .int .i64, .int .i64, .int .i64], .grp [.int .i64, .int .i64, .int .i64, .int .i64, .int .i64, .int .i64, .int .i64, .int .i64, .int .i64], .grp [.int .i64, .int .i64], .sc (.int .i64), .sl 5, .sc (.int .i64), .sc (.int .i64), .sc (.int .i64), .sl 6, .sl 7], .rows 38 [.int .i64, .int .i64, .int .i64, .int .i64, .int .i64], .ext 120 [.int .u32], .ext 38 [.int .i64, .int .i64, .int .i64, .int .i64, .int .i64], .ext 38 [.int .i64, .int .i64, .int .i64, .int .i64, .int .i64], .ext 120 [.int .u32], .rows 38 [.int .i64, .int .i64, .int .i64, .int .i64, .int .i64], .rows 38 [.int .i64, .int .i64, .int .i64, .int .i64, .int .i64]]
def x_leatref50_Pass_5 : List XP := [⟨.exit 0, [.any, .any, .any, .any, .any, .any, .ptr 0 0, .any, .any, .any, .any, .any, .any, .any, .any, .any, .any, .any, .any, .any, .any, .any, .any, .any, .any, .any, .any, .any, .any, .any, .any, .any, .any, .any, .any, .any, .any, .any, .any, .any, .any, .any, .any, .any, .any, .any, .any, .any, .any, .any, .any, .any, .any, .any, .any, .any, .any, .any, .any, .any, .any, .any, .any, .any, .any, .any, .any, .any, .any, .any, .any, .any, .any, .any, .any, .any, .any, .any, .any, .any, .any, .any, .any, .any, .any, .any, .any, .any, .any, .any, .any, .any, .any], [.cells [.grp [.int .i64, .int .i64, .int .i64, .int .i64, .int .i64, .int .i64, .int .i64, .int .i64, .int .i64, .int .i64], .sl 1, .grp [.int .i64, .int .i64, .int .i64, .int .i64, .int .i64, .int .i64, .int .i64, .int .i64], .nils, .sl 2, .sl 3, .grp [.int .i64, .int .i64, .int .i64, .int .i64, .int .i64, .int .i64, .int .i64, .int .i64, .int .i64], .grp [.int .i64, .int .i64, .int .i64, .int .i64, .int .i64, .int .i64, .int .i64, .int .i64, .int .i64], .grp [.int .i64, .int .i64, .int .i64, .int .i64, .int .i64, .int .i64, .int .i64, .int .i64, .int .i64], .grp [.int .i64, .int .i64], .sc (.int .i64), .sl 4, .sc (.int .i64), .sc (.int .i64), .sc (.int .i64), .sl 5, .sl 6], .ext 120 [.int .u32], .ext 38 [.int .i64, .int .i64, .int .i64, .int .i64, .int .i64], .ext 38 [.int .i64, .int .i64, .int .i64, .int .i64, .int .i64], .ext 120 [.int .u32], .rows 38 [.int .i64, .int .i64, .int .i64, .int .i64, .int .i64], .rows 38 [.int .i64, .int .i64, .int .i64, .int .i64, .int .i64]]⟩]
def lc_leatref50_Pass_5 (N : Nat) : LC := mkLC 0 p_leatref50_Pass_5 h_leatref50_Pass_5 x_leatref50_Pass_5 (leatref50_Pass_L5 N)
def p_leatref50_Pass_15 : List Pat := [.any, .any, .any, .any, .any, .any, .ptr 0 0, .any, .any, .any, .any, .any, .any, .any, .any, .any, .any, .any, .any, .any, .any, .any, .any, .any, .any, .any, .any, .any, .any, .any, .any, .any, .any, .any, .any, .any, .any, .any, .any, .any, .any, .any, .any, .any, .any, .any, .any, .any, .any, .any, .any, .any, .any, .any, .any, .any, .any, .any, .any, .any, .any, .any, .any, .any, .any, .any, .any, .any, .any, .any, .any, .any, .any, .any, .any, .any, .any, .any, .any, .any, .any, .any, .any, .any, .any, .any, .any, .any, .any, .any, .any, .any, .any]
def h_leatref50_Pass_15 : List HPat := [.cells [.grp [.int .i64, .int .i64, .int .i64, .int .i64, .int .i64, .int .i64, .int .i64, .int .i64, .int .i64, .int .i64], .sl 1, .grp [.int .i64, .int .i64, .int .i64, .int .i64, .int .i64, .int .i64, .int .i64, .int .i64], .nils, .sl 2, .sl 3, .grp [.int .i64, .int .i64, .int .i64, .int .i64, .int .i64, .int .i64, .int .i64, .int .i64, .int .i64], .grp [.int .i64, .int .i64, .int .i64, .int .i64, .int .i64, .int .i64, .int .i64, .int .i64, .int .i64], .grp [.int .i64, .int .i64, .int .i64, .int .i64, .int .i64, .int .i64, .int .i64, .int .i64, .int .i64], .grp [.int .i64, .int .i64], .sc (.int .i64), .sl 4, .sc (.int .i64), .sc (.int .i64), .sc (.int .i64), .sl 5, .sl 6], .ext 120 [.int .u32], .ext 38 [.int .i64, .int .i64, .int .i64, .int .i64, .int .i64], .ext 38 [.int .i64, .int .i64, .int .i64, .int .i64, .int .i64], .ext 120 [.int .u32], .rows 38 [.int .i64, .int .i64, .int .i64, .int .i64, .int .i64], .rows 38 [.int .i64, .int .i64, .int .i64, .int .i64, .int .i64]]
def x_leatref50_Pass_15 : List XP := [⟨.exit 4, [.any, .any, .any, .any, .any, .any, .ptr 0 0, .any, .any, .any, .any, .any, .any, .any, .any, .any, .any, .any, .any, .any, .any, .any, .any, .any, .any, .any, .any, .any, .any, .any, .any, .any, .any, .any, .any, .any, .any, .any, .any, .any, .any, .any, .any, .any, .any, .any, .any, .any, .any, .any, .any, .any, .any, .any, .any, .any, .any, .any, .any, .any, .any, .any, .any, .any, .any, .any, .any, .any, .any, .any, .any, .any, .any, .any, .any, .any, .any, .any, .any, .any, .any, .any, .any, .any, .any, .any, .any, .any, .any, .any, .any, .any, .any], [.cells [.grp [.int .i64, .int .i64, .int .i64, .int .i64, .int .i64, .int .i64, .int .i64, .int .i64, .int .i64, .int .i64], .sl 1, .grp [.int .i64, .int .i64, .int .i64, .int .i64, .int .i64, .int .i64, .int .i64, .int .i64], .nils, .sl 2, .sl 3, .grp [.int .i64, .int .i64, .int .i64, .int .i64, .int .i64, .int .i64, .int .i64, .int .i64, .int .i64], .grp [.int .i64, .int .i64, .int .i64, .int .i64, .int .i64, .int .i64, .int .i64, .int .i64, .int .i64], .grp [.int .i64, .int .i64, .int .i64, .int .i64, .int .i64, .int .i64, .int .i64, .int .i64, .int .i64], .grp [.int .i64, .int .i64], .sc (.int .i64), .sl 4, .sc (.int .i64), .sc (.int .i64), .sc (.int .i64), .sl 5, .sl 6], .ext 120 [.int .u32], .ext 38 [.int .i64, .int .i64, .int .i64, .int .i64, .int .i64], .ext 38 [.int .i64, .int .i64, .int .i64, .int .i64, .int .i64], .ext 120 [.int .u32], .rows 38 [.int .i64, .int .i64, .int .i64, .int .i64, .int .i64], .rows 38 [.int .i64, .int .i64, .int .i64, .int .i64, .int .i64]]⟩]
def lc_leatref50_Pass_15 (N : Nat) : LC := mkLC 0 p_leatref50_Pass_15 h_leatref50_Pass_15 x_leatref50_Pass_15 (leatref50_Pass_L15 N)
def s_leatref50_Pass (N : Nat) : List (Nat × LC) := [(8, lc_leatref50_Pass_8 N), (5, lc_leatref50_Pass_5 N), (15, lc_leatref50_Pass_15 N)]
noncomputable def e_leatref50_Pass (N : Nat) : Env := mkEnvX 0 [] Tryz.prog o_leatref36_Put (s_leatref50_Pass N) N
theorem k_leatref50_Pass_8 (N : Nat) : LCOK (e_leatref50_Pass N) 12 (loopAt Tryz.prog 8 1) (lc_leatref50_Pass_8 N) := mkLC_ok rfl (by kernel_rfl) (by kernel_rfl) (fun F x => by kernel_rfl)
theorem k_leatref50_Pass_5 (N : Nat) : LCOK (e_leatref50_Pass N) 12 (loopAt Tryz.prog 8 0) (lc_leatref50_Pass_5 N) := mkLC_ok rfl (by kernel_rfl) (by kernel_rfl) (fun F x => by kernel_rfl)
theorem k_leatref50_Pass_15 (N : Nat) : LCOK (e_leatref50_Pass N) 12 (loopAt Tryz.prog 8 2) (lc_leatref50_Pass_15 N) := mkLC_ok rfl (by kernel_rfl) (by kernel_rfl) (fun F x => by kernel_rfl)
theorem q_leatref50_Pass (N : Nat) : LoopsFor (e_leatref50_Pass N) Tryz.prog 8 3 := loops_mk (by kernel_rfl) (fun j hj => match j, hj with
  | 0, _ => .inl ⟨lc_leatref50_Pass_5 N, by kernel_rfl, k_leatref50_Pass_5 N⟩
  | 1, _ => .inl ⟨lc_leatref50_Pass_8 N, by kernel_rfl, k_leatref50_Pass_8 N⟩
  | 2, _ => .inl ⟨lc_leatref50_Pass_15 N, by kernel_rfl, k_leatref50_Pass_15 N⟩
  | _ + 3, h => absurd h (by omega)) (fun _ => rfl)
def c_leatref50_Pass : FC := mkF [.aggs [.int .i64, .int .i64, .int .i64, .int .i64, .int .i64, .int .i64, .int .i64, .int .i64, .int .i64, .int .i64] 120 [.int .u32], .row 38 [.int .i64, .int .i64, .int .i64, .int .i64, .int .i64]] [.row 38 [.int .i64, .int .i64, .int .i64, .int .i64, .int .i64], .row 38 [.int .i64, .int .i64, .int .i64, .int .i64, .int .i64]] leatref50_Pass
theorem t_leatref50_Pass (N : Nat) : FCOK Tryz.prog N 8 c_leatref50_Pass := fun_ok facts (ok_leatref36_Put N) (by kernel_rfl) (by kernel_rfl) (q_leatref50_Pass N) (fun t => by kernel_rfl)
def o_leatref50_Pass : List (Nat × FC) := (8, c_leatref50_Pass) :: o_leatref36_Put
theorem ok_leatref50_Pass (N : Nat) : OrcOK Tryz.prog o_leatref50_Pass N := orc_cons (t_leatref50_Pass N) (ok_leatref36_Put N)
end Go.Proofs.YtgjmfljogaanfaaGreat.W
