/- The functions of the seat, as the evaluator tells them, each with its contract. Printed by genW.py. -/
import Derived.Test.YteidghhjccohdaaW0
import Derived.Test.YteidghhjccohdaaRows
set_option maxRecDepth 100000
namespace Go.Proofs.Yteidghhjccohdaa.W
open Go.Ev Go.RowKit
theorem facts : Facts Try.prog := ⟨by kernel_rfl, names_of (by kernel_rfl)⟩
def o_0 : List (Nat × FC) := []
theorem ok_0 (N : Nat) : OrcOK Try.prog o_0 N := orc_nil
def s_sat_Clamp (_ : Nat) : List (Nat × LC) := []
noncomputable def e_sat_Clamp (N : Nat) : Env := mkEnvX 0 [] Try.prog o_0 (s_sat_Clamp N) N
theorem q_sat_Clamp (N : Nat) : LoopsFor (e_sat_Clamp N) Try.prog 33 0 := ⟨by kernel_rfl, fun j hj => match j, hj with
  | _ + 0, h => absurd h (by omega)⟩
def c_sat_Clamp : FC := mkF [.sc (.int .i64), .sc (.int .i64), .sc (.int .i64)] [.sc (.int .i64)] sat_Clamp
theorem t_sat_Clamp (N : Nat) : FCOK Try.prog N 33 c_sat_Clamp := fun_ok facts (ok_0 N) (by kernel_rfl) (by kernel_rfl) (q_sat_Clamp N) (fun t => by kernel_rfl)
def o_sat_Clamp : List (Nat × FC) := (33, c_sat_Clamp) :: o_0
theorem ok_sat_Clamp (N : Nat) : OrcOK Try.prog o_sat_Clamp N := orc_cons (t_sat_Clamp N) (ok_0 N)
def s_dual_Limit (_ : Nat) : List (Nat × LC) := []
noncomputable def e_dual_Limit (N : Nat) : Env := mkEnvX 0 [] Try.prog o_sat_Clamp (s_dual_Limit N) N
theorem q_dual_Limit (N : Nat) : LoopsFor (e_dual_Limit N) Try.prog 23 0 := ⟨by kernel_rfl, fun j hj => match j, hj with
  | _ + 0, h => absurd h (by omega)⟩
def c_dual_Limit : FC := mkF [.agg [.int .i64, .int .i64, .int .i64, .int .i64, .int .i64, .int .i64, .int .i64, .int .i64]] [.agg [.int .i64, .int .i64, .int .i64, .int .i64, .int .i64, .int .i64, .int .i64, .int .i64]] dual_Limit
theorem t_dual_Limit (N : Nat) : FCOK Try.prog N 23 c_dual_Limit := fun_ok facts (ok_sat_Clamp N) (by kernel_rfl) (by kernel_rfl) (q_dual_Limit N) (fun t => by kernel_rfl)
def o_dual_Limit : List (Nat × FC) := (23, c_dual_Limit) :: o_sat_Clamp
theorem ok_dual_Limit (N : Nat) : OrcOK Try.prog o_dual_Limit N := orc_cons (t_dual_Limit N) (ok_sat_Clamp N)
def c_slices_Clone_uint32_uint32 : FC := cloneC 91 [.int .u32] 4
noncomputable def cl_slices_Clone_uint32_uint32 : CloneAt Try.prog 43 24 := { fn := Try.f43, i0 := 0, i1 := 1, o0 := cOp0 (bodyOf Try.prog 43), o1 := cOpI 0 (bodyOf Try.prog 43), o2 := cOpI 1 (bodyOf Try.prog 43), C := cC (bodyOf Try.prog 43), D := cD (bodyOf Try.prog 43), hfn := Try.func43, hb := by kernel_rfl, hn := by kernel_rfl, h0 := ⟨by kernel_rfl, by kernel_rfl, by kernel_rfl⟩, h1 := ⟨by kernel_rfl, by kernel_rfl, by kernel_rfl⟩, h2 := ⟨by kernel_rfl, by kernel_rfl, by kernel_rfl⟩ }
theorem t_slices_Clone_uint32_uint32 (N : Nat) : FCOK Try.prog N 43 c_slices_Clone_uint32_uint32 := clone_ok cl_slices_Clone_uint32_uint32 facts (by kernel_rfl) (by kernel_rfl) (by decide) (LoopsOK_none (by kernel_rfl)) (LoopsOK_none (by kernel_rfl)) (by kernel_rfl) (fun xs => by kernel_rfl)
def o_slices_Clone_uint32_uint32 : List (Nat × FC) := (43, c_slices_Clone_uint32_uint32) :: o_dual_Limit
theorem ok_slices_Clone_uint32_uint32 (N : Nat) : OrcOK Try.prog o_slices_Clone_uint32_uint32 N := orc_cons (t_slices_Clone_uint32_uint32 N) (ok_dual_Limit N)
def s_ring_New_api_Packet (_ : Nat) : List (Nat × LC) := []
noncomputable def e_ring_New_api_Packet (N : Nat) : Env := mkEnvX 0 [] Try.prog o_slices_Clone_uint32_uint32 (s_ring_New_api_Packet N) N
theorem q_ring_New_api_Packet (N : Nat) : LoopsFor (e_ring_New_api_Packet N) Try.prog 25 0 := ⟨by kernel_rfl, fun j hj => match j, hj with
  | _ + 0, h => absurd h (by omega)⟩
def a_ring_New_api_Packet : List Pat := [.sc (.int .i64)]
def b_ring_New_api_Packet : List HPat := []
def ra_ring_New_api_Packet : List Pat := [.ptr 0 0]
def rb_ring_New_api_Packet : List HPat := [.cells [.sl 1, .sc (.int .i64), .sc (.int .i64), .sc (.int .i64)], .rows 29 [.int .i64, .int .i64, .int .i64, .int .i64, .int .i64]]
def c_ring_New_api_Packet : FC := mkFCH 0 a_ring_New_api_Packet b_ring_New_api_Packet ra_ring_New_api_Packet rb_ring_New_api_Packet ring_New_api_Packet
theorem t_ring_New_api_Packet (N : Nat) : FCOK Try.prog N 25 c_ring_New_api_Packet := eff_ok facts (ok_slices_Clone_uint32_uint32 N) (by kernel_rfl) (by kernel_rfl) (q_ring_New_api_Packet N) (fun t => by kernel_rfl)
def o_ring_New_api_Packet : List (Nat × FC) := (25, c_ring_New_api_Packet) :: o_slices_Clone_uint32_uint32
theorem ok_ring_New_api_Packet (N : Nat) : OrcOK Try.prog o_ring_New_api_Packet N := orc_cons (t_ring_New_api_Packet N) (ok_slices_Clone_uint32_uint32 N)
def s_dual_New (_ : Nat) : List (Nat × LC) := []
noncomputable def e_dual_New (N : Nat) : Env := mkEnvX 0 [] Try.prog o_ring_New_api_Packet (s_dual_New N) N
theorem q_dual_New (N : Nat) : LoopsFor (e_dual_New N) Try.prog 7 1 := ⟨by kernel_rfl, fun j hj => match j, hj with
  | 0, _ => .inr (by kernel_rfl)
  | _ + 1, h => absurd h (by omega)⟩
def a_dual_New : List Pat := [.agg [.int .i64, .int .i64, .int .i64, .int .i64, .int .i64, .int .i64, .int .i64, .int .i64], .sl 0]
def b_dual_New : List HPat := [.ext 91 [.int .u32]]
def ra_dual_New : List Pat := [.ptr 0 0]
def rb_dual_New : List HPat := [.cells [.grp [.int .i64, .int .i64, .int .i64, .int .i64, .int .i64, .int .i64, .int .i64, .int .i64], .nilp, .ptr 1 0, .ptr 2 0, .grp [.int .i64, .int .i64, .int .i64, .int .i64, .int .i64, .int .i64, .int .i64, .int .i64, .int .i64], .grp [.int .i64, .int .i64, .int .i64, .int .i64, .int .i64, .int .i64, .int .i64, .int .i64, .int .i64], .grp [.int .i64, .int .i64, .int .i64, .int .i64, .int .i64, .int .i64, .int .i64, .int .i64, .int .i64], .grp [.int .i64, .int .i64], .sc (.int .i64), .ptr 3 0], .cells [.sl 6, .sc (.int .i64), .sc (.int .i64), .sc (.int .i64)], .cells [.sl 7, .sc (.int .i64), .sc (.int .i64), .sc (.int .i64)], .cells [.fn 44 [(4, 0), (5, 0)], .sc (.int .i64)], .cells [.sl 8], .cells [.sc (.int .i64)], .rows 29 [.int .i64, .int .i64, .int .i64, .int .i64, .int .i64], .rows 29 [.int .i64, .int .i64, .int .i64, .int .i64, .int .i64], .ext 91 [.int .u32]]
def c_dual_New : FC := mkFCH 0 a_dual_New b_dual_New ra_dual_New rb_dual_New dual_New
theorem t_dual_New (N : Nat) : FCOK Try.prog N 7 c_dual_New := eff_ok facts (ok_ring_New_api_Packet N) (by kernel_rfl) (by kernel_rfl) (q_dual_New N) (fun t => by kernel_rfl)
def o_dual_New : List (Nat × FC) := (7, c_dual_New) :: o_ring_New_api_Packet
theorem ok_dual_New (N : Nat) : OrcOK Try.prog o_dual_New N := orc_cons (t_dual_New N) (ok_ring_New_api_Packet N)
def s_dual_Queue_Tally (_ : Nat) : List (Nat × LC) := []
noncomputable def e_dual_Queue_Tally (N : Nat) : Env := mkEnvX 0 [] Try.prog o_dual_New (s_dual_Queue_Tally N) N
theorem q_dual_Queue_Tally (N : Nat) : LoopsFor (e_dual_Queue_Tally N) Try.prog 11 0 := ⟨by kernel_rfl, fun j hj => match j, hj with
  | _ + 0, h => absurd h (by omega)⟩
def a_dual_Queue_Tally : List Pat := [.ptr 0 0, .sc (.int .i64)]
def b_dual_Queue_Tally : List HPat := [.rcells [.grp [.int .i64, .int .i64, .int .i64, .int .i64, .int .i64, .int .i64, .int .i64, .int .i64], .nilp, .any, .any, .grp [.int .i64, .int .i64, .int .i64, .int .i64, .int .i64, .int .i64, .int .i64, .int .i64, .int .i64], .grp [.int .i64, .int .i64, .int .i64, .int .i64, .int .i64, .int .i64, .int .i64, .int .i64, .int .i64], .grp [.int .i64, .int .i64, .int .i64, .int .i64, .int .i64, .int .i64, .int .i64, .int .i64, .int .i64], .grp [.int .i64, .int .i64], .sc (.int .i64), .any]]
def c_dual_Queue_Tally : FC := mkFC a_dual_Queue_Tally b_dual_Queue_Tally [.agg [.int .i64, .int .i64, .int .i64, .int .i64, .int .i64, .int .i64, .int .i64, .int .i64, .int .i64]] dual_Queue_Tally
theorem t_dual_Queue_Tally (N : Nat) : FCOK Try.prog N 11 c_dual_Queue_Tally := ro_ok facts (ok_dual_New N) (by kernel_rfl) (by kernel_rfl) (q_dual_Queue_Tally N) (fun t => by kernel_rfl)
def o_dual_Queue_Tally : List (Nat × FC) := (11, c_dual_Queue_Tally) :: o_dual_New
theorem ok_dual_Queue_Tally (N : Nat) : OrcOK Try.prog o_dual_Queue_Tally N := orc_cons (t_dual_Queue_Tally N) (ok_dual_New N)
def s_dual_Queue_Waits (_ : Nat) : List (Nat × LC) := []
noncomputable def e_dual_Queue_Waits (N : Nat) : Env := mkEnvX 0 [] Try.prog o_dual_Queue_Tally (s_dual_Queue_Waits N) N
theorem q_dual_Queue_Waits (N : Nat) : LoopsFor (e_dual_Queue_Waits N) Try.prog 22 0 := ⟨by kernel_rfl, fun j hj => match j, hj with
  | _ + 0, h => absurd h (by omega)⟩
def a_dual_Queue_Waits : List Pat := [.ptr 0 0]
def b_dual_Queue_Waits : List HPat := [.rcells [.grp [.int .i64, .int .i64, .int .i64, .int .i64, .int .i64, .int .i64, .int .i64, .int .i64], .nilp, .any, .any, .grp [.int .i64, .int .i64, .int .i64, .int .i64, .int .i64, .int .i64, .int .i64, .int .i64, .int .i64], .grp [.int .i64, .int .i64, .int .i64, .int .i64, .int .i64, .int .i64, .int .i64, .int .i64, .int .i64], .grp [.int .i64, .int .i64, .int .i64, .int .i64, .int .i64, .int .i64, .int .i64, .int .i64, .int .i64], .grp [.int .i64, .int .i64], .sc (.int .i64), .any]]
def c_dual_Queue_Waits : FC := mkFC a_dual_Queue_Waits b_dual_Queue_Waits [.sc (.bool)] dual_Queue_Waits
theorem t_dual_Queue_Waits (N : Nat) : FCOK Try.prog N 22 c_dual_Queue_Waits := ro_ok facts (ok_dual_Queue_Tally N) (by kernel_rfl) (by kernel_rfl) (q_dual_Queue_Waits N) (fun t => by kernel_rfl)
def o_dual_Queue_Waits : List (Nat × FC) := (22, c_dual_Queue_Waits) :: o_dual_Queue_Tally
theorem ok_dual_Queue_Waits (N : Nat) : OrcOK Try.prog o_dual_Queue_Waits N := orc_cons (t_dual_Queue_Waits N) (ok_dual_Queue_Tally N)
def s_ring_Ring_api_Packet_At (_ : Nat) : List (Nat × LC) := []
noncomputable def e_ring_Ring_api_Packet_At (N : Nat) : Env := mkEnvX 0 [] Try.prog o_dual_Queue_Waits (s_ring_Ring_api_Packet_At N) N
theorem q_ring_Ring_api_Packet_At (N : Nat) : LoopsFor (e_ring_Ring_api_Packet_At N) Try.prog 68 0 := ⟨by kernel_rfl, fun j hj => match j, hj with
  | _ + 0, h => absurd h (by omega)⟩
def a_ring_Ring_api_Packet_At : List Pat := [.ptr 0 0, .sc (.int .i64)]
def b_ring_Ring_api_Packet_At : List HPat := [.rcells [.sl 1, .sc (.int .i64), .sc (.int .i64), .sc (.int .i64)], .ext 29 [.int .i64, .int .i64, .int .i64, .int .i64, .int .i64]]
def c_ring_Ring_api_Packet_At : FC := mkFC a_ring_Ring_api_Packet_At b_ring_Ring_api_Packet_At [.agg [.int .i64, .int .i64, .int .i64, .int .i64, .int .i64], .sc (.bool)] ring_Ring_api_Packet_At
theorem t_ring_Ring_api_Packet_At (N : Nat) : FCOK Try.prog N 68 c_ring_Ring_api_Packet_At := ro_ok facts (ok_dual_Queue_Waits N) (by kernel_rfl) (by kernel_rfl) (q_ring_Ring_api_Packet_At N) (fun t => by kernel_rfl)
def o_ring_Ring_api_Packet_At : List (Nat × FC) := (68, c_ring_Ring_api_Packet_At) :: o_dual_Queue_Waits
theorem ok_ring_Ring_api_Packet_At (N : Nat) : OrcOK Try.prog o_ring_Ring_api_Packet_At N := orc_cons (t_ring_Ring_api_Packet_At N) (ok_dual_Queue_Waits N)
def s_ring_Ring_api_Packet_Front (_ : Nat) : List (Nat × LC) := []
noncomputable def e_ring_Ring_api_Packet_Front (N : Nat) : Env := mkEnvX 0 [] Try.prog o_ring_Ring_api_Packet_At (s_ring_Ring_api_Packet_Front N) N
theorem q_ring_Ring_api_Packet_Front (N : Nat) : LoopsFor (e_ring_Ring_api_Packet_Front N) Try.prog 47 0 := ⟨by kernel_rfl, fun j hj => match j, hj with
  | _ + 0, h => absurd h (by omega)⟩
def a_ring_Ring_api_Packet_Front : List Pat := [.ptr 0 0]
def b_ring_Ring_api_Packet_Front : List HPat := [.rcells [.sl 1, .sc (.int .i64), .sc (.int .i64), .sc (.int .i64)], .ext 29 [.int .i64, .int .i64, .int .i64, .int .i64, .int .i64]]
def c_ring_Ring_api_Packet_Front : FC := mkFC a_ring_Ring_api_Packet_Front b_ring_Ring_api_Packet_Front [.agg [.int .i64, .int .i64, .int .i64, .int .i64, .int .i64], .sc (.bool)] ring_Ring_api_Packet_Front
theorem t_ring_Ring_api_Packet_Front (N : Nat) : FCOK Try.prog N 47 c_ring_Ring_api_Packet_Front := ro_ok facts (ok_ring_Ring_api_Packet_At N) (by kernel_rfl) (by kernel_rfl) (q_ring_Ring_api_Packet_Front N) (fun t => by kernel_rfl)
def o_ring_Ring_api_Packet_Front : List (Nat × FC) := (47, c_ring_Ring_api_Packet_Front) :: o_ring_Ring_api_Packet_At
theorem ok_ring_Ring_api_Packet_Front (N : Nat) : OrcOK Try.prog o_ring_Ring_api_Packet_Front N := orc_cons (t_ring_Ring_api_Packet_Front N) (ok_ring_Ring_api_Packet_At N)
def s_dual_Queue_size (_ : Nat) : List (Nat × LC) := []
noncomputable def e_dual_Queue_size (N : Nat) : Env := mkEnvX 0 [] Try.prog o_ring_Ring_api_Packet_Front (s_dual_Queue_size N) N
theorem q_dual_Queue_size (N : Nat) : LoopsFor (e_dual_Queue_size N) Try.prog 27 0 := ⟨by kernel_rfl, fun j hj => match j, hj with
  | _ + 0, h => absurd h (by omega)⟩
def a_dual_Queue_size : List Pat := [.ptr 0 0, .sc (.int .i64)]
def b_dual_Queue_size : List HPat := [.rcells [.grp [.int .i64, .int .i64, .int .i64, .int .i64, .int .i64, .int .i64, .int .i64, .int .i64], .nilp, .ptr 1 0, .ptr 2 0, .grp [.int .i64, .int .i64, .int .i64, .int .i64, .int .i64, .int .i64, .int .i64, .int .i64, .int .i64], .grp [.int .i64, .int .i64, .int .i64, .int .i64, .int .i64, .int .i64, .int .i64, .int .i64, .int .i64], .grp [.int .i64, .int .i64, .int .i64, .int .i64, .int .i64, .int .i64, .int .i64, .int .i64, .int .i64], .grp [.int .i64, .int .i64], .sc (.int .i64), .any], .rcells [.sl 3, .sc (.int .i64), .sc (.int .i64), .sc (.int .i64)], .rcells [.sl 4, .sc (.int .i64), .sc (.int .i64), .sc (.int .i64)], .ext 29 [.int .i64, .int .i64, .int .i64, .int .i64, .int .i64], .ext 29 [.int .i64, .int .i64, .int .i64, .int .i64, .int .i64]]
def c_dual_Queue_size : FC := mkFC a_dual_Queue_size b_dual_Queue_size [.sc (.int .i64)] dual_Queue_size
theorem t_dual_Queue_size (N : Nat) : FCOK Try.prog N 27 c_dual_Queue_size := ro_ok facts (ok_ring_Ring_api_Packet_Front N) (by kernel_rfl) (by kernel_rfl) (q_dual_Queue_size N) (fun t => by kernel_rfl)
def o_dual_Queue_size : List (Nat × FC) := (27, c_dual_Queue_size) :: o_ring_Ring_api_Packet_Front
theorem ok_dual_Queue_size (N : Nat) : OrcOK Try.prog o_dual_Queue_size N := orc_cons (t_dual_Queue_size N) (ok_ring_Ring_api_Packet_Front N)
def s_turn_size (_ : Nat) : List (Nat × LC) := []
noncomputable def e_turn_size (N : Nat) : Env := mkEnvX 0 [] Try.prog o_dual_Queue_size (s_turn_size N) N
theorem q_turn_size (N : Nat) : LoopsFor (e_turn_size N) Try.prog 45 0 := ⟨by kernel_rfl, fun j hj => match j, hj with
  | _ + 0, h => absurd h (by omega)⟩
def c_turn_size : FC := mkF [.sc (.int .i64)] [.sc (.int .i64)] turn_size
theorem t_turn_size (N : Nat) : FCOK Try.prog N 45 c_turn_size := fun_ok facts (ok_dual_Queue_size N) (by kernel_rfl) (by kernel_rfl) (q_turn_size N) (fun t => by kernel_rfl)
def o_turn_size : List (Nat × FC) := (45, c_turn_size) :: o_dual_Queue_size
theorem ok_turn_size (N : Nat) : OrcOK Try.prog o_turn_size N := orc_cons (t_turn_size N) (ok_dual_Queue_size N)
def s_turn_owed (_ : Nat) : List (Nat × LC) := []
noncomputable def e_turn_owed (N : Nat) : Env := mkEnvX 0 [] Try.prog o_turn_size (s_turn_owed N) N
theorem q_turn_owed (N : Nat) : LoopsFor (e_turn_owed N) Try.prog 46 0 := ⟨by kernel_rfl, fun j hj => match j, hj with
  | _ + 0, h => absurd h (by omega)⟩
def c_turn_owed : FC := mkF [.agg [.int .i64]] [.sc (.int .i64)] turn_owed
theorem t_turn_owed (N : Nat) : FCOK Try.prog N 46 c_turn_owed := fun_ok facts (ok_turn_size N) (by kernel_rfl) (by kernel_rfl) (q_turn_owed N) (fun t => by kernel_rfl)
def o_turn_owed : List (Nat × FC) := (46, c_turn_owed) :: o_turn_size
theorem ok_turn_owed (N : Nat) : OrcOK Try.prog o_turn_owed N := orc_cons (t_turn_owed N) (ok_turn_size N)
def s_turn_Pick (_ : Nat) : List (Nat × LC) := []
noncomputable def e_turn_Pick (N : Nat) : Env := mkEnvX 0 [] Try.prog o_turn_owed (s_turn_Pick N) N
theorem q_turn_Pick (N : Nat) : LoopsFor (e_turn_Pick N) Try.prog 26 0 := ⟨by kernel_rfl, fun j hj => match j, hj with
  | _ + 0, h => absurd h (by omega)⟩
def c_turn_Pick : FC := mkF [.agg [.int .i64], .sc (.int .i64), .sc (.int .i64)] [.sc (.int .i64)] turn_Pick
theorem t_turn_Pick (N : Nat) : FCOK Try.prog N 26 c_turn_Pick := fun_ok facts (ok_turn_owed N) (by kernel_rfl) (by kernel_rfl) (q_turn_Pick N) (fun t => by kernel_rfl)
def o_turn_Pick : List (Nat × FC) := (26, c_turn_Pick) :: o_turn_owed
theorem ok_turn_Pick (N : Nat) : OrcOK Try.prog o_turn_Pick N := orc_cons (t_turn_Pick N) (ok_turn_owed N)
def s_dual_Queue_delay (_ : Nat) : List (Nat × LC) := []
noncomputable def e_dual_Queue_delay (N : Nat) : Env := mkEnvX 0 [] Try.prog o_turn_Pick (s_dual_Queue_delay N) N
theorem q_dual_Queue_delay (N : Nat) : LoopsFor (e_dual_Queue_delay N) Try.prog 28 0 := ⟨by kernel_rfl, fun j hj => match j, hj with
  | _ + 0, h => absurd h (by omega)⟩
def a_dual_Queue_delay : List Pat := [.ptr 0 0, .sc (.int .i64), .sc (.int .i64)]
def b_dual_Queue_delay : List HPat := [.rcells [.grp [.int .i64, .int .i64, .int .i64, .int .i64, .int .i64, .int .i64, .int .i64, .int .i64], .nilp, .ptr 1 0, .ptr 2 0, .grp [.int .i64, .int .i64, .int .i64, .int .i64, .int .i64, .int .i64, .int .i64, .int .i64, .int .i64], .grp [.int .i64, .int .i64, .int .i64, .int .i64, .int .i64, .int .i64, .int .i64, .int .i64, .int .i64], .grp [.int .i64, .int .i64, .int .i64, .int .i64, .int .i64, .int .i64, .int .i64, .int .i64, .int .i64], .grp [.int .i64, .int .i64], .sc (.int .i64), .any], .rcells [.sl 3, .sc (.int .i64), .sc (.int .i64), .sc (.int .i64)], .rcells [.sl 4, .sc (.int .i64), .sc (.int .i64), .sc (.int .i64)], .ext 29 [.int .i64, .int .i64, .int .i64, .int .i64, .int .i64], .ext 29 [.int .i64, .int .i64, .int .i64, .int .i64, .int .i64]]
def c_dual_Queue_delay : FC := mkFC a_dual_Queue_delay b_dual_Queue_delay [.sc (.int .i64)] dual_Queue_delay
theorem t_dual_Queue_delay (N : Nat) : FCOK Try.prog N 28 c_dual_Queue_delay := ro_ok facts (ok_turn_Pick N) (by kernel_rfl) (by kernel_rfl) (q_dual_Queue_delay N) (fun t => by kernel_rfl)
def o_dual_Queue_delay : List (Nat × FC) := (28, c_dual_Queue_delay) :: o_turn_Pick
theorem ok_dual_Queue_delay (N : Nat) : OrcOK Try.prog o_dual_Queue_delay N := orc_cons (t_dual_Queue_delay N) (ok_turn_Pick N)
def s_ring_Ring_api_Packet_Pop (_ : Nat) : List (Nat × LC) := []
noncomputable def e_ring_Ring_api_Packet_Pop (N : Nat) : Env := mkEnvX 1 [] Try.prog o_dual_Queue_delay (s_ring_Ring_api_Packet_Pop N) N
theorem q_ring_Ring_api_Packet_Pop (N : Nat) : LoopsFor (e_ring_Ring_api_Packet_Pop N) Try.prog 48 0 := ⟨by kernel_rfl, fun j hj => match j, hj with
  | _ + 0, h => absurd h (by omega)⟩
def a_ring_Ring_api_Packet_Pop : List Pat := [.ptr 0 0]
def b_ring_Ring_api_Packet_Pop : List HPat := [.cells [.sl 1, .sc (.int .i64), .sc (.int .i64), .sc (.int .i64)], .rows 29 [.int .i64, .int .i64, .int .i64, .int .i64, .int .i64]]
def ra_ring_Ring_api_Packet_Pop : List Pat := [.agg [.int .i64, .int .i64, .int .i64, .int .i64, .int .i64], .sc (.bool)]
def rb_ring_Ring_api_Packet_Pop : List HPat := [.cells [.sl 1, .sc (.int .i64), .sc (.int .i64), .sc (.int .i64)], .rows 29 [.int .i64, .int .i64, .int .i64, .int .i64, .int .i64]]
def c_ring_Ring_api_Packet_Pop : FC := mkFCH 1 a_ring_Ring_api_Packet_Pop b_ring_Ring_api_Packet_Pop ra_ring_Ring_api_Packet_Pop rb_ring_Ring_api_Packet_Pop ring_Ring_api_Packet_Pop
theorem t_ring_Ring_api_Packet_Pop (N : Nat) : FCOK Try.prog N 48 c_ring_Ring_api_Packet_Pop := eff_ok facts (ok_dual_Queue_delay N) (by kernel_rfl) (by kernel_rfl) (q_ring_Ring_api_Packet_Pop N) (fun t => by kernel_rfl)
def o_ring_Ring_api_Packet_Pop : List (Nat × FC) := (48, c_ring_Ring_api_Packet_Pop) :: o_dual_Queue_delay
theorem ok_ring_Ring_api_Packet_Pop (N : Nat) : OrcOK Try.prog o_ring_Ring_api_Packet_Pop N := orc_cons (t_ring_Ring_api_Packet_Pop N) (ok_dual_Queue_delay N)
def s_couple_within_1 (_ : Nat) : List (Nat × LC) := []
noncomputable def e_couple_within_1 (N : Nat) : Env := mkEnvX 0 [] Try.prog o_ring_Ring_api_Packet_Pop (s_couple_within_1 N) N
theorem q_couple_within_1 (N : Nat) : LoopsFor (e_couple_within_1 N) Try.prog 86 0 := ⟨by kernel_rfl, fun j hj => match j, hj with
  | _ + 0, h => absurd h (by omega)⟩
def c_couple_within_1 : FC := mkF [.sc (.int .i64), .sc (.int .i64)] [.sc (.int .i64)] couple_within_1
theorem t_couple_within_1 (N : Nat) : FCOK Try.prog N 86 c_couple_within_1 := fun_ok facts (ok_ring_Ring_api_Packet_Pop N) (by kernel_rfl) (by kernel_rfl) (q_couple_within_1 N) (fun t => by kernel_rfl)
def o_couple_within_1 : List (Nat × FC) := (86, c_couple_within_1) :: o_ring_Ring_api_Packet_Pop
theorem ok_couple_within_1 (N : Nat) : OrcOK Try.prog o_couple_within_1 N := orc_cons (t_couple_within_1 N) (ok_ring_Ring_api_Packet_Pop N)
def s_couple_within (_ : Nat) : List (Nat × LC) := []
noncomputable def e_couple_within (N : Nat) : Env := mkEnvX 0 [] Try.prog o_couple_within_1 (s_couple_within N) N
theorem q_couple_within (N : Nat) : LoopsFor (e_couple_within N) Try.prog 71 0 := ⟨by kernel_rfl, fun j hj => match j, hj with
  | _ + 0, h => absurd h (by omega)⟩
def c_couple_within : FC := mkF [.sc (.int .i64), .sc (.int .i64)] [.sc (.int .i64), .sc (.int .i64)] couple_within
theorem t_couple_within (N : Nat) : FCOK Try.prog N 71 c_couple_within := fun_ok facts (ok_couple_within_1 N) (by kernel_rfl) (by kernel_rfl) (q_couple_within N) (fun t => by kernel_rfl)
def o_couple_within : List (Nat × FC) := (71, c_couple_within) :: o_couple_within_1
theorem ok_couple_within (N : Nat) : OrcOK Try.prog o_couple_within N := orc_cons (t_couple_within N) (ok_couple_within_1 N)
def s_bits_Mul64 (_ : Nat) : List (Nat × LC) := []
noncomputable def e_bits_Mul64 (N : Nat) : Env := mkEnvX 0 [] Try.prog o_couple_within (s_bits_Mul64 N) N
theorem q_bits_Mul64 (N : Nat) : LoopsFor (e_bits_Mul64 N) Try.prog 99 0 := ⟨by kernel_rfl, fun j hj => match j, hj with
  | _ + 0, h => absurd h (by omega)⟩
def c_bits_Mul64 : FC := mkF [.sc (.int .u64), .sc (.int .u64)] [.sc (.int .u64), .sc (.int .u64)] bits_Mul64
theorem t_bits_Mul64 (N : Nat) : FCOK Try.prog N 99 c_bits_Mul64 := fun_ok facts (ok_couple_within N) (by kernel_rfl) (by kernel_rfl) (q_bits_Mul64 N) (fun t => by kernel_rfl)
def o_bits_Mul64 : List (Nat × FC) := (99, c_bits_Mul64) :: o_couple_within
theorem ok_bits_Mul64 (N : Nat) : OrcOK Try.prog o_bits_Mul64 N := orc_cons (t_bits_Mul64 N) (ok_couple_within N)
def s_wide_Mul (_ : Nat) : List (Nat × LC) := []
noncomputable def e_wide_Mul (N : Nat) : Env := mkEnvX 0 [] Try.prog o_bits_Mul64 (s_wide_Mul N) N
theorem q_wide_Mul (N : Nat) : LoopsFor (e_wide_Mul N) Try.prog 95 0 := ⟨by kernel_rfl, fun j hj => match j, hj with
  | _ + 0, h => absurd h (by omega)⟩
def c_wide_Mul : FC := mkF [.sc (.int .u64), .sc (.int .u64)] [.agg [.int .u64, .int .u64]] wide_Mul
theorem t_wide_Mul (N : Nat) : FCOK Try.prog N 95 c_wide_Mul := fun_ok facts (ok_bits_Mul64 N) (by kernel_rfl) (by kernel_rfl) (q_wide_Mul N) (fun t => by kernel_rfl)
def o_wide_Mul : List (Nat × FC) := (95, c_wide_Mul) :: o_bits_Mul64
theorem ok_wide_Mul (N : Nat) : OrcOK Try.prog o_wide_Mul N := orc_cons (t_wide_Mul N) (ok_bits_Mul64 N)
def s_bits_Len64 (_ : Nat) : List (Nat × LC) := []
noncomputable def e_bits_Len64 (N : Nat) : Env := mkEnvX 0 [] Try.prog o_wide_Mul (s_bits_Len64 N) N
theorem q_bits_Len64 (N : Nat) : LoopsFor (e_bits_Len64 N) Try.prog 104 0 := ⟨by kernel_rfl, fun j hj => match j, hj with
  | _ + 0, h => absurd h (by omega)⟩
def c_bits_Len64 : FC := mkF [.sc (.int .u64)] [.sc (.int .i64)] bits_Len64
theorem t_bits_Len64 (N : Nat) : FCOK Try.prog N 104 c_bits_Len64 := fun_ok facts (ok_wide_Mul N) (by kernel_rfl) (by kernel_rfl) (q_bits_Len64 N) (fun t => by kernel_rfl)
def o_bits_Len64 : List (Nat × FC) := (104, c_bits_Len64) :: o_wide_Mul
theorem ok_bits_Len64 (N : Nat) : OrcOK Try.prog o_bits_Len64 N := orc_cons (t_bits_Len64 N) (ok_wide_Mul N)
def s_bits_LeadingZeros64 (_ : Nat) : List (Nat × LC) := []
noncomputable def e_bits_LeadingZeros64 (N : Nat) : Env := mkEnvX 0 [] Try.prog o_bits_Len64 (s_bits_LeadingZeros64 N) N
theorem q_bits_LeadingZeros64 (N : Nat) : LoopsFor (e_bits_LeadingZeros64 N) Try.prog 102 0 := ⟨by kernel_rfl, fun j hj => match j, hj with
  | _ + 0, h => absurd h (by omega)⟩
def c_bits_LeadingZeros64 : FC := mkF [.sc (.int .u64)] [.sc (.int .i64)] bits_LeadingZeros64
theorem t_bits_LeadingZeros64 (N : Nat) : FCOK Try.prog N 102 c_bits_LeadingZeros64 := fun_ok facts (ok_bits_Len64 N) (by kernel_rfl) (by kernel_rfl) (q_bits_LeadingZeros64 N) (fun t => by kernel_rfl)
def o_bits_LeadingZeros64 : List (Nat × FC) := (102, c_bits_LeadingZeros64) :: o_bits_Len64
theorem ok_bits_LeadingZeros64 (N : Nat) : OrcOK Try.prog o_bits_LeadingZeros64 N := orc_cons (t_bits_LeadingZeros64 N) (ok_bits_Len64 N)
def p_bits_Div64_17 : List Pat := [.any, .any, .sc (.int .u64), .any, .any, .any, .any, .any, .sc (.int .u64), .sc (.int .u64), .sc (.int .u64), .sc (.int .u64), .any, .sc (.int .u64), .sc (.int .u64), .sc (.int .u64), .sc (.int .u64), .any, .any, .any, .any, .any, .any, .any, .any, .any, .any, .any, .any, .any, .any, .any, .any, .any, .any, .any, .any, .any, .any, .any, .any, .any, .any, .any, .any, .any, .any, .any, .any, .any, .any, .any, .any, .any, .any, .any, .any, .any, .any, .any, .any, .any, .any, .any, .any, .any, .any, .any, .any, .any, .any, .any, .any, .any, .any, .any, .any, .any, .any, .any, .any, .any, .any, .any, .any, .any, .any, .any, .any, .any, .any, .any, .any, .any, .any, .any, .any, .any, .any, .any, .any, .any, .any, .any, .any, .any, .any, .any, .any, .any, .any, .any, .any, .any, .any, .any, .any, .any, .any, .any, .any, .any, .any, .any, .any, .any, .any, .any, .any, .any, .any, .any, .any, .any, .any]
def h_bits_Div64_17 : List HPat := []
def x_bits_Div64_17 : List XP := [⟨.exit 0, [.any, .any, .sc (.int .u64), .any, .any, .any, .any, .any, .sc (.int .u64), .sc (.int .u64), .sc (.int .u64), .sc (.int .u64), .any, .sc (.int .u64), .sc (.int .u64), .sc (.int .u64), .any, .any, .any, .any, .any, .any, .any, .any, .any, .any, .any, .any, .any, .any, .any, .any, .any, .any, .any, .any, .any, .any, .any, .any, .any, .any, .any, .any, .any, .any, .any, .any, .any, .any, .any, .any, .any, .any, .any, .any, .any, .any, .any, .any, .any, .any, .any, .any, .any, .any, .any, .any, .any, .any, .any, .any, .any, .any, .any, .any, .any, .any, .any, .any, .any, .any, .any, .any, .any, .any, .any, .any, .any, .any, .any, .any, .any, .any, .any, .any, .any, .any, .any, .any, .any, .any, .any, .any, .any, .any, .any, .any, .any, .any, .any, .any, .any, .any, .any, .any, .any, .any, .any, .any, .any, .any, .any, .any, .any, .any, .any, .any, .any, .any, .any, .any, .any, .any, .any], []⟩]
def lc_bits_Div64_17 (N : Nat) : LC := mkLC 0 p_bits_Div64_17 h_bits_Div64_17 x_bits_Div64_17 (bits_Div64_L17 N)
def p_bits_Div64_24 : List Pat := [.any, .any, .sc (.int .u64), .any, .any, .any, .any, .any, .sc (.int .u64), .sc (.int .u64), .sc (.int .u64), .any, .any, .any, .sc (.int .u64), .sc (.int .u64), .sc (.int .u64), .sc (.int .u64), .sc (.int .u64), .any, .any, .any, .any, .any, .any, .any, .any, .any, .any, .any, .any, .any, .any, .any, .any, .any, .any, .any, .any, .any, .any, .any, .any, .any, .any, .any, .any, .any, .any, .any, .any, .any, .any, .any, .any, .any, .any, .any, .any, .any, .any, .any, .any, .any, .any, .any, .any, .any, .any, .any, .any, .any, .any, .any, .any, .any, .any, .any, .any, .any, .any, .any, .any, .any, .any, .any, .any, .any, .any, .any, .any, .any, .any, .any, .any, .any, .any, .any, .any, .any, .any, .any, .any, .any, .any, .any, .any, .any, .any, .any, .any, .any, .any, .any, .any, .any, .any, .any, .any, .any, .any, .any, .any, .any, .any, .any, .any, .any, .any, .any, .any, .any, .any, .any, .any]
def h_bits_Div64_24 : List HPat := []
def x_bits_Div64_24 : List XP := [⟨.exit 2, [.any, .any, .sc (.int .u64), .any, .any, .any, .any, .any, .sc (.int .u64), .any, .any, .any, .any, .any, .sc (.int .u64), .sc (.int .u64), .any, .sc (.int .u64), .sc (.int .u64), .any, .any, .any, .any, .any, .any, .any, .any, .any, .any, .any, .any, .any, .any, .any, .any, .any, .any, .any, .any, .any, .any, .any, .any, .any, .any, .any, .any, .any, .any, .any, .any, .any, .any, .any, .any, .any, .any, .any, .any, .any, .any, .any, .any, .any, .any, .any, .any, .any, .any, .any, .any, .any, .any, .any, .any, .any, .any, .any, .any, .any, .any, .any, .any, .any, .any, .any, .any, .any, .any, .any, .any, .any, .any, .any, .any, .any, .any, .any, .any, .any, .any, .any, .any, .any, .any, .any, .any, .any, .any, .any, .any, .any, .any, .any, .any, .any, .any, .any, .any, .any, .any, .any, .any, .any, .any, .any, .any, .any, .any, .any, .any, .any, .any, .any, .any], []⟩]
def lc_bits_Div64_24 (N : Nat) : LC := mkLC 0 p_bits_Div64_24 h_bits_Div64_24 x_bits_Div64_24 (bits_Div64_L24 N)
def s_bits_Div64 (N : Nat) : List (Nat × LC) := [(17, lc_bits_Div64_17 N), (24, lc_bits_Div64_24 N)]
noncomputable def e_bits_Div64 (N : Nat) : Env := mkEnvX 0 [] Try.prog o_bits_LeadingZeros64 (s_bits_Div64 N) N
theorem k_bits_Div64_17 (N : Nat) : LCOK (e_bits_Div64 N) 12 (loopAt Try.prog 98 0) (lc_bits_Div64_17 N) := mkLC_ok rfl (by kernel_rfl) (by kernel_rfl) (fun F x => by kernel_rfl)
theorem k_bits_Div64_24 (N : Nat) : LCOK (e_bits_Div64 N) 12 (loopAt Try.prog 98 1) (lc_bits_Div64_24 N) := mkLC_ok rfl (by kernel_rfl) (by kernel_rfl) (fun F x => by kernel_rfl)
theorem q_bits_Div64 (N : Nat) : LoopsFor (e_bits_Div64 N) Try.prog 98 2 := ⟨by kernel_rfl, fun j hj => match j, hj with
  | 0, _ => .inl ⟨lc_bits_Div64_17 N, by kernel_rfl, k_bits_Div64_17 N⟩
  | 1, _ => .inl ⟨lc_bits_Div64_24 N, by kernel_rfl, k_bits_Div64_24 N⟩
  | _ + 2, h => absurd h (by omega)⟩
def c_bits_Div64 : FC := mkF [.sc (.int .u64), .sc (.int .u64), .sc (.int .u64)] [.sc (.int .u64), .sc (.int .u64)] bits_Div64
theorem t_bits_Div64 (N : Nat) : FCOK Try.prog N 98 c_bits_Div64 := fun_ok facts (ok_bits_LeadingZeros64 N) (by kernel_rfl) (by kernel_rfl) (q_bits_Div64 N) (fun t => by kernel_rfl)
def o_bits_Div64 : List (Nat × FC) := (98, c_bits_Div64) :: o_bits_LeadingZeros64
theorem ok_bits_Div64 (N : Nat) : OrcOK Try.prog o_bits_Div64 N := orc_cons (t_bits_Div64 N) (ok_bits_LeadingZeros64 N)
def s_wide_Div (_ : Nat) : List (Nat × LC) := []
noncomputable def e_wide_Div (N : Nat) : Env := mkEnvX 0 [] Try.prog o_bits_Div64 (s_wide_Div N) N
theorem q_wide_Div (N : Nat) : LoopsFor (e_wide_Div N) Try.prog 94 0 := ⟨by kernel_rfl, fun j hj => match j, hj with
  | _ + 0, h => absurd h (by omega)⟩
def c_wide_Div : FC := mkF [.agg [.int .u64, .int .u64], .sc (.int .u64)] [.agg [.int .u64, .int .u64], .sc (.int .u64)] wide_Div
theorem t_wide_Div (N : Nat) : FCOK Try.prog N 94 c_wide_Div := fun_ok facts (ok_bits_Div64 N) (by kernel_rfl) (by kernel_rfl) (q_wide_Div N) (fun t => by kernel_rfl)
def o_wide_Div : List (Nat × FC) := (94, c_wide_Div) :: o_bits_Div64
theorem ok_wide_Div (N : Nat) : OrcOK Try.prog o_wide_Div N := orc_cons (t_wide_Div N) (ok_bits_Div64 N)
def s_wide_muldiv (_ : Nat) : List (Nat × LC) := []
noncomputable def e_wide_muldiv (N : Nat) : Env := mkEnvX 0 [] Try.prog o_wide_Div (s_wide_muldiv N) N
theorem q_wide_muldiv (N : Nat) : LoopsFor (e_wide_muldiv N) Try.prog 87 0 := ⟨by kernel_rfl, fun j hj => match j, hj with
  | _ + 0, h => absurd h (by omega)⟩
def c_wide_muldiv : FC := mkF [.sc (.int .i64), .sc (.int .i64), .sc (.int .i64)] [.agg [.int .u64, .int .u64], .sc (.bool), .sc (.int .i64)] wide_muldiv
theorem t_wide_muldiv (N : Nat) : FCOK Try.prog N 87 c_wide_muldiv := fun_ok facts (ok_wide_Div N) (by kernel_rfl) (by kernel_rfl) (q_wide_muldiv N) (fun t => by kernel_rfl)
def o_wide_muldiv : List (Nat × FC) := (87, c_wide_muldiv) :: o_wide_Div
theorem ok_wide_muldiv (N : Nat) : OrcOK Try.prog o_wide_muldiv N := orc_cons (t_wide_muldiv N) (ok_wide_Div N)
def s_cmp_isNaN_uint64 (_ : Nat) : List (Nat × LC) := []
noncomputable def e_cmp_isNaN_uint64 (N : Nat) : Env := mkEnvX 0 [] Try.prog o_wide_muldiv (s_cmp_isNaN_uint64 N) N
theorem q_cmp_isNaN_uint64 (N : Nat) : LoopsFor (e_cmp_isNaN_uint64 N) Try.prog 103 0 := ⟨by kernel_rfl, fun j hj => match j, hj with
  | _ + 0, h => absurd h (by omega)⟩
def c_cmp_isNaN_uint64 : FC := mkF [.sc (.int .u64)] [.sc (.bool)] cmp_isNaN_uint64
theorem t_cmp_isNaN_uint64 (N : Nat) : FCOK Try.prog N 103 c_cmp_isNaN_uint64 := fun_ok facts (ok_wide_muldiv N) (by kernel_rfl) (by kernel_rfl) (q_cmp_isNaN_uint64 N) (fun t => by kernel_rfl)
def o_cmp_isNaN_uint64 : List (Nat × FC) := (103, c_cmp_isNaN_uint64) :: o_wide_muldiv
theorem ok_cmp_isNaN_uint64 (N : Nat) : OrcOK Try.prog o_cmp_isNaN_uint64 N := orc_cons (t_cmp_isNaN_uint64 N) (ok_wide_muldiv N)
def s_cmp_Compare_uint64 (_ : Nat) : List (Nat × LC) := []
noncomputable def e_cmp_Compare_uint64 (N : Nat) : Env := mkEnvX 0 [] Try.prog o_cmp_isNaN_uint64 (s_cmp_Compare_uint64 N) N
theorem q_cmp_Compare_uint64 (N : Nat) : LoopsFor (e_cmp_Compare_uint64 N) Try.prog 101 0 := ⟨by kernel_rfl, fun j hj => match j, hj with
  | _ + 0, h => absurd h (by omega)⟩
def c_cmp_Compare_uint64 : FC := mkF [.sc (.int .u64), .sc (.int .u64)] [.sc (.int .i64)] cmp_Compare_uint64
theorem t_cmp_Compare_uint64 (N : Nat) : FCOK Try.prog N 101 c_cmp_Compare_uint64 := fun_ok facts (ok_cmp_isNaN_uint64 N) (by kernel_rfl) (by kernel_rfl) (q_cmp_Compare_uint64 N) (fun t => by kernel_rfl)
def o_cmp_Compare_uint64 : List (Nat × FC) := (101, c_cmp_Compare_uint64) :: o_cmp_isNaN_uint64
theorem ok_cmp_Compare_uint64 (N : Nat) : OrcOK Try.prog o_cmp_Compare_uint64 N := orc_cons (t_cmp_Compare_uint64 N) (ok_cmp_isNaN_uint64 N)
def p_cmp_Or_int_3 : List Pat := [.any, .any, .any, .sc (.int .i64), .any, .any, .sl 0, .sc (.int .i64), .sc (.int .i64), .any, .any, .any, .any, .any, .any, .any, .any, .any]
def h_cmp_Or_int_3 : List HPat := [.ext 3 [.int .i64]]
def x_cmp_Or_int_3 : List XP := [⟨.ret, [.any, .any, .sc (.int .i64), .any, .any, .any, .any, .any, .any, .any, .any, .any, .any, .any, .any, .any, .any, .any], []⟩, ⟨.exit 0, [.any, .any, .any, .sc (.int .i64), .any, .any, .any, .any, .any, .any, .any, .any, .any, .any, .any, .any, .any, .any], []⟩]
def lc_cmp_Or_int_3 (N : Nat) : LC := mkLC 0 p_cmp_Or_int_3 h_cmp_Or_int_3 x_cmp_Or_int_3 (cmp_Or_int_L3 N)
def s_cmp_Or_int (N : Nat) : List (Nat × LC) := [(3, lc_cmp_Or_int_3 N)]
noncomputable def e_cmp_Or_int (N : Nat) : Env := mkEnvX 0 [] Try.prog o_cmp_Compare_uint64 (s_cmp_Or_int N) N
theorem k_cmp_Or_int_3 (N : Nat) : LCOK (e_cmp_Or_int N) 12 (loopAt Try.prog 100 0) (lc_cmp_Or_int_3 N) := mkLC_ok rfl (by kernel_rfl) (by kernel_rfl) (fun F x => by kernel_rfl)
theorem q_cmp_Or_int (N : Nat) : LoopsFor (e_cmp_Or_int N) Try.prog 100 1 := ⟨by kernel_rfl, fun j hj => match j, hj with
  | 0, _ => .inl ⟨lc_cmp_Or_int_3 N, by kernel_rfl, k_cmp_Or_int_3 N⟩
  | _ + 1, h => absurd h (by omega)⟩
def c_cmp_Or_int : FC := mkF [.row 3 [.int .i64]] [.sc (.int .i64)] cmp_Or_int
theorem t_cmp_Or_int (N : Nat) : FCOK Try.prog N 100 c_cmp_Or_int := fun_ok facts (ok_cmp_Compare_uint64 N) (by kernel_rfl) (by kernel_rfl) (q_cmp_Or_int N) (fun t => by kernel_rfl)
def o_cmp_Or_int : List (Nat × FC) := (100, c_cmp_Or_int) :: o_cmp_Compare_uint64
theorem ok_cmp_Or_int (N : Nat) : OrcOK Try.prog o_cmp_Or_int N := orc_cons (t_cmp_Or_int N) (ok_cmp_Compare_uint64 N)
def s_wide_Cmp (_ : Nat) : List (Nat × LC) := []
noncomputable def e_wide_Cmp (N : Nat) : Env := mkEnvX 0 [] Try.prog o_cmp_Or_int (s_wide_Cmp N) N
theorem q_wide_Cmp (N : Nat) : LoopsFor (e_wide_Cmp N) Try.prog 96 0 := ⟨by kernel_rfl, fun j hj => match j, hj with
  | _ + 0, h => absurd h (by omega)⟩
def c_wide_Cmp : FC := mkF [.agg [.int .u64, .int .u64], .agg [.int .u64, .int .u64]] [.sc (.int .i64)] wide_Cmp
theorem t_wide_Cmp (N : Nat) : FCOK Try.prog N 96 c_wide_Cmp := fun_ok facts (ok_cmp_Or_int N) (by kernel_rfl) (by kernel_rfl) (q_wide_Cmp N) (fun t => by kernel_rfl)
def o_wide_Cmp : List (Nat × FC) := (96, c_wide_Cmp) :: o_cmp_Or_int
theorem ok_wide_Cmp (N : Nat) : OrcOK Try.prog o_wide_Cmp N := orc_cons (t_wide_Cmp N) (ok_cmp_Or_int N)
def s_wide_told (_ : Nat) : List (Nat × LC) := []
noncomputable def e_wide_told (N : Nat) : Env := mkEnvX 0 [] Try.prog o_wide_Cmp (s_wide_told N) N
theorem q_wide_told (N : Nat) : LoopsFor (e_wide_told N) Try.prog 88 0 := ⟨by kernel_rfl, fun j hj => match j, hj with
  | _ + 0, h => absurd h (by omega)⟩
def c_wide_told : FC := mkF [.agg [.int .u64, .int .u64], .sc (.int .i64)] [.sc (.int .i64), .sc (.int .i64)] wide_told
theorem t_wide_told (N : Nat) : FCOK Try.prog N 88 c_wide_told := fun_ok facts (ok_wide_Cmp N) (by kernel_rfl) (by kernel_rfl) (q_wide_told N) (fun t => by kernel_rfl)
def o_wide_told : List (Nat × FC) := (88, c_wide_told) :: o_wide_Cmp
theorem ok_wide_told (N : Nat) : OrcOK Try.prog o_wide_told N := orc_cons (t_wide_told N) (ok_wide_Cmp N)
def s_wide_MulDiv (_ : Nat) : List (Nat × LC) := []
noncomputable def e_wide_MulDiv (N : Nat) : Env := mkEnvX 0 [] Try.prog o_wide_told (s_wide_MulDiv N) N
theorem q_wide_MulDiv (N : Nat) : LoopsFor (e_wide_MulDiv N) Try.prog 72 0 := ⟨by kernel_rfl, fun j hj => match j, hj with
  | _ + 0, h => absurd h (by omega)⟩
def c_wide_MulDiv : FC := mkF [.sc (.int .i64), .sc (.int .i64), .sc (.int .i64)] [.sc (.int .i64), .sc (.int .i64)] wide_MulDiv
theorem t_wide_MulDiv (N : Nat) : FCOK Try.prog N 72 c_wide_MulDiv := fun_ok facts (ok_wide_told N) (by kernel_rfl) (by kernel_rfl) (q_wide_MulDiv N) (fun t => by kernel_rfl)
def o_wide_MulDiv : List (Nat × FC) := (72, c_wide_MulDiv) :: o_wide_told
theorem ok_wide_MulDiv (N : Nat) : OrcOK Try.prog o_wide_MulDiv N := orc_cons (t_wide_MulDiv N) (ok_wide_told N)
def s_couple_Classic (_ : Nat) : List (Nat × LC) := []
noncomputable def e_couple_Classic (N : Nat) : Env := mkEnvX 0 [] Try.prog o_wide_MulDiv (s_couple_Classic N) N
theorem q_couple_Classic (N : Nat) : LoopsFor (e_couple_Classic N) Try.prog 50 0 := ⟨by kernel_rfl, fun j hj => match j, hj with
  | _ + 0, h => absurd h (by omega)⟩
def c_couple_Classic : FC := mkF [.sc (.int .i64)] [.sc (.int .i64)] couple_Classic
theorem t_couple_Classic (N : Nat) : FCOK Try.prog N 50 c_couple_Classic := fun_ok facts (ok_wide_MulDiv N) (by kernel_rfl) (by kernel_rfl) (q_couple_Classic N) (fun t => by kernel_rfl)
def o_couple_Classic : List (Nat × FC) := (50, c_couple_Classic) :: o_wide_MulDiv
theorem ok_couple_Classic (N : Nat) : OrcOK Try.prog o_couple_Classic N := orc_cons (t_couple_Classic N) (ok_wide_MulDiv N)
def s_dice_Dice_Next (_ : Nat) : List (Nat × LC) := []
noncomputable def e_dice_Dice_Next (N : Nat) : Env := mkEnvX 3 [] Try.prog o_couple_Classic (s_dice_Dice_Next N) N
theorem q_dice_Dice_Next (N : Nat) : LoopsFor (e_dice_Dice_Next N) Try.prog 70 0 := ⟨by kernel_rfl, fun j hj => match j, hj with
  | _ + 0, h => absurd h (by omega)⟩
def a_dice_Dice_Next : List Pat := [.ptr 0 0]
def b_dice_Dice_Next : List HPat := [.cells [.fn 44 [(1, 0), (2, 0)], .sc (.int .i64)], .cells [.sl 3], .cells [.sc (.int .i64)], .ext 91 [.int .u32]]
def ra_dice_Dice_Next : List Pat := [.sc (.int .u32)]
def rb_dice_Dice_Next : List HPat := [.cells [.fn 44 [(1, 0), (2, 0)], .sc (.int .i64)], .cells [.sl 3], .cells [.sc (.int .i64)], .ext 91 [.int .u32]]
def c_dice_Dice_Next : FC := mkFCH 3 a_dice_Dice_Next b_dice_Dice_Next ra_dice_Dice_Next rb_dice_Dice_Next dice_Dice_Next
theorem t_dice_Dice_Next (N : Nat) : FCOK Try.prog N 70 c_dice_Dice_Next := eff_ok facts (ok_couple_Classic N) (by kernel_rfl) (by kernel_rfl) (q_dice_Dice_Next N) (fun t => by kernel_rfl)
def o_dice_Dice_Next : List (Nat × FC) := (70, c_dice_Dice_Next) :: o_couple_Classic
theorem ok_dice_Dice_Next (N : Nat) : OrcOK Try.prog o_dice_Dice_Next N := orc_cons (t_dice_Dice_Next N) (ok_couple_Classic N)
def s_couple_Hit (_ : Nat) : List (Nat × LC) := []
noncomputable def e_couple_Hit (N : Nat) : Env := mkEnvX 0 [] Try.prog o_dice_Dice_Next (s_couple_Hit N) N
theorem q_couple_Hit (N : Nat) : LoopsFor (e_couple_Hit N) Try.prog 69 0 := ⟨by kernel_rfl, fun j hj => match j, hj with
  | _ + 0, h => absurd h (by omega)⟩
def c_couple_Hit : FC := mkF [.sc (.int .u32), .sc (.int .i64)] [.sc (.bool)] couple_Hit
theorem t_couple_Hit (N : Nat) : FCOK Try.prog N 69 c_couple_Hit := fun_ok facts (ok_dice_Dice_Next N) (by kernel_rfl) (by kernel_rfl) (q_couple_Hit N) (fun t => by kernel_rfl)
def o_couple_Hit : List (Nat × FC) := (69, c_couple_Hit) :: o_dice_Dice_Next
theorem ok_couple_Hit (N : Nat) : OrcOK Try.prog o_couple_Hit N := orc_cons (t_couple_Hit N) (ok_dice_Dice_Next N)
def s_dual_Queue_hit (_ : Nat) : List (Nat × LC) := []
noncomputable def e_dual_Queue_hit (N : Nat) : Env := mkEnvX 6 [] Try.prog o_couple_Hit (s_dual_Queue_hit N) N
theorem q_dual_Queue_hit (N : Nat) : LoopsFor (e_dual_Queue_hit N) Try.prog 49 0 := ⟨by kernel_rfl, fun j hj => match j, hj with
  | _ + 0, h => absurd h (by omega)⟩
def a_dual_Queue_hit : List Pat := [.ptr 0 0, .sc (.int .i64)]
def b_dual_Queue_hit : List HPat := [.cells [.grp [.int .i64, .int .i64, .int .i64, .int .i64, .int .i64, .int .i64, .int .i64, .int .i64], .nilp, .ptr 1 0, .ptr 2 0, .grp [.int .i64, .int .i64, .int .i64, .int .i64, .int .i64, .int .i64, .int .i64, .int .i64, .int .i64], .grp [.int .i64, .int .i64, .int .i64, .int .i64, .int .i64, .int .i64, .int .i64, .int .i64, .int .i64], .grp [.int .i64, .int .i64, .int .i64, .int .i64, .int .i64, .int .i64, .int .i64, .int .i64, .int .i64], .grp [.int .i64, .int .i64], .sc (.int .i64), .ptr 3 0], .cells [.sl 6, .sc (.int .i64), .sc (.int .i64), .sc (.int .i64)], .cells [.sl 7, .sc (.int .i64), .sc (.int .i64), .sc (.int .i64)], .cells [.fn 44 [(4, 0), (5, 0)], .sc (.int .i64)], .cells [.sl 8], .cells [.sc (.int .i64)], .rows 29 [.int .i64, .int .i64, .int .i64, .int .i64, .int .i64], .rows 29 [.int .i64, .int .i64, .int .i64, .int .i64, .int .i64], .ext 91 [.int .u32]]
def ra_dual_Queue_hit : List Pat := [.sc (.bool)]
def rb_dual_Queue_hit : List HPat := [.cells [.grp [.int .i64, .int .i64, .int .i64, .int .i64, .int .i64, .int .i64, .int .i64, .int .i64], .nilp, .ptr 1 0, .ptr 2 0, .grp [.int .i64, .int .i64, .int .i64, .int .i64, .int .i64, .int .i64, .int .i64, .int .i64, .int .i64], .grp [.int .i64, .int .i64, .int .i64, .int .i64, .int .i64, .int .i64, .int .i64, .int .i64, .int .i64], .grp [.int .i64, .int .i64, .int .i64, .int .i64, .int .i64, .int .i64, .int .i64, .int .i64, .int .i64], .grp [.int .i64, .int .i64], .sc (.int .i64), .ptr 3 0], .cells [.sl 6, .sc (.int .i64), .sc (.int .i64), .sc (.int .i64)], .cells [.sl 7, .sc (.int .i64), .sc (.int .i64), .sc (.int .i64)], .cells [.fn 44 [(4, 0), (5, 0)], .sc (.int .i64)], .cells [.sl 8], .cells [.sc (.int .i64)], .rows 29 [.int .i64, .int .i64, .int .i64, .int .i64, .int .i64], .rows 29 [.int .i64, .int .i64, .int .i64, .int .i64, .int .i64], .ext 91 [.int .u32]]
def c_dual_Queue_hit : FC := mkFCH 6 a_dual_Queue_hit b_dual_Queue_hit ra_dual_Queue_hit rb_dual_Queue_hit dual_Queue_hit
theorem t_dual_Queue_hit (N : Nat) : FCOK Try.prog N 49 c_dual_Queue_hit := eff_ok facts (ok_couple_Hit N) (by kernel_rfl) (by kernel_rfl) (q_dual_Queue_hit N) (fun t => by kernel_rfl)
def o_dual_Queue_hit : List (Nat × FC) := (49, c_dual_Queue_hit) :: o_couple_Hit
theorem ok_dual_Queue_hit (N : Nat) : OrcOK Try.prog o_dual_Queue_hit N := orc_cons (t_dual_Queue_hit N) (ok_couple_Hit N)
def s_ecn_Mark (_ : Nat) : List (Nat × LC) := []
noncomputable def e_ecn_Mark (N : Nat) : Env := mkEnvX 0 [] Try.prog o_dual_Queue_hit (s_ecn_Mark N) N
theorem q_ecn_Mark (N : Nat) : LoopsFor (e_ecn_Mark N) Try.prog 51 0 := ⟨by kernel_rfl, fun j hj => match j, hj with
  | _ + 0, h => absurd h (by omega)⟩
def c_ecn_Mark : FC := mkF [.sc (.int .i64)] [.sc (.int .i64), .sc (.bool)] ecn_Mark
theorem t_ecn_Mark (N : Nat) : FCOK Try.prog N 51 c_ecn_Mark := fun_ok facts (ok_dual_Queue_hit N) (by kernel_rfl) (by kernel_rfl) (q_ecn_Mark N) (fun t => by kernel_rfl)
def o_ecn_Mark : List (Nat × FC) := (51, c_ecn_Mark) :: o_dual_Queue_hit
theorem ok_ecn_Mark (N : Nat) : OrcOK Try.prog o_ecn_Mark N := orc_cons (t_ecn_Mark N) (ok_dual_Queue_hit N)
def s_couple_Low (_ : Nat) : List (Nat × LC) := []
noncomputable def e_couple_Low (N : Nat) : Env := mkEnvX 0 [] Try.prog o_ecn_Mark (s_couple_Low N) N
theorem q_couple_Low (N : Nat) : LoopsFor (e_couple_Low N) Try.prog 54 0 := ⟨by kernel_rfl, fun j hj => match j, hj with
  | _ + 0, h => absurd h (by omega)⟩
def c_couple_Low : FC := mkF [.sc (.int .i64), .sc (.int .i64)] [.sc (.int .i64)] couple_Low
theorem t_couple_Low (N : Nat) : FCOK Try.prog N 54 c_couple_Low := fun_ok facts (ok_ecn_Mark N) (by kernel_rfl) (by kernel_rfl) (q_couple_Low N) (fun t => by kernel_rfl)
def o_couple_Low : List (Nat × FC) := (54, c_couple_Low) :: o_ecn_Mark
theorem ok_couple_Low (N : Nat) : OrcOK Try.prog o_couple_Low N := orc_cons (t_couple_Low N) (ok_ecn_Mark N)
def s_couple_Over (_ : Nat) : List (Nat × LC) := []
noncomputable def e_couple_Over (N : Nat) : Env := mkEnvX 0 [] Try.prog o_couple_Low (s_couple_Over N) N
theorem q_couple_Over (N : Nat) : LoopsFor (e_couple_Over N) Try.prog 52 0 := ⟨by kernel_rfl, fun j hj => match j, hj with
  | _ + 0, h => absurd h (by omega)⟩
def c_couple_Over : FC := mkF [.sc (.int .i64), .sc (.int .i64)] [.sc (.bool)] couple_Over
theorem t_couple_Over (N : Nat) : FCOK Try.prog N 52 c_couple_Over := fun_ok facts (ok_couple_Low N) (by kernel_rfl) (by kernel_rfl) (q_couple_Over N) (fun t => by kernel_rfl)
def o_couple_Over : List (Nat × FC) := (52, c_couple_Over) :: o_couple_Low
theorem ok_couple_Over (N : Nat) : OrcOK Try.prog o_couple_Over N := orc_cons (t_couple_Over N) (ok_couple_Low N)
def s_step_Ramp_1 (_ : Nat) : List (Nat × LC) := []
noncomputable def e_step_Ramp_1 (N : Nat) : Env := mkEnvX 0 [] Try.prog o_couple_Over (s_step_Ramp_1 N) N
theorem q_step_Ramp_1 (N : Nat) : LoopsFor (e_step_Ramp_1 N) Try.prog 89 0 := ⟨by kernel_rfl, fun j hj => match j, hj with
  | _ + 0, h => absurd h (by omega)⟩
def c_step_Ramp_1 : FC := mkF [.sc (.int .i64)] [.sc (.int .i64)] step_Ramp_1
theorem t_step_Ramp_1 (N : Nat) : FCOK Try.prog N 89 c_step_Ramp_1 := fun_ok facts (ok_couple_Over N) (by kernel_rfl) (by kernel_rfl) (q_step_Ramp_1 N) (fun t => by kernel_rfl)
def o_step_Ramp_1 : List (Nat × FC) := (89, c_step_Ramp_1) :: o_couple_Over
theorem ok_step_Ramp_1 (N : Nat) : OrcOK Try.prog o_step_Ramp_1 N := orc_cons (t_step_Ramp_1 N) (ok_couple_Over N)
def s_step_Ramp (_ : Nat) : List (Nat × LC) := []
noncomputable def e_step_Ramp (N : Nat) : Env := mkEnvX 0 [] Try.prog o_step_Ramp_1 (s_step_Ramp N) N
theorem q_step_Ramp (N : Nat) : LoopsFor (e_step_Ramp N) Try.prog 73 0 := ⟨by kernel_rfl, fun j hj => match j, hj with
  | _ + 0, h => absurd h (by omega)⟩
def c_step_Ramp : FC := mkF [.sc (.int .i64), .sc (.int .i64), .sc (.int .i64)] [.sc (.int .i64)] step_Ramp
theorem t_step_Ramp (N : Nat) : FCOK Try.prog N 73 c_step_Ramp := fun_ok facts (ok_step_Ramp_1 N) (by kernel_rfl) (by kernel_rfl) (q_step_Ramp N) (fun t => by kernel_rfl)
def o_step_Ramp : List (Nat × FC) := (73, c_step_Ramp) :: o_step_Ramp_1
theorem ok_step_Ramp (N : Nat) : OrcOK Try.prog o_step_Ramp N := orc_cons (t_step_Ramp N) (ok_step_Ramp_1 N)
def s_step_Mark (_ : Nat) : List (Nat × LC) := []
noncomputable def e_step_Mark (N : Nat) : Env := mkEnvX 0 [] Try.prog o_step_Ramp (s_step_Mark N) N
theorem q_step_Mark (N : Nat) : LoopsFor (e_step_Mark N) Try.prog 53 0 := ⟨by kernel_rfl, fun j hj => match j, hj with
  | _ + 0, h => absurd h (by omega)⟩
def c_step_Mark : FC := mkF [.sc (.int .i64), .agg [.int .i64, .int .i64, .int .i64, .int .i64, .int .i64, .int .i64, .int .i64, .int .i64], .sc (.int .i64)] [.sc (.int .i64)] step_Mark
theorem t_step_Mark (N : Nat) : FCOK Try.prog N 53 c_step_Mark := fun_ok facts (ok_step_Ramp N) (by kernel_rfl) (by kernel_rfl) (q_step_Mark N) (fun t => by kernel_rfl)
def o_step_Mark : List (Nat × FC) := (53, c_step_Mark) :: o_step_Ramp
theorem ok_step_Mark (N : Nat) : OrcOK Try.prog o_step_Mark N := orc_cons (t_step_Mark N) (ok_step_Ramp N)
def s_dual_Queue_judge (_ : Nat) : List (Nat × LC) := []
noncomputable def e_dual_Queue_judge (N : Nat) : Env := mkEnvX 6 [] Try.prog o_step_Mark (s_dual_Queue_judge N) N
theorem q_dual_Queue_judge (N : Nat) : LoopsFor (e_dual_Queue_judge N) Try.prog 30 0 := ⟨by kernel_rfl, fun j hj => match j, hj with
  | _ + 0, h => absurd h (by omega)⟩
def a_dual_Queue_judge : List Pat := [.ptr 0 0, .sc (.int .i64), .agg [.int .i64, .int .i64, .int .i64, .int .i64, .int .i64], .sc (.int .i64)]
def b_dual_Queue_judge : List HPat := [.cells [.grp [.int .i64, .int .i64, .int .i64, .int .i64, .int .i64, .int .i64, .int .i64, .int .i64], .nilp, .ptr 1 0, .ptr 2 0, .grp [.int .i64, .int .i64, .int .i64, .int .i64, .int .i64, .int .i64, .int .i64, .int .i64, .int .i64], .grp [.int .i64, .int .i64, .int .i64, .int .i64, .int .i64, .int .i64, .int .i64, .int .i64, .int .i64], .grp [.int .i64, .int .i64, .int .i64, .int .i64, .int .i64, .int .i64, .int .i64, .int .i64, .int .i64], .grp [.int .i64, .int .i64], .sc (.int .i64), .ptr 3 0], .cells [.sl 6, .sc (.int .i64), .sc (.int .i64), .sc (.int .i64)], .cells [.sl 7, .sc (.int .i64), .sc (.int .i64), .sc (.int .i64)], .cells [.fn 44 [(4, 0), (5, 0)], .sc (.int .i64)], .cells [.sl 8], .cells [.sc (.int .i64)], .rows 29 [.int .i64, .int .i64, .int .i64, .int .i64, .int .i64], .rows 29 [.int .i64, .int .i64, .int .i64, .int .i64, .int .i64], .ext 91 [.int .u32]]
def ra_dual_Queue_judge : List Pat := [.sc (.int .i64), .sc (.bool)]
def rb_dual_Queue_judge : List HPat := [.cells [.grp [.int .i64, .int .i64, .int .i64, .int .i64, .int .i64, .int .i64, .int .i64, .int .i64], .nilp, .ptr 1 0, .ptr 2 0, .grp [.int .i64, .int .i64, .int .i64, .int .i64, .int .i64, .int .i64, .int .i64, .int .i64, .int .i64], .grp [.int .i64, .int .i64, .int .i64, .int .i64, .int .i64, .int .i64, .int .i64, .int .i64, .int .i64], .grp [.int .i64, .int .i64, .int .i64, .int .i64, .int .i64, .int .i64, .int .i64, .int .i64, .int .i64], .grp [.int .i64, .int .i64], .sc (.int .i64), .ptr 3 0], .cells [.sl 6, .sc (.int .i64), .sc (.int .i64), .sc (.int .i64)], .cells [.sl 7, .sc (.int .i64), .sc (.int .i64), .sc (.int .i64)], .cells [.fn 44 [(4, 0), (5, 0)], .sc (.int .i64)], .cells [.sl 8], .cells [.sc (.int .i64)], .rows 29 [.int .i64, .int .i64, .int .i64, .int .i64, .int .i64], .rows 29 [.int .i64, .int .i64, .int .i64, .int .i64, .int .i64], .ext 91 [.int .u32]]
def c_dual_Queue_judge : FC := mkFCH 6 a_dual_Queue_judge b_dual_Queue_judge ra_dual_Queue_judge rb_dual_Queue_judge dual_Queue_judge
theorem t_dual_Queue_judge (N : Nat) : FCOK Try.prog N 30 c_dual_Queue_judge := eff_ok facts (ok_step_Mark N) (by kernel_rfl) (by kernel_rfl) (q_dual_Queue_judge N) (fun t => by kernel_rfl)
def o_dual_Queue_judge : List (Nat × FC) := (30, c_dual_Queue_judge) :: o_step_Mark
theorem ok_dual_Queue_judge (N : Nat) : OrcOK Try.prog o_dual_Queue_judge N := orc_cons (t_dual_Queue_judge N) (ok_step_Mark N)
def s_ring_Ring_api_Packet_Len (_ : Nat) : List (Nat × LC) := []
noncomputable def e_ring_Ring_api_Packet_Len (N : Nat) : Env := mkEnvX 0 [] Try.prog o_dual_Queue_judge (s_ring_Ring_api_Packet_Len N) N
theorem q_ring_Ring_api_Packet_Len (N : Nat) : LoopsFor (e_ring_Ring_api_Packet_Len N) Try.prog 56 0 := ⟨by kernel_rfl, fun j hj => match j, hj with
  | _ + 0, h => absurd h (by omega)⟩
def a_ring_Ring_api_Packet_Len : List Pat := [.ptr 0 0]
def b_ring_Ring_api_Packet_Len : List HPat := [.rcells [.any, .sc (.int .i64), .sc (.int .i64), .sc (.int .i64)]]
def c_ring_Ring_api_Packet_Len : FC := mkFC a_ring_Ring_api_Packet_Len b_ring_Ring_api_Packet_Len [.sc (.int .i64)] ring_Ring_api_Packet_Len
theorem t_ring_Ring_api_Packet_Len (N : Nat) : FCOK Try.prog N 56 c_ring_Ring_api_Packet_Len := ro_ok facts (ok_dual_Queue_judge N) (by kernel_rfl) (by kernel_rfl) (q_ring_Ring_api_Packet_Len N) (fun t => by kernel_rfl)
def o_ring_Ring_api_Packet_Len : List (Nat × FC) := (56, c_ring_Ring_api_Packet_Len) :: o_dual_Queue_judge
theorem ok_ring_Ring_api_Packet_Len (N : Nat) : OrcOK Try.prog o_ring_Ring_api_Packet_Len N := orc_cons (t_ring_Ring_api_Packet_Len N) (ok_dual_Queue_judge N)
def s_turn_Serve (_ : Nat) : List (Nat × LC) := []
noncomputable def e_turn_Serve (N : Nat) : Env := mkEnvX 0 [] Try.prog o_ring_Ring_api_Packet_Len (s_turn_Serve N) N
theorem q_turn_Serve (N : Nat) : LoopsFor (e_turn_Serve N) Try.prog 55 0 := ⟨by kernel_rfl, fun j hj => match j, hj with
  | _ + 0, h => absurd h (by omega)⟩
def c_turn_Serve : FC := mkF [.agg [.int .i64], .sc (.int .i64), .sc (.int .i64), .sc (.bool)] [.agg [.int .i64]] turn_Serve
theorem t_turn_Serve (N : Nat) : FCOK Try.prog N 55 c_turn_Serve := fun_ok facts (ok_ring_Ring_api_Packet_Len N) (by kernel_rfl) (by kernel_rfl) (q_turn_Serve N) (fun t => by kernel_rfl)
def o_turn_Serve : List (Nat × FC) := (55, c_turn_Serve) :: o_ring_Ring_api_Packet_Len
theorem ok_turn_Serve (N : Nat) : OrcOK Try.prog o_turn_Serve N := orc_cons (t_turn_Serve N) (ok_ring_Ring_api_Packet_Len N)
def s_dual_Queue_served (_ : Nat) : List (Nat × LC) := []
noncomputable def e_dual_Queue_served (N : Nat) : Env := mkEnvX 6 [] Try.prog o_turn_Serve (s_dual_Queue_served N) N
theorem q_dual_Queue_served (N : Nat) : LoopsFor (e_dual_Queue_served N) Try.prog 31 0 := ⟨by kernel_rfl, fun j hj => match j, hj with
  | _ + 0, h => absurd h (by omega)⟩
def a_dual_Queue_served : List Pat := [.ptr 0 0, .sc (.int .i64), .sc (.int .i64)]
def b_dual_Queue_served : List HPat := [.cells [.grp [.int .i64, .int .i64, .int .i64, .int .i64, .int .i64, .int .i64, .int .i64, .int .i64], .nilp, .ptr 1 0, .ptr 2 0, .grp [.int .i64, .int .i64, .int .i64, .int .i64, .int .i64, .int .i64, .int .i64, .int .i64, .int .i64], .grp [.int .i64, .int .i64, .int .i64, .int .i64, .int .i64, .int .i64, .int .i64, .int .i64, .int .i64], .grp [.int .i64, .int .i64, .int .i64, .int .i64, .int .i64, .int .i64, .int .i64, .int .i64, .int .i64], .grp [.int .i64, .int .i64], .sc (.int .i64), .ptr 3 0], .cells [.sl 6, .sc (.int .i64), .sc (.int .i64), .sc (.int .i64)], .cells [.sl 7, .sc (.int .i64), .sc (.int .i64), .sc (.int .i64)], .cells [.fn 44 [(4, 0), (5, 0)], .sc (.int .i64)], .cells [.sl 8], .cells [.sc (.int .i64)], .rows 29 [.int .i64, .int .i64, .int .i64, .int .i64, .int .i64], .rows 29 [.int .i64, .int .i64, .int .i64, .int .i64, .int .i64], .ext 91 [.int .u32]]
def ra_dual_Queue_served : List Pat := []
def rb_dual_Queue_served : List HPat := [.cells [.grp [.int .i64, .int .i64, .int .i64, .int .i64, .int .i64, .int .i64, .int .i64, .int .i64], .nilp, .ptr 1 0, .ptr 2 0, .grp [.int .i64, .int .i64, .int .i64, .int .i64, .int .i64, .int .i64, .int .i64, .int .i64, .int .i64], .grp [.int .i64, .int .i64, .int .i64, .int .i64, .int .i64, .int .i64, .int .i64, .int .i64, .int .i64], .grp [.int .i64, .int .i64, .int .i64, .int .i64, .int .i64, .int .i64, .int .i64, .int .i64, .int .i64], .grp [.int .i64, .int .i64], .sc (.int .i64), .ptr 3 0], .cells [.sl 6, .sc (.int .i64), .sc (.int .i64), .sc (.int .i64)], .cells [.sl 7, .sc (.int .i64), .sc (.int .i64), .sc (.int .i64)], .cells [.fn 44 [(4, 0), (5, 0)], .sc (.int .i64)], .cells [.sl 8], .cells [.sc (.int .i64)], .rows 29 [.int .i64, .int .i64, .int .i64, .int .i64, .int .i64], .rows 29 [.int .i64, .int .i64, .int .i64, .int .i64, .int .i64], .ext 91 [.int .u32]]
def c_dual_Queue_served : FC := mkFCH 6 a_dual_Queue_served b_dual_Queue_served ra_dual_Queue_served rb_dual_Queue_served dual_Queue_served
theorem t_dual_Queue_served (N : Nat) : FCOK Try.prog N 31 c_dual_Queue_served := eff_ok facts (ok_turn_Serve N) (by kernel_rfl) (by kernel_rfl) (q_dual_Queue_served N) (fun t => by kernel_rfl)
def o_dual_Queue_served : List (Nat × FC) := (31, c_dual_Queue_served) :: o_turn_Serve
theorem ok_dual_Queue_served (N : Nat) : OrcOK Try.prog o_dual_Queue_served N := orc_cons (t_dual_Queue_served N) (ok_turn_Serve N)
def p_dual_Queue_Take_2 : List Pat := [.ptr 0 0, .sc (.int .i64), .any, .any, .ptr 6 0, .any, .any, .sl 7, .any, .any, .any, .any, .any, .any, .any, .any, .any, .any, .any, .any, .any, .any, .any, .any, .any, .any, .any, .any, .any, .any, .any, .any, .any, .any, .any, .any, .any, .any, .any, .any, .any, .any, .any, .any, .any, .any, .any, .any, .any, .any, .any, .any, .any, .any, .any, .any, .any, .any, .any, .any, .any, .any, .any, .any, .any, .any, .any, .any, .any, .any, .any, .any, .any, .any, .any, .any, .any, .any, .any, .any, .any, .any, .any, .any, .any, .any, .any, .any, .any, .any, .any, .any, .any, .any, .any, .any, .any, .any, .any, .any, .any, .any, .any, .any, .any, .any, .any]
def h_dual_Queue_Take_2 : List HPat := [.cells [.grp [.int .i64, .int .i64, .int .i64, .int .i64, .int .i64, .int .i64, .int .i64, .int .i64], .nilp, .ptr 1 0, .ptr 2 0, .grp [.int .i64, .int .i64, .int .i64, .int .i64, .int .i64, .int .i64, .int .i64, .int .i64, .int .i64], .grp [.int .i64, .int .i64, .int .i64, .int .i64, .int .i64, .int .i64, .int .i64, .int .i64, .int .i64], .grp [.int .i64, .int .i64, .int .i64, .int .i64, .int .i64, .int .i64, .int .i64, .int .i64, .int .i64], .grp [.int .i64, .int .i64], .sc (.int .i64), .ptr 3 0], .cells [.sl 8, .sc (.int .i64), .sc (.int .i64), .sc (.int .i64)], .cells [.sl 9, .sc (.int .i64), .sc (.int .i64), .sc (.int .i64)], .cells [.fn 44 [(4, 0), (5, 0)], .sc (.int .i64)], .cells [.sl 10], .cells [.sc (.int .i64)], .cells [.grp [.int .i64, .int .i64, .int .i64, .int .i64, .int .i64]], .rows 29 [.int .i64, .int .i64, .int .i64, .int .i64, .int .i64], .rows 29 [.int .i64, .int .i64, .int .i64, .int .i64, .int .i64], .rows 29 [.int .i64, .int .i64, .int .i64, .int .i64, .int .i64], .ext 91 [.int .u32]]
def x_dual_Queue_Take_2 : List XP := [⟨.ret, [.any, .any, .any, .any, .ptr 6 0, .sl 7, .sc (.bool), .any, .any, .any, .any, .any, .any, .any, .any, .any, .any, .any, .any, .any, .any, .any, .any, .any, .any, .any, .any, .any, .any, .any, .any, .any, .any, .any, .any, .any, .any, .any, .any, .any, .any, .any, .any, .any, .any, .any, .any, .any, .any, .any, .any, .any, .any, .any, .any, .any, .any, .any, .any, .any, .any, .any, .any, .any, .any, .any, .any, .any, .any, .any, .any, .any, .any, .any, .any, .any, .any, .any, .any, .any, .any, .any, .any, .any, .any, .any, .any, .any, .any, .any, .any, .any, .any, .any, .any, .any, .any, .any, .any, .any, .any, .any, .any, .any, .any, .any, .any], [.cells [.grp [.int .i64, .int .i64, .int .i64, .int .i64, .int .i64, .int .i64, .int .i64, .int .i64], .nilp, .ptr 1 0, .ptr 2 0, .grp [.int .i64, .int .i64, .int .i64, .int .i64, .int .i64, .int .i64, .int .i64, .int .i64, .int .i64], .grp [.int .i64, .int .i64, .int .i64, .int .i64, .int .i64, .int .i64, .int .i64, .int .i64, .int .i64], .grp [.int .i64, .int .i64, .int .i64, .int .i64, .int .i64, .int .i64, .int .i64, .int .i64, .int .i64], .grp [.int .i64, .int .i64], .sc (.int .i64), .ptr 3 0], .cells [.sl 8, .sc (.int .i64), .sc (.int .i64), .sc (.int .i64)], .cells [.sl 9, .sc (.int .i64), .sc (.int .i64), .sc (.int .i64)], .cells [.fn 44 [(4, 0), (5, 0)], .sc (.int .i64)], .cells [.sl 10], .cells [.sc (.int .i64)], .cells [.grp [.int .i64, .int .i64, .int .i64, .int .i64, .int .i64]], .rows 29 [.int .i64, .int .i64, .int .i64, .int .i64, .int .i64], .rows 29 [.int .i64, .int .i64, .int .i64, .int .i64, .int .i64], .rows 29 [.int .i64, .int .i64, .int .i64, .int .i64, .int .i64], .ext 91 [.int .u32]]⟩, ⟨.exit 0, [.any, .any, .any, .any, .ptr 6 0, .any, .any, .sl 7, .any, .any, .any, .any, .any, .any, .any, .any, .any, .any, .any, .any, .any, .any, .any, .any, .any, .any, .any, .any, .any, .any, .any, .any, .any, .any, .any, .any, .any, .any, .any, .any, .any, .any, .any, .any, .any, .any, .any, .any, .any, .any, .any, .any, .any, .any, .any, .any, .any, .any, .any, .any, .any, .any, .any, .any, .any, .any, .any, .any, .any, .any, .any, .any, .any, .any, .any, .any, .any, .any, .any, .any, .any, .any, .any, .any, .any, .any, .any, .any, .any, .any, .any, .any, .any, .any, .any, .any, .any, .any, .any, .any, .any, .any, .any, .any, .any, .any, .any], [.cells [.grp [.int .i64, .int .i64, .int .i64, .int .i64, .int .i64, .int .i64, .int .i64, .int .i64], .nilp, .ptr 1 0, .ptr 2 0, .grp [.int .i64, .int .i64, .int .i64, .int .i64, .int .i64, .int .i64, .int .i64, .int .i64, .int .i64], .grp [.int .i64, .int .i64, .int .i64, .int .i64, .int .i64, .int .i64, .int .i64, .int .i64, .int .i64], .grp [.int .i64, .int .i64, .int .i64, .int .i64, .int .i64, .int .i64, .int .i64, .int .i64, .int .i64], .grp [.int .i64, .int .i64], .sc (.int .i64), .ptr 3 0], .cells [.sl 8, .sc (.int .i64), .sc (.int .i64), .sc (.int .i64)], .cells [.sl 9, .sc (.int .i64), .sc (.int .i64), .sc (.int .i64)], .cells [.fn 44 [(4, 0), (5, 0)], .sc (.int .i64)], .cells [.sl 10], .cells [.sc (.int .i64)], .cells [.grp [.int .i64, .int .i64, .int .i64, .int .i64, .int .i64]], .rows 29 [.int .i64, .int .i64, .int .i64, .int .i64, .int .i64], .rows 29 [.int .i64, .int .i64, .int .i64, .int .i64, .int .i64], .rows 29 [.int .i64, .int .i64, .int .i64, .int .i64, .int .i64], .ext 91 [.int .u32]]⟩]
def lc_dual_Queue_Take_2 (N : Nat) : LC := mkLC 6 p_dual_Queue_Take_2 h_dual_Queue_Take_2 x_dual_Queue_Take_2 (dual_Queue_Take_L2 N)
def s_dual_Queue_Take (N : Nat) : List (Nat × LC) := [(2, lc_dual_Queue_Take_2 N)]
noncomputable def e_dual_Queue_Take (N : Nat) : Env := mkEnvX 6 [(8, 3)] Try.prog o_dual_Queue_served (s_dual_Queue_Take N) N
theorem k_dual_Queue_Take_2 (N : Nat) : LCOK (e_dual_Queue_Take N) 12 (loopAt Try.prog 8 0) (lc_dual_Queue_Take_2 N) := mkLC_ok rfl (by kernel_rfl) (by kernel_rfl) (fun F x => by kernel_rfl)
theorem q_dual_Queue_Take (N : Nat) : LoopsFor (e_dual_Queue_Take N) Try.prog 8 1 := ⟨by kernel_rfl, fun j hj => match j, hj with
  | 0, _ => .inl ⟨lc_dual_Queue_Take_2 N, by kernel_rfl, k_dual_Queue_Take_2 N⟩
  | _ + 1, h => absurd h (by omega)⟩
def a_dual_Queue_Take : List Pat := [.ptr 0 0, .sc (.int .i64)]
def b_dual_Queue_Take : List HPat := [.cells [.grp [.int .i64, .int .i64, .int .i64, .int .i64, .int .i64, .int .i64, .int .i64, .int .i64], .nilp, .ptr 1 0, .ptr 2 0, .grp [.int .i64, .int .i64, .int .i64, .int .i64, .int .i64, .int .i64, .int .i64, .int .i64, .int .i64], .grp [.int .i64, .int .i64, .int .i64, .int .i64, .int .i64, .int .i64, .int .i64, .int .i64, .int .i64], .grp [.int .i64, .int .i64, .int .i64, .int .i64, .int .i64, .int .i64, .int .i64, .int .i64, .int .i64], .grp [.int .i64, .int .i64], .sc (.int .i64), .ptr 3 0], .cells [.sl 6, .sc (.int .i64), .sc (.int .i64), .sc (.int .i64)], .cells [.sl 7, .sc (.int .i64), .sc (.int .i64), .sc (.int .i64)], .cells [.fn 44 [(4, 0), (5, 0)], .sc (.int .i64)], .cells [.sl 8], .cells [.sc (.int .i64)], .rows 29 [.int .i64, .int .i64, .int .i64, .int .i64, .int .i64], .rows 29 [.int .i64, .int .i64, .int .i64, .int .i64, .int .i64], .ext 91 [.int .u32]]
def ra_dual_Queue_Take : List Pat := [.agg [.int .i64, .int .i64, .int .i64, .int .i64, .int .i64], .sl 9, .sc (.bool)]
def rb_dual_Queue_Take : List HPat := [.cells [.grp [.int .i64, .int .i64, .int .i64, .int .i64, .int .i64, .int .i64, .int .i64, .int .i64], .nilp, .ptr 1 0, .ptr 2 0, .grp [.int .i64, .int .i64, .int .i64, .int .i64, .int .i64, .int .i64, .int .i64, .int .i64, .int .i64], .grp [.int .i64, .int .i64, .int .i64, .int .i64, .int .i64, .int .i64, .int .i64, .int .i64, .int .i64], .grp [.int .i64, .int .i64, .int .i64, .int .i64, .int .i64, .int .i64, .int .i64, .int .i64, .int .i64], .grp [.int .i64, .int .i64], .sc (.int .i64), .ptr 3 0], .cells [.sl 6, .sc (.int .i64), .sc (.int .i64), .sc (.int .i64)], .cells [.sl 7, .sc (.int .i64), .sc (.int .i64), .sc (.int .i64)], .cells [.fn 44 [(4, 0), (5, 0)], .sc (.int .i64)], .cells [.sl 8], .cells [.sc (.int .i64)], .rows 29 [.int .i64, .int .i64, .int .i64, .int .i64, .int .i64], .rows 29 [.int .i64, .int .i64, .int .i64, .int .i64, .int .i64], .ext 91 [.int .u32], .rows 29 [.int .i64, .int .i64, .int .i64, .int .i64, .int .i64]]
def c_dual_Queue_Take : FC := mkFCH 6 a_dual_Queue_Take b_dual_Queue_Take ra_dual_Queue_Take rb_dual_Queue_Take dual_Queue_Take
theorem t_dual_Queue_Take (N : Nat) : FCOK Try.prog N 8 c_dual_Queue_Take := eff_ok facts (ok_dual_Queue_served N) (by kernel_rfl) (by kernel_rfl) (q_dual_Queue_Take N) (fun t => by kernel_rfl)
def o_dual_Queue_Take : List (Nat × FC) := (8, c_dual_Queue_Take) :: o_dual_Queue_served
theorem ok_dual_Queue_Take (N : Nat) : OrcOK Try.prog o_dual_Queue_Take N := orc_cons (t_dual_Queue_Take N) (ok_dual_Queue_served N)
def p_leatlaw36_queue_2 : List Pat := [.any, .any, .sc (.bool), .ptr 0 0, .ptr 1 0, .any, .any, .sc (.int .i64), .any, .any, .any, .any, .any, .any, .any, .any, .any, .any, .any, .any, .any, .any, .any, .any, .any, .any, .any, .any, .any, .any, .any, .any, .any, .any, .any, .any, .any, .any, .any, .any, .any, .any, .any, .any, .any, .any, .any, .any, .any, .any, .any, .any, .any, .any]
def h_leatlaw36_queue_2 : List HPat := [.cells [.sl 2, .sl 3, .sl 4], .cells [.grp [.int .i64, .int .i64, .int .i64, .int .i64, .int .i64]], .ext 29 [.int .i64, .int .i64, .int .i64, .int .i64, .int .i64], .ext 29 [.int .i64, .int .i64, .int .i64, .int .i64, .int .i64], .ext 29 [.int .i64, .int .i64, .int .i64, .int .i64, .int .i64]]
def x_leatlaw36_queue_2 : List XP := [⟨.ret, [.any, .any, .any, .any, .any, .any, .sc (.int .i64), .any, .any, .any, .any, .any, .any, .any, .any, .any, .any, .any, .any, .any, .any, .any, .any, .any, .any, .any, .any, .any, .any, .any, .any, .any, .any, .any, .any, .any, .any, .any, .any, .any, .any, .any, .any, .any, .any, .any, .any, .any, .any, .any, .any, .any, .any, .any], []⟩, ⟨.exit 0, [.any, .any, .any, .any, .any, .any, .any, .any, .any, .any, .any, .any, .any, .any, .any, .any, .any, .any, .any, .any, .any, .any, .any, .any, .any, .any, .any, .any, .any, .any, .any, .any, .any, .any, .any, .any, .any, .any, .any, .any, .any, .any, .any, .any, .any, .any, .any, .any, .any, .any, .any, .any, .any, .any], []⟩]
def lc_leatlaw36_queue_2 (N : Nat) : LC := mkLC 0 p_leatlaw36_queue_2 h_leatlaw36_queue_2 x_leatlaw36_queue_2 (leatlaw36_queue_L2 N)
def s_leatlaw36_queue (N : Nat) : List (Nat × LC) := [(2, lc_leatlaw36_queue_2 N)]
noncomputable def e_leatlaw36_queue (N : Nat) : Env := mkEnvX 0 [] Try.prog o_dual_Queue_Take (s_leatlaw36_queue N) N
theorem k_leatlaw36_queue_2 (N : Nat) : LCOK (e_leatlaw36_queue N) 12 (loopAt Try.prog 15 0) (lc_leatlaw36_queue_2 N) := mkLC_ok rfl (by kernel_rfl) (by kernel_rfl) (fun F x => by kernel_rfl)
theorem q_leatlaw36_queue (N : Nat) : LoopsFor (e_leatlaw36_queue N) Try.prog 15 1 := ⟨by kernel_rfl, fun j hj => match j, hj with
  | 0, _ => .inl ⟨lc_leatlaw36_queue_2 N, by kernel_rfl, k_leatlaw36_queue_2 N⟩
  | _ + 1, h => absurd h (by omega)⟩
def a_leatlaw36_queue : List Pat := [.aggp [.sl 0, .sl 1, .sl 2], .agg [.int .i64, .int .i64, .int .i64, .int .i64, .int .i64], .sc (.bool)]
def b_leatlaw36_queue : List HPat := [.ext 29 [.int .i64, .int .i64, .int .i64, .int .i64, .int .i64], .ext 29 [.int .i64, .int .i64, .int .i64, .int .i64, .int .i64], .ext 29 [.int .i64, .int .i64, .int .i64, .int .i64, .int .i64]]
def c_leatlaw36_queue : FC := mkFC a_leatlaw36_queue b_leatlaw36_queue [.sc (.int .i64)] leatlaw36_queue
theorem t_leatlaw36_queue (N : Nat) : FCOK Try.prog N 15 c_leatlaw36_queue := ro_ok facts (ok_dual_Queue_Take N) (by kernel_rfl) (by kernel_rfl) (q_leatlaw36_queue N) (fun t => by kernel_rfl)
def o_leatlaw36_queue : List (Nat × FC) := (15, c_leatlaw36_queue) :: o_dual_Queue_Take
theorem ok_leatlaw36_queue (N : Nat) : OrcOK Try.prog o_leatlaw36_queue N := orc_cons (t_leatlaw36_queue N) (ok_dual_Queue_Take N)
def s_leatref09_Is (_ : Nat) : List (Nat × LC) := []
noncomputable def e_leatref09_Is (N : Nat) : Env := mkEnvX 0 [] Try.prog o_leatlaw36_queue (s_leatref09_Is N) N
theorem q_leatref09_Is (N : Nat) : LoopsFor (e_leatref09_Is N) Try.prog 37 0 := ⟨by kernel_rfl, fun j hj => match j, hj with
  | _ + 0, h => absurd h (by omega)⟩
def c_leatref09_Is : FC := mkF [.sc (.int .i64)] [.sc (.bool)] leatref09_Is
theorem t_leatref09_Is (N : Nat) : FCOK Try.prog N 37 c_leatref09_Is := fun_ok facts (ok_leatlaw36_queue N) (by kernel_rfl) (by kernel_rfl) (q_leatref09_Is N) (fun t => by kernel_rfl)
def o_leatref09_Is : List (Nat × FC) := (37, c_leatref09_Is) :: o_leatlaw36_queue
theorem ok_leatref09_Is (N : Nat) : OrcOK Try.prog o_leatref09_Is N := orc_cons (t_leatref09_Is N) (ok_leatlaw36_queue N)
def s_leatref09_Legal (_ : Nat) : List (Nat × LC) := []
noncomputable def e_leatref09_Legal (N : Nat) : Env := mkEnvX 0 [] Try.prog o_leatref09_Is (s_leatref09_Legal N) N
theorem q_leatref09_Legal (N : Nat) : LoopsFor (e_leatref09_Legal N) Try.prog 16 0 := ⟨by kernel_rfl, fun j hj => match j, hj with
  | _ + 0, h => absurd h (by omega)⟩
def c_leatref09_Legal : FC := mkF [.sc (.int .i64), .sc (.int .i64)] [.sc (.bool)] leatref09_Legal
theorem t_leatref09_Legal (N : Nat) : FCOK Try.prog N 16 c_leatref09_Legal := fun_ok facts (ok_leatref09_Is N) (by kernel_rfl) (by kernel_rfl) (q_leatref09_Legal N) (fun t => by kernel_rfl)
def o_leatref09_Legal : List (Nat × FC) := (16, c_leatref09_Legal) :: o_leatref09_Is
theorem ok_leatref09_Legal (N : Nat) : OrcOK Try.prog o_leatref09_Legal N := orc_cons (t_leatref09_Legal N) (ok_leatref09_Is N)
def s_dual_Queue_Wait (_ : Nat) : List (Nat × LC) := []
noncomputable def e_dual_Queue_Wait (N : Nat) : Env := mkEnvX 0 [] Try.prog o_leatref09_Legal (s_dual_Queue_Wait N) N
theorem q_dual_Queue_Wait (N : Nat) : LoopsFor (e_dual_Queue_Wait N) Try.prog 19 0 := ⟨by kernel_rfl, fun j hj => match j, hj with
  | _ + 0, h => absurd h (by omega)⟩
def a_dual_Queue_Wait : List Pat := [.ptr 0 0, .sc (.int .i64)]
def b_dual_Queue_Wait : List HPat := [.rcells [.grp [.int .i64, .int .i64, .int .i64, .int .i64, .int .i64, .int .i64, .int .i64, .int .i64], .nilp, .ptr 1 0, .ptr 2 0, .grp [.int .i64, .int .i64, .int .i64, .int .i64, .int .i64, .int .i64, .int .i64, .int .i64, .int .i64], .grp [.int .i64, .int .i64, .int .i64, .int .i64, .int .i64, .int .i64, .int .i64, .int .i64, .int .i64], .grp [.int .i64, .int .i64, .int .i64, .int .i64, .int .i64, .int .i64, .int .i64, .int .i64, .int .i64], .grp [.int .i64, .int .i64], .sc (.int .i64), .any], .rcells [.sl 3, .sc (.int .i64), .sc (.int .i64), .sc (.int .i64)], .rcells [.sl 4, .sc (.int .i64), .sc (.int .i64), .sc (.int .i64)], .ext 29 [.int .i64, .int .i64, .int .i64, .int .i64, .int .i64], .ext 29 [.int .i64, .int .i64, .int .i64, .int .i64, .int .i64]]
def c_dual_Queue_Wait : FC := mkFC a_dual_Queue_Wait b_dual_Queue_Wait [.sc (.int .i64), .sc (.int .i64)] dual_Queue_Wait
theorem t_dual_Queue_Wait (N : Nat) : FCOK Try.prog N 19 c_dual_Queue_Wait := ro_ok facts (ok_leatref09_Legal N) (by kernel_rfl) (by kernel_rfl) (q_dual_Queue_Wait N) (fun t => by kernel_rfl)
def o_dual_Queue_Wait : List (Nat × FC) := (19, c_dual_Queue_Wait) :: o_leatref09_Legal
theorem ok_dual_Queue_Wait (N : Nat) : OrcOK Try.prog o_dual_Queue_Wait N := orc_cons (t_dual_Queue_Wait N) (ok_leatref09_Legal N)
def s_pi_keep_1 (_ : Nat) : List (Nat × LC) := []
noncomputable def e_pi_keep_1 (N : Nat) : Env := mkEnvX 0 [] Try.prog o_dual_Queue_Wait (s_pi_keep_1 N) N
theorem q_pi_keep_1 (N : Nat) : LoopsFor (e_pi_keep_1 N) Try.prog 74 0 := ⟨by kernel_rfl, fun j hj => match j, hj with
  | _ + 0, h => absurd h (by omega)⟩
def a_pi_keep_1 : List Pat := [.sc (.int .i64), .ptr 0 0]
def b_pi_keep_1 : List HPat := [.rcells [.sc (.int .i64)]]
def c_pi_keep_1 : FC := mkFC a_pi_keep_1 b_pi_keep_1 [.sc (.int .i64)] pi_keep_1
theorem t_pi_keep_1 (N : Nat) : FCOK Try.prog N 74 c_pi_keep_1 := ro_ok facts (ok_dual_Queue_Wait N) (by kernel_rfl) (by kernel_rfl) (q_pi_keep_1 N) (fun t => by kernel_rfl)
def o_pi_keep_1 : List (Nat × FC) := (74, c_pi_keep_1) :: o_dual_Queue_Wait
theorem ok_pi_keep_1 (N : Nat) : OrcOK Try.prog o_pi_keep_1 N := orc_cons (t_pi_keep_1 N) (ok_dual_Queue_Wait N)
def s_sat_Div (_ : Nat) : List (Nat × LC) := []
noncomputable def e_sat_Div (N : Nat) : Env := mkEnvX 0 [] Try.prog o_pi_keep_1 (s_sat_Div N) N
theorem q_sat_Div (N : Nat) : LoopsFor (e_sat_Div N) Try.prog 58 0 := ⟨by kernel_rfl, fun j hj => match j, hj with
  | _ + 0, h => absurd h (by omega)⟩
def c_sat_Div : FC := mkF [.sc (.int .i64), .sc (.int .i64)] [.sc (.int .i64)] sat_Div
theorem t_sat_Div (N : Nat) : FCOK Try.prog N 58 c_sat_Div := fun_ok facts (ok_pi_keep_1 N) (by kernel_rfl) (by kernel_rfl) (q_sat_Div N) (fun t => by kernel_rfl)
def o_sat_Div : List (Nat × FC) := (58, c_sat_Div) :: o_pi_keep_1
theorem ok_sat_Div (N : Nat) : OrcOK Try.prog o_sat_Div N := orc_cons (t_sat_Div N) (ok_pi_keep_1 N)
def s_pi_Step (_ : Nat) : List (Nat × LC) := []
noncomputable def e_pi_Step (N : Nat) : Env := mkEnvX 0 [] Try.prog o_sat_Div (s_pi_Step N) N
theorem q_pi_Step (N : Nat) : LoopsFor (e_pi_Step N) Try.prog 32 0 := ⟨by kernel_rfl, fun j hj => match j, hj with
  | _ + 0, h => absurd h (by omega)⟩
def c_pi_Step : FC := mkF [.agg [.int .i64, .int .i64], .sc (.int .i64), .agg [.int .i64, .int .i64, .int .i64, .int .i64, .int .i64, .int .i64, .int .i64, .int .i64]] [.agg [.int .i64, .int .i64]] pi_Step
theorem t_pi_Step (N : Nat) : FCOK Try.prog N 32 c_pi_Step := fun_ok facts (ok_sat_Div N) (by kernel_rfl) (by kernel_rfl) (q_pi_Step N) (fun t => by kernel_rfl)
def o_pi_Step : List (Nat × FC) := (32, c_pi_Step) :: o_sat_Div
theorem ok_pi_Step (N : Nat) : OrcOK Try.prog o_pi_Step N := orc_cons (t_pi_Step N) (ok_sat_Div N)
def s_dual_Queue_Update (_ : Nat) : List (Nat × LC) := []
noncomputable def e_dual_Queue_Update (N : Nat) : Env := mkEnvX 6 [] Try.prog o_pi_Step (s_dual_Queue_Update N) N
theorem q_dual_Queue_Update (N : Nat) : LoopsFor (e_dual_Queue_Update N) Try.prog 9 0 := ⟨by kernel_rfl, fun j hj => match j, hj with
  | _ + 0, h => absurd h (by omega)⟩
def a_dual_Queue_Update : List Pat := [.ptr 0 0, .sc (.int .i64)]
def b_dual_Queue_Update : List HPat := [.cells [.grp [.int .i64, .int .i64, .int .i64, .int .i64, .int .i64, .int .i64, .int .i64, .int .i64], .nilp, .ptr 1 0, .ptr 2 0, .grp [.int .i64, .int .i64, .int .i64, .int .i64, .int .i64, .int .i64, .int .i64, .int .i64, .int .i64], .grp [.int .i64, .int .i64, .int .i64, .int .i64, .int .i64, .int .i64, .int .i64, .int .i64, .int .i64], .grp [.int .i64, .int .i64, .int .i64, .int .i64, .int .i64, .int .i64, .int .i64, .int .i64, .int .i64], .grp [.int .i64, .int .i64], .sc (.int .i64), .ptr 3 0], .cells [.sl 6, .sc (.int .i64), .sc (.int .i64), .sc (.int .i64)], .cells [.sl 7, .sc (.int .i64), .sc (.int .i64), .sc (.int .i64)], .cells [.fn 44 [(4, 0), (5, 0)], .sc (.int .i64)], .cells [.sl 8], .cells [.sc (.int .i64)], .rows 29 [.int .i64, .int .i64, .int .i64, .int .i64, .int .i64], .rows 29 [.int .i64, .int .i64, .int .i64, .int .i64, .int .i64], .ext 91 [.int .u32]]
def ra_dual_Queue_Update : List Pat := []
def rb_dual_Queue_Update : List HPat := [.cells [.grp [.int .i64, .int .i64, .int .i64, .int .i64, .int .i64, .int .i64, .int .i64, .int .i64], .nilp, .ptr 1 0, .ptr 2 0, .grp [.int .i64, .int .i64, .int .i64, .int .i64, .int .i64, .int .i64, .int .i64, .int .i64, .int .i64], .grp [.int .i64, .int .i64, .int .i64, .int .i64, .int .i64, .int .i64, .int .i64, .int .i64, .int .i64], .grp [.int .i64, .int .i64, .int .i64, .int .i64, .int .i64, .int .i64, .int .i64, .int .i64, .int .i64], .grp [.int .i64, .int .i64], .sc (.int .i64), .ptr 3 0], .cells [.sl 6, .sc (.int .i64), .sc (.int .i64), .sc (.int .i64)], .cells [.sl 7, .sc (.int .i64), .sc (.int .i64), .sc (.int .i64)], .cells [.fn 44 [(4, 0), (5, 0)], .sc (.int .i64)], .cells [.sl 8], .cells [.sc (.int .i64)], .rows 29 [.int .i64, .int .i64, .int .i64, .int .i64, .int .i64], .rows 29 [.int .i64, .int .i64, .int .i64, .int .i64, .int .i64], .ext 91 [.int .u32]]
def c_dual_Queue_Update : FC := mkFCH 6 a_dual_Queue_Update b_dual_Queue_Update ra_dual_Queue_Update rb_dual_Queue_Update dual_Queue_Update
theorem t_dual_Queue_Update (N : Nat) : FCOK Try.prog N 9 c_dual_Queue_Update := eff_ok facts (ok_pi_Step N) (by kernel_rfl) (by kernel_rfl) (q_dual_Queue_Update N) (fun t => by kernel_rfl)
def o_dual_Queue_Update : List (Nat × FC) := (9, c_dual_Queue_Update) :: o_pi_Step
theorem ok_dual_Queue_Update (N : Nat) : OrcOK Try.prog o_dual_Queue_Update N := orc_cons (t_dual_Queue_Update N) (ok_pi_Step N)
def s_ecn_is (_ : Nat) : List (Nat × LC) := []
noncomputable def e_ecn_is (N : Nat) : Env := mkEnvX 0 [] Try.prog o_dual_Queue_Update (s_ecn_is N) N
theorem q_ecn_is (N : Nat) : LoopsFor (e_ecn_is N) Try.prog 75 0 := ⟨by kernel_rfl, fun j hj => match j, hj with
  | _ + 0, h => absurd h (by omega)⟩
def c_ecn_is : FC := mkF [.sc (.int .i64)] [.sc (.bool)] ecn_is
theorem t_ecn_is (N : Nat) : FCOK Try.prog N 75 c_ecn_is := fun_ok facts (ok_dual_Queue_Update N) (by kernel_rfl) (by kernel_rfl) (q_ecn_is N) (fun t => by kernel_rfl)
def o_ecn_is : List (Nat × FC) := (75, c_ecn_is) :: o_dual_Queue_Update
theorem ok_ecn_is (N : Nat) : OrcOK Try.prog o_ecn_is N := orc_cons (t_ecn_is N) (ok_dual_Queue_Update N)
def s_ecn_Low (_ : Nat) : List (Nat × LC) := []
noncomputable def e_ecn_Low (N : Nat) : Env := mkEnvX 0 [] Try.prog o_ecn_is (s_ecn_Low N) N
theorem q_ecn_Low (N : Nat) : LoopsFor (e_ecn_Low N) Try.prog 59 0 := ⟨by kernel_rfl, fun j hj => match j, hj with
  | _ + 0, h => absurd h (by omega)⟩
def c_ecn_Low : FC := mkF [.sc (.int .i64)] [.sc (.bool)] ecn_Low
theorem t_ecn_Low (N : Nat) : FCOK Try.prog N 59 c_ecn_Low := fun_ok facts (ok_ecn_is N) (by kernel_rfl) (by kernel_rfl) (q_ecn_Low N) (fun t => by kernel_rfl)
def o_ecn_Low : List (Nat × FC) := (59, c_ecn_Low) :: o_ecn_is
theorem ok_ecn_Low (N : Nat) : OrcOK Try.prog o_ecn_Low N := orc_cons (t_ecn_Low N) (ok_ecn_is N)
def p_ring_Ring_api_Packet_grow_2 : List Pat := [.ptr 0 0, .any, .sl 1, .any, .any, .any, .any, .any, .any, .any, .any, .any, .any, .any, .any, .any, .any, .any, .any, .any, .sc (.int .i64), .sc (.int .i64), .any, .any, .any, .any, .any, .any, .any, .any, .any, .any, .any, .any, .any, .any, .any, .any, .any, .any, .any, .any, .any, .any, .any, .any, .any, .any, .any, .any, .any, .any, .any]
def h_ring_Ring_api_Packet_grow_2 : List HPat := [.cells [.sl 2, .sc (.int .i64), .sc (.int .i64), .sc (.int .i64)], .rows 29 [.int .i64, .int .i64, .int .i64, .int .i64, .int .i64], .rows 29 [.int .i64, .int .i64, .int .i64, .int .i64, .int .i64]]
def x_ring_Ring_api_Packet_grow_2 : List XP := [⟨.exit 0, [.ptr 0 0, .any, .sl 1, .any, .any, .any, .any, .any, .any, .any, .any, .any, .any, .any, .any, .any, .any, .any, .any, .any, .any, .any, .any, .any, .any, .any, .any, .any, .any, .any, .any, .any, .any, .any, .any, .any, .any, .any, .any, .any, .any, .any, .any, .any, .any, .any, .any, .any, .any, .any, .any, .any, .any], [.cells [.sl 2, .sc (.int .i64), .sc (.int .i64), .sc (.int .i64)], .rows 29 [.int .i64, .int .i64, .int .i64, .int .i64, .int .i64], .rows 29 [.int .i64, .int .i64, .int .i64, .int .i64, .int .i64]]⟩]
def lc_ring_Ring_api_Packet_grow_2 (N : Nat) : LC := mkLC 1 p_ring_Ring_api_Packet_grow_2 h_ring_Ring_api_Packet_grow_2 x_ring_Ring_api_Packet_grow_2 (ring_Ring_api_Packet_grow_L2 N)
def s_ring_Ring_api_Packet_grow (N : Nat) : List (Nat × LC) := [(2, lc_ring_Ring_api_Packet_grow_2 N)]
noncomputable def e_ring_Ring_api_Packet_grow (N : Nat) : Env := mkEnvX 1 [] Try.prog o_ecn_Low (s_ring_Ring_api_Packet_grow N) N
theorem k_ring_Ring_api_Packet_grow_2 (N : Nat) : LCOK (e_ring_Ring_api_Packet_grow N) 12 (loopAt Try.prog 60 0) (lc_ring_Ring_api_Packet_grow_2 N) := mkLC_ok rfl (by kernel_rfl) (by kernel_rfl) (fun F x => by kernel_rfl)
theorem q_ring_Ring_api_Packet_grow (N : Nat) : LoopsFor (e_ring_Ring_api_Packet_grow N) Try.prog 60 1 := ⟨by kernel_rfl, fun j hj => match j, hj with
  | 0, _ => .inl ⟨lc_ring_Ring_api_Packet_grow_2 N, by kernel_rfl, k_ring_Ring_api_Packet_grow_2 N⟩
  | _ + 1, h => absurd h (by omega)⟩
def a_ring_Ring_api_Packet_grow : List Pat := [.ptr 0 0]
def b_ring_Ring_api_Packet_grow : List HPat := [.cells [.sl 1, .sc (.int .i64), .sc (.int .i64), .sc (.int .i64)], .rows 29 [.int .i64, .int .i64, .int .i64, .int .i64, .int .i64]]
def ra_ring_Ring_api_Packet_grow : List Pat := []
def rb_ring_Ring_api_Packet_grow : List HPat := [.cells [.sl 1, .sc (.int .i64), .sc (.int .i64), .sc (.int .i64)], .rows 29 [.int .i64, .int .i64, .int .i64, .int .i64, .int .i64]]
def c_ring_Ring_api_Packet_grow : FC := mkFCH 1 a_ring_Ring_api_Packet_grow b_ring_Ring_api_Packet_grow ra_ring_Ring_api_Packet_grow rb_ring_Ring_api_Packet_grow ring_Ring_api_Packet_grow
theorem t_ring_Ring_api_Packet_grow (N : Nat) : FCOK Try.prog N 60 c_ring_Ring_api_Packet_grow := eff_ok facts (ok_ecn_Low N) (by kernel_rfl) (by kernel_rfl) (q_ring_Ring_api_Packet_grow N) (fun t => by kernel_rfl)
def o_ring_Ring_api_Packet_grow : List (Nat × FC) := (60, c_ring_Ring_api_Packet_grow) :: o_ecn_Low
theorem ok_ring_Ring_api_Packet_grow (N : Nat) : OrcOK Try.prog o_ring_Ring_api_Packet_grow N := orc_cons (t_ring_Ring_api_Packet_grow N) (ok_ecn_Low N)
def s_ring_Ring_api_Packet_Push (_ : Nat) : List (Nat × LC) := []
noncomputable def e_ring_Ring_api_Packet_Push (N : Nat) : Env := mkEnvX 1 [] Try.prog o_ring_Ring_api_Packet_grow (s_ring_Ring_api_Packet_Push N) N
theorem q_ring_Ring_api_Packet_Push (N : Nat) : LoopsFor (e_ring_Ring_api_Packet_Push N) Try.prog 35 0 := ⟨by kernel_rfl, fun j hj => match j, hj with
  | _ + 0, h => absurd h (by omega)⟩
def a_ring_Ring_api_Packet_Push : List Pat := [.ptr 0 0, .agg [.int .i64, .int .i64, .int .i64, .int .i64, .int .i64]]
def b_ring_Ring_api_Packet_Push : List HPat := [.cells [.sl 1, .sc (.int .i64), .sc (.int .i64), .sc (.int .i64)], .rows 29 [.int .i64, .int .i64, .int .i64, .int .i64, .int .i64]]
def ra_ring_Ring_api_Packet_Push : List Pat := [.sc (.int .i64)]
def rb_ring_Ring_api_Packet_Push : List HPat := [.cells [.sl 1, .sc (.int .i64), .sc (.int .i64), .sc (.int .i64)], .rows 29 [.int .i64, .int .i64, .int .i64, .int .i64, .int .i64]]
def c_ring_Ring_api_Packet_Push : FC := mkFCH 1 a_ring_Ring_api_Packet_Push b_ring_Ring_api_Packet_Push ra_ring_Ring_api_Packet_Push rb_ring_Ring_api_Packet_Push ring_Ring_api_Packet_Push
theorem t_ring_Ring_api_Packet_Push (N : Nat) : FCOK Try.prog N 35 c_ring_Ring_api_Packet_Push := eff_ok facts (ok_ring_Ring_api_Packet_grow N) (by kernel_rfl) (by kernel_rfl) (q_ring_Ring_api_Packet_Push N) (fun t => by kernel_rfl)
def o_ring_Ring_api_Packet_Push : List (Nat × FC) := (35, c_ring_Ring_api_Packet_Push) :: o_ring_Ring_api_Packet_grow
theorem ok_ring_Ring_api_Packet_Push (N : Nat) : OrcOK Try.prog o_ring_Ring_api_Packet_Push N := orc_cons (t_ring_Ring_api_Packet_Push N) (ok_ring_Ring_api_Packet_grow N)
def s_dual_Queue_Put (_ : Nat) : List (Nat × LC) := []
noncomputable def e_dual_Queue_Put (N : Nat) : Env := mkEnvX 6 [] Try.prog o_ring_Ring_api_Packet_Push (s_dual_Queue_Put N) N
theorem q_dual_Queue_Put (N : Nat) : LoopsFor (e_dual_Queue_Put N) Try.prog 10 0 := ⟨by kernel_rfl, fun j hj => match j, hj with
  | _ + 0, h => absurd h (by omega)⟩
def a_dual_Queue_Put : List Pat := [.ptr 0 0, .sc (.int .i64), .agg [.int .i64, .int .i64, .int .i64, .int .i64, .int .i64]]
def b_dual_Queue_Put : List HPat := [.cells [.grp [.int .i64, .int .i64, .int .i64, .int .i64, .int .i64, .int .i64, .int .i64, .int .i64], .nilp, .ptr 1 0, .ptr 2 0, .grp [.int .i64, .int .i64, .int .i64, .int .i64, .int .i64, .int .i64, .int .i64, .int .i64, .int .i64], .grp [.int .i64, .int .i64, .int .i64, .int .i64, .int .i64, .int .i64, .int .i64, .int .i64, .int .i64], .grp [.int .i64, .int .i64, .int .i64, .int .i64, .int .i64, .int .i64, .int .i64, .int .i64, .int .i64], .grp [.int .i64, .int .i64], .sc (.int .i64), .ptr 3 0], .cells [.sl 6, .sc (.int .i64), .sc (.int .i64), .sc (.int .i64)], .cells [.sl 7, .sc (.int .i64), .sc (.int .i64), .sc (.int .i64)], .cells [.fn 44 [(4, 0), (5, 0)], .sc (.int .i64)], .cells [.sl 8], .cells [.sc (.int .i64)], .rows 29 [.int .i64, .int .i64, .int .i64, .int .i64, .int .i64], .rows 29 [.int .i64, .int .i64, .int .i64, .int .i64, .int .i64], .ext 91 [.int .u32]]
def ra_dual_Queue_Put : List Pat := [.sc (.bool)]
def rb_dual_Queue_Put : List HPat := [.cells [.grp [.int .i64, .int .i64, .int .i64, .int .i64, .int .i64, .int .i64, .int .i64, .int .i64], .nilp, .ptr 1 0, .ptr 2 0, .grp [.int .i64, .int .i64, .int .i64, .int .i64, .int .i64, .int .i64, .int .i64, .int .i64, .int .i64], .grp [.int .i64, .int .i64, .int .i64, .int .i64, .int .i64, .int .i64, .int .i64, .int .i64, .int .i64], .grp [.int .i64, .int .i64, .int .i64, .int .i64, .int .i64, .int .i64, .int .i64, .int .i64, .int .i64], .grp [.int .i64, .int .i64], .sc (.int .i64), .ptr 3 0], .cells [.sl 6, .sc (.int .i64), .sc (.int .i64), .sc (.int .i64)], .cells [.sl 7, .sc (.int .i64), .sc (.int .i64), .sc (.int .i64)], .cells [.fn 44 [(4, 0), (5, 0)], .sc (.int .i64)], .cells [.sl 8], .cells [.sc (.int .i64)], .rows 29 [.int .i64, .int .i64, .int .i64, .int .i64, .int .i64], .rows 29 [.int .i64, .int .i64, .int .i64, .int .i64, .int .i64], .ext 91 [.int .u32]]
def c_dual_Queue_Put : FC := mkFCH 6 a_dual_Queue_Put b_dual_Queue_Put ra_dual_Queue_Put rb_dual_Queue_Put dual_Queue_Put
theorem t_dual_Queue_Put (N : Nat) : FCOK Try.prog N 10 c_dual_Queue_Put := eff_ok facts (ok_ring_Ring_api_Packet_Push N) (by kernel_rfl) (by kernel_rfl) (q_dual_Queue_Put N) (fun t => by kernel_rfl)
def o_dual_Queue_Put : List (Nat × FC) := (10, c_dual_Queue_Put) :: o_ring_Ring_api_Packet_Push
theorem ok_dual_Queue_Put (N : Nat) : OrcOK Try.prog o_dual_Queue_Put N := orc_cons (t_dual_Queue_Put N) (ok_ring_Ring_api_Packet_Push N)
def s_leatlaw36_works (_ : Nat) : List (Nat × LC) := []
noncomputable def e_leatlaw36_works (N : Nat) : Env := mkEnvX 0 [] Try.prog o_dual_Queue_Put (s_leatlaw36_works N) N
theorem q_leatlaw36_works (N : Nat) : LoopsFor (e_leatlaw36_works N) Try.prog 14 0 := ⟨by kernel_rfl, fun j hj => match j, hj with
  | _ + 0, h => absurd h (by omega)⟩
def c_leatlaw36_works : FC := mkF [] [.sc (.bool)] leatlaw36_works
theorem t_leatlaw36_works (N : Nat) : FCOK Try.prog N 14 c_leatlaw36_works := fun_ok facts (ok_dual_Queue_Put N) (by kernel_rfl) (by kernel_rfl) (q_leatlaw36_works N) (fun t => by kernel_rfl)
def o_leatlaw36_works : List (Nat × FC) := (14, c_leatlaw36_works) :: o_dual_Queue_Put
theorem ok_leatlaw36_works (N : Nat) : OrcOK Try.prog o_leatlaw36_works N := orc_cons (t_leatlaw36_works N) (ok_dual_Queue_Put N)
def p_leatlaw36_DualOrders_20 : List Pat := [.any, .any, .any, .any, .any, .any, .any, .ptr 0 0, .ptr 1 0, .any, .any, .any, .sl 2, .sc (.bool), .any, .any, .any, .any, .any, .any, .any, .any, .any, .any, .any, .any, .any, .any, .sl 3, .sc (.int .i64), .sc (.int .i64), .any, .any, .any, .any, .any, .any, .any, .any, .any, .any, .any, .any, .any, .any, .any, .any, .any, .any, .any, .any, .any, .any, .any, .any, .any, .any, .any, .any, .any, .any, .any, .any, .any, .any, .any, .any, .any, .any, .any, .any, .any, .any, .any, .any, .any, .any, .any, .any, .any, .any, .sl 2, .sc (.int .i64), .sc (.int .i64), .any, .any, .any, .any, .any, .any, .any, .any, .any, .any, .any, .any, .any, .any, .any, .any, .any, .any, .any, .any, .any, .any, .any, .any, .any, .any, .any, .any, .any, .any, .any, .any, .any, .any, .any, .any, .any, .any, .any, .any, .any, .any, .any, .any, .any, .any, .any, .any, .any, .any, .any, .any, .any, .any, .any]
def h_leatlaw36_DualOrders_20 : List HPat := [.cells [.grp [.int .i64, .int .i64, .int .i64, .int .i64, .int .i64, .int .i64, .int .i64, .int .i64], .nilp, .ptr 4 0, .ptr 5 0, .grp [.int .i64, .int .i64, .int .i64, .int .i64, .int .i64, .int .i64, .int .i64, .int .i64, .int .i64], .grp [.int .i64, .int .i64, .int .i64, .int .i64, .int .i64, .int .i64, .int .i64, .int .i64, .int .i64], .grp [.int .i64, .int .i64, .int .i64, .int .i64, .int .i64, .int .i64, .int .i64, .int .i64, .int .i64], .grp [.int .i64, .int .i64], .sc (.int .i64), .ptr 6 0], .cells [.sl 7, .sl 8, .sl 9], .rows 29 [.int .i64, .int .i64, .int .i64, .int .i64, .int .i64], .ext 31 [.int .i64, .int .i64, .int .i64, .int .i64, .int .i64, .int .i64, .int .i64], .cells [.sl 10, .sc (.int .i64), .sc (.int .i64), .sc (.int .i64)], .cells [.sl 11, .sc (.int .i64), .sc (.int .i64), .sc (.int .i64)], .cells [.fn 44 [(12, 0), (13, 0)], .sc (.int .i64)], .rows 29 [.int .i64, .int .i64, .int .i64, .int .i64, .int .i64], .rows 29 [.int .i64, .int .i64, .int .i64, .int .i64, .int .i64], .rows 29 [.int .i64, .int .i64, .int .i64, .int .i64, .int .i64], .rows 29 [.int .i64, .int .i64, .int .i64, .int .i64, .int .i64], .rows 29 [.int .i64, .int .i64, .int .i64, .int .i64, .int .i64], .cells [.sl 14], .cells [.sc (.int .i64)], .ext 91 [.int .u32]]
def x_leatlaw36_DualOrders_20 : List XP := [⟨.ret, [.any, .any, .any, .any, .any, .any, .sc (.bool), .any, .any, .any, .any, .any, .any, .any, .any, .any, .any, .any, .any, .any, .any, .any, .any, .any, .any, .any, .any, .any, .any, .any, .any, .any, .any, .any, .any, .any, .any, .any, .any, .any, .any, .any, .any, .any, .any, .any, .any, .any, .any, .any, .any, .any, .any, .any, .any, .any, .any, .any, .any, .any, .any, .any, .any, .any, .any, .any, .any, .any, .any, .any, .any, .any, .any, .any, .any, .any, .any, .any, .any, .any, .any, .any, .any, .any, .any, .any, .any, .any, .any, .any, .any, .any, .any, .any, .any, .any, .any, .any, .any, .any, .any, .any, .any, .any, .any, .any, .any, .any, .any, .any, .any, .any, .any, .any, .any, .any, .any, .any, .any, .any, .any, .any, .any, .any, .any, .any, .any, .any, .any, .any, .any, .any, .any, .any, .any, .any, .any, .any, .any], []⟩, ⟨.exit 3, [.any, .any, .any, .any, .any, .any, .any, .ptr 0 0, .ptr 1 0, .any, .any, .any, .any, .sc (.bool), .any, .any, .any, .any, .any, .any, .any, .any, .any, .any, .any, .any, .any, .any, .sl 2, .sc (.int .i64), .sc (.int .i64), .any, .any, .any, .any, .any, .any, .any, .any, .any, .any, .any, .any, .any, .any, .any, .any, .any, .any, .any, .any, .any, .any, .any, .any, .any, .any, .any, .any, .any, .any, .any, .any, .any, .any, .any, .any, .any, .any, .any, .any, .any, .any, .any, .any, .any, .any, .any, .any, .any, .any, .any, .any, .any, .any, .any, .any, .any, .any, .any, .any, .any, .any, .any, .any, .any, .any, .any, .any, .any, .any, .any, .any, .any, .any, .any, .any, .any, .any, .any, .any, .any, .any, .any, .any, .any, .any, .any, .any, .any, .any, .any, .any, .any, .any, .any, .any, .any, .any, .any, .any, .any, .any, .any, .any, .any, .any, .any, .any], [.cells [.grp [.int .i64, .int .i64, .int .i64, .int .i64, .int .i64, .int .i64, .int .i64, .int .i64], .nilp, .ptr 3 0, .ptr 4 0, .grp [.int .i64, .int .i64, .int .i64, .int .i64, .int .i64, .int .i64, .int .i64, .int .i64, .int .i64], .grp [.int .i64, .int .i64, .int .i64, .int .i64, .int .i64, .int .i64, .int .i64, .int .i64, .int .i64], .grp [.int .i64, .int .i64, .int .i64, .int .i64, .int .i64, .int .i64, .int .i64, .int .i64, .int .i64], .grp [.int .i64, .int .i64], .sc (.int .i64), .ptr 5 0], .cells [.sl 6, .sl 7, .sl 8], .ext 31 [.int .i64, .int .i64, .int .i64, .int .i64, .int .i64, .int .i64, .int .i64], .cells [.sl 9, .sc (.int .i64), .sc (.int .i64), .sc (.int .i64)], .cells [.sl 10, .sc (.int .i64), .sc (.int .i64), .sc (.int .i64)], .cells [.fn 44 [(11, 0), (12, 0)], .sc (.int .i64)], .rows 29 [.int .i64, .int .i64, .int .i64, .int .i64, .int .i64], .rows 29 [.int .i64, .int .i64, .int .i64, .int .i64, .int .i64], .rows 29 [.int .i64, .int .i64, .int .i64, .int .i64, .int .i64], .rows 29 [.int .i64, .int .i64, .int .i64, .int .i64, .int .i64], .rows 29 [.int .i64, .int .i64, .int .i64, .int .i64, .int .i64], .cells [.sl 13], .cells [.sc (.int .i64)], .ext 91 [.int .u32]]⟩]
def lc_leatlaw36_DualOrders_20 (N : Nat) : LC := mkLC 0 p_leatlaw36_DualOrders_20 h_leatlaw36_DualOrders_20 x_leatlaw36_DualOrders_20 (leatlaw36_DualOrders_L20 N)
def p_leatlaw36_DualOrders_5 : List Pat := [.any, .any, .any, .any, .any, .any, .any, .ptr 0 0, .ptr 1 0, .any, .any, .any, .any, .any, .any, .any, .any, .any, .any, .any, .any, .any, .any, .any, .any, .any, .any, .any, .sl 2, .sc (.int .i64), .sc (.int .i64), .any, .any, .any, .any, .any, .any, .any, .any, .any, .any, .any, .any, .any, .any, .any, .any, .any, .any, .any, .any, .any, .any, .any, .any, .any, .any, .any, .any, .any, .any, .any, .any, .any, .any, .any, .any, .any, .any, .any, .any, .any, .any, .any, .any, .any, .any, .any, .any, .any, .any, .any, .any, .any, .any, .any, .any, .any, .any, .any, .any, .any, .any, .any, .any, .any, .any, .any, .any, .any, .any, .any, .any, .any, .any, .any, .any, .any, .any, .any, .any, .any, .any, .any, .any, .any, .any, .any, .any, .any, .any, .any, .any, .any, .any, .any, .any, .any, .any, .any, .any, .any, .any, .any, .any, .any, .any, .any, .any]
def h_leatlaw36_DualOrders_5 : List HPat := [.cells [.grp [.int .i64, .int .i64, .int .i64, .int .i64, .int .i64, .int .i64, .int .i64, .int .i64], .nilp, .ptr 3 0, .ptr 4 0, .grp [.int .i64, .int .i64, .int .i64, .int .i64, .int .i64, .int .i64, .int .i64, .int .i64, .int .i64], .grp [.int .i64, .int .i64, .int .i64, .int .i64, .int .i64, .int .i64, .int .i64, .int .i64, .int .i64], .grp [.int .i64, .int .i64, .int .i64, .int .i64, .int .i64, .int .i64, .int .i64, .int .i64, .int .i64], .grp [.int .i64, .int .i64], .sc (.int .i64), .ptr 5 0], .cells [.sl 6, .sl 7, .sl 8], .ext 31 [.int .i64, .int .i64, .int .i64, .int .i64, .int .i64, .int .i64, .int .i64], .cells [.sl 9, .sc (.int .i64), .sc (.int .i64), .sc (.int .i64)], .cells [.sl 10, .sc (.int .i64), .sc (.int .i64), .sc (.int .i64)], .cells [.fn 44 [(11, 0), (12, 0)], .sc (.int .i64)], .rows 29 [.int .i64, .int .i64, .int .i64, .int .i64, .int .i64], .rows 29 [.int .i64, .int .i64, .int .i64, .int .i64, .int .i64], .rows 29 [.int .i64, .int .i64, .int .i64, .int .i64, .int .i64], .rows 29 [.int .i64, .int .i64, .int .i64, .int .i64, .int .i64], .rows 29 [.int .i64, .int .i64, .int .i64, .int .i64, .int .i64], .cells [.sl 13], .cells [.sc (.int .i64)], .ext 91 [.int .u32]]
def x_leatlaw36_DualOrders_5 : List XP := [⟨.exit 0, [.any, .any, .any, .any, .any, .any, .any, .any, .any, .any, .any, .any, .any, .any, .any, .any, .any, .any, .any, .any, .any, .any, .any, .any, .any, .any, .any, .any, .any, .any, .any, .any, .any, .any, .any, .any, .any, .any, .any, .any, .any, .any, .any, .any, .any, .any, .any, .any, .any, .any, .any, .any, .any, .any, .any, .any, .any, .any, .any, .any, .any, .any, .any, .any, .any, .any, .any, .any, .any, .any, .any, .any, .any, .any, .any, .any, .any, .any, .any, .any, .any, .any, .any, .any, .any, .any, .any, .any, .any, .any, .any, .any, .any, .any, .any, .any, .any, .any, .any, .any, .any, .any, .any, .any, .any, .any, .any, .any, .any, .any, .any, .any, .any, .any, .any, .any, .any, .any, .any, .any, .any, .any, .any, .any, .any, .any, .any, .any, .any, .any, .any, .any, .any, .any, .any, .any, .any, .any, .any], []⟩, ⟨.ret, [.any, .any, .any, .any, .any, .any, .sc (.bool), .any, .any, .any, .any, .any, .any, .any, .any, .any, .any, .any, .any, .any, .any, .any, .any, .any, .any, .any, .any, .any, .any, .any, .any, .any, .any, .any, .any, .any, .any, .any, .any, .any, .any, .any, .any, .any, .any, .any, .any, .any, .any, .any, .any, .any, .any, .any, .any, .any, .any, .any, .any, .any, .any, .any, .any, .any, .any, .any, .any, .any, .any, .any, .any, .any, .any, .any, .any, .any, .any, .any, .any, .any, .any, .any, .any, .any, .any, .any, .any, .any, .any, .any, .any, .any, .any, .any, .any, .any, .any, .any, .any, .any, .any, .any, .any, .any, .any, .any, .any, .any, .any, .any, .any, .any, .any, .any, .any, .any, .any, .any, .any, .any, .any, .any, .any, .any, .any, .any, .any, .any, .any, .any, .any, .any, .any, .any, .any, .any, .any, .any, .any], []⟩]
def lc_leatlaw36_DualOrders_5 (N : Nat) : LC := mkLC 0 p_leatlaw36_DualOrders_5 h_leatlaw36_DualOrders_5 x_leatlaw36_DualOrders_5 (leatlaw36_DualOrders_L5 N)
def s_leatlaw36_DualOrders (N : Nat) : List (Nat × LC) := [(20, lc_leatlaw36_DualOrders_20 N), (5, lc_leatlaw36_DualOrders_5 N)]
noncomputable def e_leatlaw36_DualOrders (N : Nat) : Env := mkEnvX 0 [(99999, 0)] Try.prog o_leatlaw36_works (s_leatlaw36_DualOrders N) N
theorem k_leatlaw36_DualOrders_20 (N : Nat) : LCOK (e_leatlaw36_DualOrders N) 12 (loopAt Try.prog 4 1) (lc_leatlaw36_DualOrders_20 N) := mkLC_ok rfl (by kernel_rfl) (by kernel_rfl) (fun F x => by kernel_rfl)
theorem k_leatlaw36_DualOrders_5 (N : Nat) : LCOK (e_leatlaw36_DualOrders N) 12 (loopAt Try.prog 4 0) (lc_leatlaw36_DualOrders_5 N) := mkLC_ok rfl (by kernel_rfl) (by kernel_rfl) (fun F x => by kernel_rfl)
theorem q_leatlaw36_DualOrders (N : Nat) : LoopsFor (e_leatlaw36_DualOrders N) Try.prog 4 2 := ⟨by kernel_rfl, fun j hj => match j, hj with
  | 0, _ => .inl ⟨lc_leatlaw36_DualOrders_5 N, by kernel_rfl, k_leatlaw36_DualOrders_5 N⟩
  | 1, _ => .inl ⟨lc_leatlaw36_DualOrders_20 N, by kernel_rfl, k_leatlaw36_DualOrders_20 N⟩
  | _ + 2, h => absurd h (by omega)⟩
theorem okL_leatlaw36_DualOrders (N : Nat) : OrcOK Try.prog o_leatlaw36_works N := ok_leatlaw36_works N
theorem w_leatlaw36_DualOrders (N : Nat) (x : RT [.agg [.int .i64, .int .i64, .int .i64, .int .i64, .int .i64, .int .i64, .int .i64, .int .i64], .row 91 [.int .u32], .row 31 [.int .i64, .int .i64, .int .i64, .int .i64, .int .i64, .int .i64, .int .i64]]) : uncR [.agg [.int .i64, .int .i64, .int .i64, .int .i64, .int .i64, .int .i64, .int .i64, .int .i64], .row 91 [.int .u32], .row 31 [.int .i64, .int .i64, .int .i64, .int .i64, .int .i64, .int .i64, .int .i64]] (leatlaw36_DualOrders N) x = evFn (e_leatlaw36_DualOrders N) 13 4 (encA 0 [.agg [.int .i64, .int .i64, .int .i64, .int .i64, .int .i64, .int .i64, .int .i64, .int .i64], .row 91 [.int .u32], .row 31 [.int .i64, .int .i64, .int .i64, .int .i64, .int .i64, .int .i64, .int .i64]] x).1 (encA 0 [.agg [.int .i64, .int .i64, .int .i64, .int .i64, .int .i64, .int .i64, .int .i64, .int .i64], .row 91 [.int .u32], .row 31 [.int .i64, .int .i64, .int .i64, .int .i64, .int .i64, .int .i64, .int .i64]] x).2 (decR [.sc .bool]) := by kernel_rfl
end Go.Proofs.Yteidghhjccohdaa.W
