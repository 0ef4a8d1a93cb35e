/- The functions of the seat, as the evaluator tells them, each with its contract. Printed by genW.py. -/
import Derived.Test.YtgjmfljogaanfaaGreatW0
import Derived.Test.YtgjmfljogaanfaaGreatRows
set_option maxRecDepth 100000
namespace Go.Proofs.YtgjmfljogaanfaaGreat.W
open Go.Ev Go.RowKit
theorem facts : Facts Tryz.prog := ⟨by kernel_rfl, names_of (by kernel_rfl)⟩
def o_0 : List (Nat × FC) := []
theorem ok_0 (N : Nat) : OrcOK Tryz.prog o_0 N := orc_nil
def s_n0 (_ : Nat) : List (Nat × LC) := []
noncomputable def e_n0 (N : Nat) : Env := mkEnvX 0 [] Tryz.prog o_0 (s_n0 N) N
theorem q_n0 (N : Nat) : LoopsFor (e_n0 N) Tryz.prog 57 0 := loops_mk (by kernel_rfl) (fun j hj => match j, hj with
  | _ + 0, h => absurd h (by omega)) (fun _ => rfl)
def c_n0 : FC := mkF [.sc (.int .i64)] [.sc (.bool)] cmp_isNaN_int64
theorem t_n0 (N : Nat) : FCOK Tryz.prog N 57 c_n0 := fun_ok facts (ok_0 N) (by kernel_rfl) (by kernel_rfl) (q_n0 N) (fun t => by kernel_rfl)
def o_n0 : List (Nat × FC) := (57, c_n0) :: o_0
theorem ok_n0 (N : Nat) : OrcOK Tryz.prog o_n0 N := orc_cons (t_n0 N) (ok_0 N)
def s_n1 (_ : Nat) : List (Nat × LC) := []
noncomputable def e_n1 (N : Nat) : Env := mkEnvX 0 [] Tryz.prog o_n0 (s_n1 N) N
theorem q_n1 (N : Nat) : LoopsFor (e_n1 N) Tryz.prog 40 0 := loops_mk (by kernel_rfl) (fun j hj => match j, hj with
  | _ + 0, h => absurd h (by omega)) (fun _ => rfl)
def c_n1 : FC := mkF [.sc (.int .i64), .sc (.int .i64)] [.sc (.int .i64)] cmp_Compare_int64
theorem t_n1 (N : Nat) : FCOK Tryz.prog N 40 c_n1 := fun_ok facts (ok_n0 N) (by kernel_rfl) (by kernel_rfl) (q_n1 N) (fun t => by kernel_rfl)
def o_n1 : List (Nat × FC) := (40, c_n1) :: o_n0
theorem ok_n1 (N : Nat) : OrcOK Tryz.prog o_n1 N := orc_cons (t_n1 N) (ok_n0 N)
def s_n2 (_ : Nat) : List (Nat × LC) := []
noncomputable def e_n2 (N : Nat) : Env := mkEnvX 0 [] Tryz.prog o_n1 (s_n2 N) N
theorem q_n2 (N : Nat) : LoopsFor (e_n2 N) Tryz.prog 39 0 := loops_mk (by kernel_rfl) (fun j hj => match j, hj with
  | _ + 0, h => absurd h (by omega)) (fun _ => rfl)
def c_n2 : FC := mkF [.agg Li5, .agg Li5] [.sc (.int .i64)] chain_coming_1
theorem t_n2 (N : Nat) : FCOK Tryz.prog N 39 c_n2 := fun_ok facts (ok_n1 N) (by kernel_rfl) (by kernel_rfl) (q_n2 N) (fun t => by kernel_rfl)
def o_n2 : List (Nat × FC) := (39, c_n2) :: o_n1
theorem ok_n2 (N : Nat) : OrcOK Tryz.prog o_n2 N := orc_cons (t_n2 N) (ok_n1 N)
def p_leatlaw50_few_3 : List Pat := [.sl 0, .sl 1, .any, .any, .any, .any, .sl 2, .sc (.int .i64), .any, .any, .any, .any, .any, .any, .any, .any, .any, .any, .any, .any, .any, .any, .any, .any, .any, .any, .any, .any, .any, .any, .any, .any, .any, .any, .any, .any, .any, .any, .any, .any, .any]
def h_leatlaw50_few_3 : List HPat := [.mixe 26 120 Li10 [.int .u32], .ext 38 Li5, .mix 26 120 Li10 [.int .u32]]
def x_leatlaw50_few_3 : List XP := [⟨.exit 0, [.any, .sl 0, .any, .any, .any, .any, .sl 1, .any, .any, .any, .any, .any, .any, .any, .any, .any, .any, .any, .any, .any, .any, .any, .any, .any, .any, .any, .any, .any, .any, .any, .any, .any, .any, .any, .any, .any, .any, .any, .any, .any, .any], [.ext 38 Li5, .mix 26 120 Li10 [.int .u32]]⟩]
def lc_leatlaw50_few_3 (N : Nat) : LC := mkLC 0 p_leatlaw50_few_3 h_leatlaw50_few_3 x_leatlaw50_few_3 (leatlaw50_few_L3 N)
def s_leatlaw50_few (N : Nat) : List (Nat × LC) := [(3, lc_leatlaw50_few_3 N)]
noncomputable def e_leatlaw50_few (N : Nat) : Env := mkEnvX 0 [] Tryz.prog o_n2 (s_leatlaw50_few N) N
theorem k_leatlaw50_few_3 (N : Nat) : LCOK (e_leatlaw50_few N) 12 (loopAt Tryz.prog 6 0) (lc_leatlaw50_few_3 N) := mkLC_ok rfl (by kernel_rfl) (by kernel_rfl) (fun F x => by kernel_rfl)
theorem q_leatlaw50_few (N : Nat) : LoopsFor (e_leatlaw50_few N) Tryz.prog 6 1 := loops_mk (by kernel_rfl) (fun j hj => match j, hj with
  | 0, _ => .inl ⟨lc_leatlaw50_few_3 N, by kernel_rfl, k_leatlaw50_few_3 N⟩
  | _ + 1, h => absurd h (by omega)) (fun _ => rfl)
def a_leatlaw50_few : List Pat := [.sl 0, .sl 1]
def b_leatlaw50_few : List HPat := [.mixe 26 120 Li10 [.int .u32], .ext 38 Li5]
def ra_leatlaw50_few : List Pat := [.sl 0, .sl 1]
def rb_leatlaw50_few : List HPat := [.mixe 26 120 Li10 [.int .u32], .ext 38 Li5]
def c_leatlaw50_few : FC := mkFCH 0 a_leatlaw50_few b_leatlaw50_few ra_leatlaw50_few rb_leatlaw50_few leatlaw50_few
theorem t_leatlaw50_few (N : Nat) : FCOK Tryz.prog N 6 c_leatlaw50_few := eff_ok facts (ok_n2 N) (by kernel_rfl) (by kernel_rfl) (q_leatlaw50_few N) (fun t => by kernel_rfl)
def o_leatlaw50_few : List (Nat × FC) := (6, c_leatlaw50_few) :: o_n2
theorem ok_leatlaw50_few (N : Nat) : OrcOK Tryz.prog o_leatlaw50_few N := orc_cons (t_leatlaw50_few N) (ok_n2 N)
def s_n3 (_ : Nat) : List (Nat × LC) := []
noncomputable def e_n3 (N : Nat) : Env := mkEnvX 0 [] Tryz.prog o_leatlaw50_few (s_n3 N) N
theorem q_n3 (N : Nat) : LoopsFor (e_n3 N) Tryz.prog 28 0 := loops_mk (by kernel_rfl) (fun j hj => match j, hj with
  | _ + 0, h => absurd h (by omega)) (fun _ => rfl)
def c_n3 : FC := mkF [.sc (.int .i64), .sc (.int .i64), .sc (.int .i64)] [.sc (.int .i64)] sat_Clamp
theorem t_n3 (N : Nat) : FCOK Tryz.prog N 28 c_n3 := fun_ok facts (ok_leatlaw50_few N) (by kernel_rfl) (by kernel_rfl) (q_n3 N) (fun t => by kernel_rfl)
def o_n3 : List (Nat × FC) := (28, c_n3) :: o_leatlaw50_few
theorem ok_n3 (N : Nat) : OrcOK Tryz.prog o_n3 N := orc_cons (t_n3 N) (ok_leatlaw50_few N)
def s_n4 (_ : Nat) : List (Nat × LC) := []
noncomputable def e_n4 (N : Nat) : Env := mkEnvX 0 [] Tryz.prog o_n3 (s_n4 N) N
theorem q_n4 (N : Nat) : LoopsFor (e_n4 N) Tryz.prog 29 0 := loops_mk (by kernel_rfl) (fun j hj => match j, hj with
  | _ + 0, h => absurd h (by omega)) (fun _ => rfl)
def c_n4 : FC := mkF [.agg Li8] [.agg Li8] dual_Limit
theorem t_n4 (N : Nat) : FCOK Tryz.prog N 29 c_n4 := fun_ok facts (ok_n3 N) (by kernel_rfl) (by kernel_rfl) (q_n4 N) (fun t => by kernel_rfl)
def o_n4 : List (Nat × FC) := (29, c_n4) :: o_n3
theorem ok_n4 (N : Nat) : OrcOK Tryz.prog o_n4 N := orc_cons (t_n4 N) (ok_n3 N)
def s_n5 (_ : Nat) : List (Nat × LC) := []
noncomputable def e_n5 (N : Nat) : Env := mkEnvX 0 [] Tryz.prog o_n4 (s_n5 N) N
theorem q_n5 (N : Nat) : LoopsFor (e_n5 N) Tryz.prog 9 0 := loops_mk (by kernel_rfl) (fun j hj => match j, hj with
  | _ + 0, h => absurd h (by omega)) (fun _ => rfl)
def a_n5 : List Pat := [.aggp [.grp Li10, .sl 0]]
def b_n5 : List HPat := [.ext 120 [.int .u32]]
def ra_n5 : List Pat := [.aggp [.grp Li10, .sl 0]]
def rb_n5 : List HPat := [.ext 120 [.int .u32]]
def c_n5 : FC := mkFCH 0 a_n5 b_n5 ra_n5 rb_n5 chain_Limit
theorem t_n5 (N : Nat) : FCOK Tryz.prog N 9 c_n5 := eff_ok facts (ok_n4 N) (by kernel_rfl) (by kernel_rfl) (q_n5 N) (fun t => by kernel_rfl)
def o_n5 : List (Nat × FC) := (9, c_n5) :: o_n4
theorem ok_n5 (N : Nat) : OrcOK Tryz.prog o_n5 N := orc_cons (t_n5 N) (ok_n4 N)
def c_n6 : FC := cloneC 120 [.int .u32] 4
noncomputable def cl_n6 : CloneAt Tryz.prog 71 24 := { fn := Tryz.f71, i0 := 0, i1 := 1, o0 := cOp0 (bodyOf Tryz.prog 71), o1 := cOpI 0 (bodyOf Tryz.prog 71), o2 := cOpI 1 (bodyOf Tryz.prog 71), C := cC (bodyOf Tryz.prog 71), D := cD (bodyOf Tryz.prog 71), hfn := Tryz.func71, hb := by kernel_rfl, hn := by kernel_rfl, h0 := ⟨by kernel_rfl, by kernel_rfl, by kernel_rfl⟩, h1 := ⟨by kernel_rfl, by kernel_rfl, by kernel_rfl⟩, h2 := ⟨by kernel_rfl, by kernel_rfl, by kernel_rfl⟩ }
theorem t_n6 (N : Nat) : FCOK Tryz.prog N 71 c_n6 := clone_ok cl_n6 facts (by kernel_rfl) (by kernel_rfl) (by decide) (LoopsOK_none (by kernel_rfl)) (LoopsOK_none (by kernel_rfl)) (by kernel_rfl) (fun xs => by kernel_rfl)
def o_n6 : List (Nat × FC) := (71, c_n6) :: o_n5
theorem ok_n6 (N : Nat) : OrcOK Tryz.prog o_n6 N := orc_cons (t_n6 N) (ok_n5 N)
def s_n7 (_ : Nat) : List (Nat × LC) := []
noncomputable def e_n7 (N : Nat) : Env := mkEnvX 0 [] Tryz.prog o_n6 (s_n7 N) N
theorem q_n7 (N : Nat) : LoopsFor (e_n7 N) Tryz.prog 55 0 := loops_mk (by kernel_rfl) (fun j hj => match j, hj with
  | _ + 0, h => absurd h (by omega)) (fun _ => rfl)
def a_n7 : List Pat := [.sc (.int .i64)]
def b_n7 : List HPat := []
def ra_n7 : List Pat := [.ptr 0 0]
def rb_n7 : List HPat := [.cells [.sl 1, .sc (.int .i64), .sc (.int .i64), .sc (.int .i64)], .rows 38 Li5]
def c_n7 : FC := mkFCH 0 a_n7 b_n7 ra_n7 rb_n7 ring_New_api_Packet
theorem t_n7 (N : Nat) : FCOK Tryz.prog N 55 c_n7 := eff_ok facts (ok_n6 N) (by kernel_rfl) (by kernel_rfl) (q_n7 N) (fun t => by kernel_rfl)
def o_n7 : List (Nat × FC) := (55, c_n7) :: o_n6
theorem ok_n7 (N : Nat) : OrcOK Tryz.prog o_n7 N := orc_cons (t_n7 N) (ok_n6 N)
def s_n8 (_ : Nat) : List (Nat × LC) := []
noncomputable def e_n8 (N : Nat) : Env := mkEnvX 0 [] Tryz.prog o_n7 (s_n8 N) N
theorem q_n8 (N : Nat) : LoopsFor (e_n8 N) Tryz.prog 36 1 := loops_mk (by kernel_rfl) (fun j hj => match j, hj with
  | 0, _ => .inr (by kernel_rfl)
  | _ + 1, h => absurd h (by omega)) (fun _ => rfl)
def a_n8 : List Pat := [.agg Li8, .sl 0]
def b_n8 : List HPat := [.ext 120 [.int .u32]]
def ra_n8 : List Pat := [.ptr 0 0]
def rb_n8 : List HPat := [.cells [.grp Li8, .nilp, .ptr 1 0, .ptr 2 0, .grp Li9, .grp Li9, .grp Li9, .grp [.int .i64, .int .i64], .sc (.int .i64), .ptr 3 0], .cells [.sl 6, .sc (.int .i64), .sc (.int .i64), .sc (.int .i64)], .cells [.sl 7, .sc (.int .i64), .sc (.int .i64), .sc (.int .i64)], .cells [.fn 72 [(4, 0), (5, 0)], .sc (.int .i64)], .cells [.sl 8], .cells [.sc (.int .i64)], .rows 38 Li5, .rows 38 Li5, .ext 120 [.int .u32]]
def c_n8 : FC := mkFCH 0 a_n8 b_n8 ra_n8 rb_n8 dual_New
theorem t_n8 (N : Nat) : FCOK Tryz.prog N 36 c_n8 := eff_ok facts (ok_n7 N) (by kernel_rfl) (by kernel_rfl) (q_n8 N) (fun t => by kernel_rfl)
def o_n8 : List (Nat × FC) := (36, c_n8) :: o_n7
theorem ok_n8 (N : Nat) : OrcOK Tryz.prog o_n8 N := orc_cons (t_n8 N) (ok_n7 N)
def s_n9 (_ : Nat) : List (Nat × LC) := []
noncomputable def e_n9 (N : Nat) : Env := mkEnvX 0 [] Tryz.prog o_n8 (s_n9 N) N
theorem q_n9 (N : Nat) : LoopsFor (e_n9 N) Tryz.prog 19 0 := loops_mk (by kernel_rfl) (fun j hj => match j, hj with
  | _ + 0, h => absurd h (by omega)) (fun _ => rfl)
def a_n9 : List Pat := [.aggp [.grp Li10, .sl 0]]
def b_n9 : List HPat := [.ext 120 [.int .u32]]
def ra_n9 : List Pat := [.ptr 0 0]
def rb_n9 : List HPat := [.cells [.grp Li10, .any, .ptr 1 0, .grp [.int .i64, .int .i64, .int .i64], .sc (.int .i64), .sl 10, .sl 11], .cells [.grp Li8, .nilp, .ptr 2 0, .ptr 3 0, .grp Li9, .grp Li9, .grp Li9, .grp [.int .i64, .int .i64], .sc (.int .i64), .ptr 4 0], .cells [.sl 7, .sc (.int .i64), .sc (.int .i64), .sc (.int .i64)], .cells [.sl 8, .sc (.int .i64), .sc (.int .i64), .sc (.int .i64)], .cells [.fn 72 [(5, 0), (6, 0)], .sc (.int .i64)], .cells [.sl 9], .cells [.sc (.int .i64)], .rows 38 Li5, .rows 38 Li5, .ext 120 [.int .u32], .rows 38 Li5, .rows 38 Li5]
def c_n9 : FC := mkFCH 0 a_n9 b_n9 ra_n9 rb_n9 chain_made
theorem t_n9 (N : Nat) : FCOK Tryz.prog N 19 c_n9 := eff_ok facts (ok_n8 N) (by kernel_rfl) (by kernel_rfl) (q_n9 N) (fun t => by kernel_rfl)
def o_n9 : List (Nat × FC) := (19, c_n9) :: o_n8
theorem ok_n9 (N : Nat) : OrcOK Tryz.prog o_n9 N := orc_cons (t_n9 N) (ok_n8 N)
def c_n10 : FC := cloneC 38 Li5 40
noncomputable def cl_n10 : CloneAt Tryz.prog 37 27 := { fn := Tryz.f37, i0 := 0, i1 := 1, o0 := cOp0 (bodyOf Tryz.prog 37), o1 := cOpI 0 (bodyOf Tryz.prog 37), o2 := cOpI 1 (bodyOf Tryz.prog 37), C := cC (bodyOf Tryz.prog 37), D := cD (bodyOf Tryz.prog 37), hfn := Tryz.func37, hb := by kernel_rfl, hn := by kernel_rfl, h0 := ⟨by kernel_rfl, by kernel_rfl, by kernel_rfl⟩, h1 := ⟨by kernel_rfl, by kernel_rfl, by kernel_rfl⟩, h2 := ⟨by kernel_rfl, by kernel_rfl, by kernel_rfl⟩ }
theorem t_n10 (N : Nat) : FCOK Tryz.prog N 37 c_n10 := clone_ok cl_n10 facts (by kernel_rfl) (by kernel_rfl) (by decide) (LoopsOK_none (by kernel_rfl)) (LoopsOK_none (by kernel_rfl)) (by kernel_rfl) (fun xs => by kernel_rfl)
def o_n10 : List (Nat × FC) := (37, c_n10) :: o_n9
theorem ok_n10 (N : Nat) : OrcOK Tryz.prog o_n10 N := orc_cons (t_n10 N) (ok_n9 N)
def p_n11_4 : List Pat := [.sl 0, .sc (.int .i64), .sc (.int .i64), .fn 39 [], .any, .any, .any, .any, .sc (.int .i64), .sc (.int .i64), .any, .any, .any, .any, .any, .any, .any, .any, .any, .any, .any, .any, .any, .any, .any, .any, .any, .any, .any, .any, .any, .any, .any, .any, .any, .any, .any, .any, .any, .any, .any, .any, .any, .any, .any, .any, .any, .any, .any, .any, .any, .any, .any]
def h_n11_4 : List HPat := [.rows 38 Li5]
def x_n11_4 : List XP := [⟨.exit 2, [.sl 0, .sc (.int .i64), .sc (.int .i64), .fn 39 [], .any, .any, .any, .any, .sc (.int .i64), .any, .any, .any, .any, .any, .any, .any, .any, .any, .any, .any, .any, .any, .any, .any, .any, .any, .any, .any, .any, .any, .any, .any, .any, .any, .any, .any, .any, .any, .any, .any, .any, .any, .any, .any, .any, .any, .any, .any, .any, .any, .any, .any, .any], [.rows 38 Li5]⟩]
def lc_n11_4 (N : Nat) : LC := mkLC 1 p_n11_4 h_n11_4 x_n11_4 (slices_insertionSortCmpFunc_api_Packet_L4 N)
def p_n11_1 : List Pat := [.sl 0, .sc (.int .i64), .sc (.int .i64), .fn 39 [], .any, .any, .any, .any, .sc (.int .i64), .any, .any, .any, .any, .any, .any, .any, .any, .any, .any, .any, .any, .any, .any, .any, .any, .any, .any, .any, .any, .any, .any, .any, .any, .any, .any, .any, .any, .any, .any, .any, .any, .any, .any, .any, .any, .any, .any, .any, .any, .any, .any, .any, .any]
def h_n11_1 : List HPat := [.rows 38 Li5]
def x_n11_1 : List XP := [⟨.exit 0, [.any, .any, .any, .any, .any, .any, .any, .any, .any, .any, .any, .any, .any, .any, .any, .any, .any, .any, .any, .any, .any, .any, .any, .any, .any, .any, .any, .any, .any, .any, .any, .any, .any, .any, .any, .any, .any, .any, .any, .any, .any, .any, .any, .any, .any, .any, .any, .any, .any, .any, .any, .any, .any], [.rows 38 Li5]⟩]
def lc_n11_1 (N : Nat) : LC := mkLC 1 p_n11_1 h_n11_1 x_n11_1 (slices_insertionSortCmpFunc_api_Packet_L1 N)
def s_n11 (N : Nat) : List (Nat × LC) := [(4, lc_n11_4 N), (1, lc_n11_1 N)]
noncomputable def e_n11 (N : Nat) : Env := mkEnvX 1 [] Tryz.prog o_n10 (s_n11 N) N
theorem k_n11_4 (N : Nat) : LCOK (e_n11 N) 12 (loopAt Tryz.prog 73 1) (lc_n11_4 N) := mkLC_ok rfl (by kernel_rfl) (by kernel_rfl) (fun F x => by kernel_rfl)
theorem k_n11_1 (N : Nat) : LCOK (e_n11 N) 12 (loopAt Tryz.prog 73 0) (lc_n11_1 N) := mkLC_ok rfl (by kernel_rfl) (by kernel_rfl) (fun F x => by kernel_rfl)
theorem q_n11 (N : Nat) : LoopsFor (e_n11 N) Tryz.prog 73 2 := loops_mk (by kernel_rfl) (fun j hj => match j, hj with
  | 0, _ => .inl ⟨lc_n11_1 N, by kernel_rfl, k_n11_1 N⟩
  | 1, _ => .inl ⟨lc_n11_4 N, by kernel_rfl, k_n11_4 N⟩
  | _ + 2, h => absurd h (by omega)) (fun _ => rfl)
def a_n11 : List Pat := [.sl 0, .sc (.int .i64), .sc (.int .i64), .fn 39 []]
def b_n11 : List HPat := [.rows 38 Li5]
def ra_n11 : List Pat := []
def rb_n11 : List HPat := [.rows 38 Li5]
def c_n11 : FC := mkFCH 1 a_n11 b_n11 ra_n11 rb_n11 slices_insertionSortCmpFunc_api_Packet
theorem t_n11 (N : Nat) : FCOK Tryz.prog N 73 c_n11 := eff_ok facts (ok_n10 N) (by kernel_rfl) (by kernel_rfl) (q_n11 N) (fun t => by kernel_rfl)
def o_n11 : List (Nat × FC) := (73, c_n11) :: o_n10
theorem ok_n11 (N : Nat) : OrcOK Tryz.prog o_n11 N := orc_cons (t_n11 N) (ok_n10 N)
def p_n12_1 : List Pat := [.sl 0, .sc (.int .i64), .sc (.int .i64), .sc (.int .i64), .any, .any, .any, .any, .any, .any, .sc (.int .i64), .any, .any, .any, .any, .any, .any, .any, .any, .any, .any, .any, .any, .any, .any, .any, .any, .any, .any, .any, .any, .any, .any, .any, .any, .any, .any, .any]
def h_n12_1 : List HPat := [.rows 38 Li5]
def x_n12_1 : List XP := [⟨.exit 0, [.any, .any, .any, .any, .any, .any, .any, .any, .any, .any, .any, .any, .any, .any, .any, .any, .any, .any, .any, .any, .any, .any, .any, .any, .any, .any, .any, .any, .any, .any, .any, .any, .any, .any, .any, .any, .any, .any], [.rows 38 Li5]⟩]
def lc_n12_1 (N : Nat) : LC := mkLC 1 p_n12_1 h_n12_1 x_n12_1 (slices_swapRangeCmpFunc_api_Packet_L1 N)
def s_n12 (N : Nat) : List (Nat × LC) := [(1, lc_n12_1 N)]
noncomputable def e_n12 (N : Nat) : Env := mkEnvX 1 [] Tryz.prog o_n11 (s_n12 N) N
theorem k_n12_1 (N : Nat) : LCOK (e_n12 N) 12 (loopAt Tryz.prog 116 0) (lc_n12_1 N) := mkLC_ok rfl (by kernel_rfl) (by kernel_rfl) (fun F x => by kernel_rfl)
theorem q_n12 (N : Nat) : LoopsFor (e_n12 N) Tryz.prog 116 1 := loops_mk (by kernel_rfl) (fun j hj => match j, hj with
  | 0, _ => .inl ⟨lc_n12_1 N, by kernel_rfl, k_n12_1 N⟩
  | _ + 1, h => absurd h (by omega)) (fun _ => rfl)
def a_n12 : List Pat := [.sl 0, .sc (.int .i64), .sc (.int .i64), .sc (.int .i64), .fn 39 []]
def b_n12 : List HPat := [.rows 38 Li5]
def ra_n12 : List Pat := []
def rb_n12 : List HPat := [.rows 38 Li5]
def c_n12 : FC := mkFCH 1 a_n12 b_n12 ra_n12 rb_n12 slices_swapRangeCmpFunc_api_Packet
theorem t_n12 (N : Nat) : FCOK Tryz.prog N 116 c_n12 := eff_ok facts (ok_n11 N) (by kernel_rfl) (by kernel_rfl) (q_n12 N) (fun t => by kernel_rfl)
def o_n12 : List (Nat × FC) := (116, c_n12) :: o_n11
theorem ok_n12 (N : Nat) : OrcOK Tryz.prog o_n12 N := orc_cons (t_n12 N) (ok_n11 N)
def p_n13_2 : List Pat := [.sl 0, .any, .sc (.int .i64), .any, .fn 39 [], .any, .any, .any, .any, .any, .sc (.int .i64), .sc (.int .i64), .any, .any, .any, .any, .any, .any, .any, .any, .any, .any, .any, .any, .any, .any, .any, .any, .any, .any, .any, .any, .any, .any, .any, .any, .any, .any, .any, .any, .any, .any, .any, .any, .any, .any, .any, .any, .any, .any, .any, .any, .any, .any, .any, .any, .any, .any]
def h_n13_2 : List HPat := [.rows 38 Li5]
def x_n13_2 : List XP := [⟨.exit 0, [.sl 0, .any, .sc (.int .i64), .any, .fn 39 [], .any, .any, .any, .any, .any, .sc (.int .i64), .any, .any, .any, .any, .any, .any, .any, .any, .any, .any, .any, .any, .any, .any, .any, .any, .any, .any, .any, .any, .any, .any, .any, .any, .any, .any, .any, .any, .any, .any, .any, .any, .any, .any, .any, .any, .any, .any, .any, .any, .any, .any, .any, .any, .any, .any, .any], [.rows 38 Li5]⟩]
def lc_n13_2 (N : Nat) : LC := mkLC 1 p_n13_2 h_n13_2 x_n13_2 (slices_rotateCmpFunc_api_Packet_L2 N)
def s_n13 (N : Nat) : List (Nat × LC) := [(2, lc_n13_2 N)]
noncomputable def e_n13 (N : Nat) : Env := mkEnvX 1 [] Tryz.prog o_n12 (s_n13 N) N
theorem k_n13_2 (N : Nat) : LCOK (e_n13 N) 12 (loopAt Tryz.prog 96 0) (lc_n13_2 N) := mkLC_ok rfl (by kernel_rfl) (by kernel_rfl) (fun F x => by kernel_rfl)
theorem q_n13 (N : Nat) : LoopsFor (e_n13 N) Tryz.prog 96 1 := loops_mk (by kernel_rfl) (fun j hj => match j, hj with
  | 0, _ => .inl ⟨lc_n13_2 N, by kernel_rfl, k_n13_2 N⟩
  | _ + 1, h => absurd h (by omega)) (fun _ => rfl)
def a_n13 : List Pat := [.sl 0, .sc (.int .i64), .sc (.int .i64), .sc (.int .i64), .fn 39 []]
def b_n13 : List HPat := [.rows 38 Li5]
def ra_n13 : List Pat := []
def rb_n13 : List HPat := [.rows 38 Li5]
def c_n13 : FC := mkFCH 1 a_n13 b_n13 ra_n13 rb_n13 slices_rotateCmpFunc_api_Packet
theorem t_n13 (N : Nat) : FCOK Tryz.prog N 96 c_n13 := eff_ok facts (ok_n12 N) (by kernel_rfl) (by kernel_rfl) (q_n13 N) (fun t => by kernel_rfl)
def o_n13 : List (Nat × FC) := (96, c_n13) :: o_n12
theorem ok_n13 (N : Nat) : OrcOK Tryz.prog o_n13 N := orc_cons (t_n13 N) (ok_n12 N)
def p_n15_3 : List Pat := [.sl 0, .sc (.int .i64), .any, .any, .fn 39 [], .any, .any, .any, .any, .any, .sc (.int .i64), .sc (.int .i64), .any, .any, .any, .any, .any, .any, .any, .any, .any, .any, .any, .any, .any, .any, .any, .any, .any, .any, .any, .any, .any, .any, .any, .any, .any, .any, .any, .any, .any, .any, .any, .any, .any, .any, .any, .any, .any, .any, .any, .any, .any, .any, .any, .any, .any, .any, .any, .any, .any, .any, .any, .any, .any, .any, .any, .any, .any, .any, .any, .any, .any, .any, .any, .any, .any, .any, .any, .any, .any, .any, .any, .any, .any, .any, .any, .any, .any, .any, .any, .any, .any, .any, .any, .any, .any, .any, .any, .any, .any, .any, .any, .any, .any, .any, .any, .any, .any, .any, .any, .any, .any, .any, .any, .any, .any, .any, .any, .any, .any, .any, .any, .any, .any, .any, .any, .any, .any, .any, .any, .any, .any, .any, .any, .any, .any, .any, .any, .any, .any, .any, .any, .any, .any, .any, .any, .any, .any, .any, .any, .any, .any, .any, .any, .any, .any, .any, .any, .any, .any, .any, .any, .any, .any, .any, .any, .any, .any, .any, .any, .any, .any, .any, .any, .any, .any, .any, .any, .any, .any, .any, .any, .any, .any, .any, .any, .any, .any, .any, .any, .any, .any, .any, .any, .any, .any, .any, .any, .any, .any, .any, .any, .any, .any, .any, .any, .any, .any, .any, .any, .any, .any, .any, .any, .any, .any, .any, .any, .any]
def h_n15_3 : List HPat := [.rows 38 Li5]
def x_n15_3 : List XP := [⟨.exit 0, [.sl 0, .sc (.int .i64), .any, .any, .any, .any, .any, .any, .any, .any, .sc (.int .i64), .any, .any, .any, .any, .any, .any, .any, .any, .any, .any, .any, .any, .any, .any, .any, .any, .any, .any, .any, .any, .any, .any, .any, .any, .any, .any, .any, .any, .any, .any, .any, .any, .any, .any, .any, .any, .any, .any, .any, .any, .any, .any, .any, .any, .any, .any, .any, .any, .any, .any, .any, .any, .any, .any, .any, .any, .any, .any, .any, .any, .any, .any, .any, .any, .any, .any, .any, .any, .any, .any, .any, .any, .any, .any, .any, .any, .any, .any, .any, .any, .any, .any, .any, .any, .any, .any, .any, .any, .any, .any, .any, .any, .any, .any, .any, .any, .any, .any, .any, .any, .any, .any, .any, .any, .any, .any, .any, .any, .any, .any, .any, .any, .any, .any, .any, .any, .any, .any, .any, .any, .any, .any, .any, .any, .any, .any, .any, .any, .any, .any, .any, .any, .any, .any, .any, .any, .any, .any, .any, .any, .any, .any, .any, .any, .any, .any, .any, .any, .any, .any, .any, .any, .any, .any, .any, .any, .any, .any, .any, .any, .any, .any, .any, .any, .any, .any, .any, .any, .any, .any, .any, .any, .any, .any, .any, .any, .any, .any, .any, .any, .any, .any, .any, .any, .any, .any, .any, .any, .any, .any, .any, .any, .any, .any, .any, .any, .any, .any, .any, .any, .any, .any, .any, .any, .any, .any, .any, .any, .any], [.rows 38 Li5]⟩]
def lc_n15_3 (N : Nat) : LC := mkLC 1 p_n15_3 h_n15_3 x_n15_3 (slices_symMergeCmpFunc_api_Packet_L3 N)
def p_n15_9 : List Pat := [.sl 0, .any, .any, .any, .any, .any, .any, .any, .any, .any, .sc (.int .i64), .any, .any, .sc (.int .i64), .any, .any, .any, .any, .any, .any, .any, .any, .any, .any, .any, .any, .any, .any, .any, .any, .any, .any, .any, .any, .any, .any, .any, .any, .any, .any, .any, .any, .any, .any, .any, .any, .any, .any, .any, .any, .any, .any, .any, .any, .any, .any, .any, .any, .any, .any, .any, .any, .any, .any, .any, .any, .any, .any, .any, .any, .any, .any, .any, .any, .any, .any, .any, .any, .any, .any, .any, .any, .any, .any, .any, .any, .any, .any, .any, .any, .any, .any, .any, .any, .any, .any, .any, .any, .any, .any, .any, .any, .any, .any, .any, .any, .any, .any, .any, .any, .any, .any, .any, .any, .any, .any, .any, .any, .any, .any, .any, .any, .any, .any, .any, .any, .any, .any, .any, .any, .any, .any, .any, .any, .any, .any, .any, .any, .any, .any, .any, .any, .any, .any, .any, .any, .any, .any, .any, .any, .any, .any, .any, .any, .any, .any, .any, .any, .any, .any, .any, .any, .any, .any, .any, .any, .any, .any, .any, .any, .any, .any, .any, .any, .any, .any, .any, .any, .any, .any, .any, .any, .any, .any, .any, .any, .any, .any, .any, .any, .any, .any, .any, .any, .any, .any, .any, .any, .any, .any, .any, .any, .any, .any, .any, .any, .any, .any, .any, .any, .any, .any, .any, .any, .any, .any, .any, .any, .any, .any]
def h_n15_9 : List HPat := [.rows 38 Li5]
def x_n15_9 : List XP := [⟨.exit 2, [.any, .any, .any, .any, .any, .any, .any, .any, .any, .any, .any, .any, .any, .any, .any, .any, .any, .any, .any, .any, .any, .any, .any, .any, .any, .any, .any, .any, .any, .any, .any, .any, .any, .any, .any, .any, .any, .any, .any, .any, .any, .any, .any, .any, .any, .any, .any, .any, .any, .any, .any, .any, .any, .any, .any, .any, .any, .any, .any, .any, .any, .any, .any, .any, .any, .any, .any, .any, .any, .any, .any, .any, .any, .any, .any, .any, .any, .any, .any, .any, .any, .any, .any, .any, .any, .any, .any, .any, .any, .any, .any, .any, .any, .any, .any, .any, .any, .any, .any, .any, .any, .any, .any, .any, .any, .any, .any, .any, .any, .any, .any, .any, .any, .any, .any, .any, .any, .any, .any, .any, .any, .any, .any, .any, .any, .any, .any, .any, .any, .any, .any, .any, .any, .any, .any, .any, .any, .any, .any, .any, .any, .any, .any, .any, .any, .any, .any, .any, .any, .any, .any, .any, .any, .any, .any, .any, .any, .any, .any, .any, .any, .any, .any, .any, .any, .any, .any, .any, .any, .any, .any, .any, .any, .any, .any, .any, .any, .any, .any, .any, .any, .any, .any, .any, .any, .any, .any, .any, .any, .any, .any, .any, .any, .any, .any, .any, .any, .any, .any, .any, .any, .any, .any, .any, .any, .any, .any, .any, .any, .any, .any, .any, .any, .any, .any, .any, .any, .any, .any, .any], [.rows 38 Li5]⟩]
def lc_n15_9 (N : Nat) : LC := mkLC 1 p_n15_9 h_n15_9 x_n15_9 (slices_symMergeCmpFunc_api_Packet_L9 N)
def p_n15_15 : List Pat := [.sl 0, .any, .sc (.int .i64), .any, .fn 39 [], .any, .any, .any, .any, .any, .any, .any, .any, .any, .sc (.int .i64), .sc (.int .i64), .any, .any, .any, .any, .any, .any, .any, .any, .any, .any, .any, .any, .any, .any, .any, .any, .any, .any, .any, .any, .any, .any, .any, .any, .any, .any, .any, .any, .any, .any, .any, .any, .any, .any, .any, .any, .any, .any, .any, .any, .any, .any, .any, .any, .any, .any, .any, .any, .any, .any, .any, .any, .any, .any, .any, .any, .any, .any, .any, .any, .any, .any, .any, .any, .any, .any, .any, .any, .any, .any, .any, .any, .any, .any, .any, .any, .any, .any, .any, .any, .any, .any, .any, .any, .any, .any, .any, .any, .any, .any, .any, .any, .any, .any, .any, .any, .any, .any, .any, .any, .any, .any, .any, .any, .any, .any, .any, .any, .any, .any, .any, .any, .any, .any, .any, .any, .any, .any, .any, .any, .any, .any, .any, .any, .any, .any, .any, .any, .any, .any, .any, .any, .any, .any, .any, .any, .any, .any, .any, .any, .any, .any, .any, .any, .any, .any, .any, .any, .any, .any, .any, .any, .any, .any, .any, .any, .any, .any, .any, .any, .any, .any, .any, .any, .any, .any, .any, .any, .any, .any, .any, .any, .any, .any, .any, .any, .any, .any, .any, .any, .any, .any, .any, .any, .any, .any, .any, .any, .any, .any, .any, .any, .any, .any, .any, .any, .any, .any, .any, .any, .any, .any, .any, .any]
def h_n15_15 : List HPat := [.rows 38 Li5]
def x_n15_15 : List XP := [⟨.exit 4, [.sl 0, .any, .sc (.int .i64), .any, .any, .any, .any, .any, .any, .any, .any, .any, .any, .any, .sc (.int .i64), .any, .any, .any, .any, .any, .any, .any, .any, .any, .any, .any, .any, .any, .any, .any, .any, .any, .any, .any, .any, .any, .any, .any, .any, .any, .any, .any, .any, .any, .any, .any, .any, .any, .any, .any, .any, .any, .any, .any, .any, .any, .any, .any, .any, .any, .any, .any, .any, .any, .any, .any, .any, .any, .any, .any, .any, .any, .any, .any, .any, .any, .any, .any, .any, .any, .any, .any, .any, .any, .any, .any, .any, .any, .any, .any, .any, .any, .any, .any, .any, .any, .any, .any, .any, .any, .any, .any, .any, .any, .any, .any, .any, .any, .any, .any, .any, .any, .any, .any, .any, .any, .any, .any, .any, .any, .any, .any, .any, .any, .any, .any, .any, .any, .any, .any, .any, .any, .any, .any, .any, .any, .any, .any, .any, .any, .any, .any, .any, .any, .any, .any, .any, .any, .any, .any, .any, .any, .any, .any, .any, .any, .any, .any, .any, .any, .any, .any, .any, .any, .any, .any, .any, .any, .any, .any, .any, .any, .any, .any, .any, .any, .any, .any, .any, .any, .any, .any, .any, .any, .any, .any, .any, .any, .any, .any, .any, .any, .any, .any, .any, .any, .any, .any, .any, .any, .any, .any, .any, .any, .any, .any, .any, .any, .any, .any, .any, .any, .any, .any, .any, .any, .any, .any, .any, .any], [.rows 38 Li5]⟩]
def lc_n15_15 (N : Nat) : LC := mkLC 1 p_n15_15 h_n15_15 x_n15_15 (slices_symMergeCmpFunc_api_Packet_L15 N)
def p_n15_21 : List Pat := [.sl 0, .any, .any, .any, .any, .any, .any, .any, .any, .any, .any, .any, .any, .any, .sc (.int .i64), .any, .any, .sc (.int .i64), .any, .any, .any, .any, .any, .any, .any, .any, .any, .any, .any, .any, .any, .any, .any, .any, .any, .any, .any, .any, .any, .any, .any, .any, .any, .any, .any, .any, .any, .any, .any, .any, .any, .any, .any, .any, .any, .any, .any, .any, .any, .any, .any, .any, .any, .any, .any, .any, .any, .any, .any, .any, .any, .any, .any, .any, .any, .any, .any, .any, .any, .any, .any, .any, .any, .any, .any, .any, .any, .any, .any, .any, .any, .any, .any, .any, .any, .any, .any, .any, .any, .any, .any, .any, .any, .any, .any, .any, .any, .any, .any, .any, .any, .any, .any, .any, .any, .any, .any, .any, .any, .any, .any, .any, .any, .any, .any, .any, .any, .any, .any, .any, .any, .any, .any, .any, .any, .any, .any, .any, .any, .any, .any, .any, .any, .any, .any, .any, .any, .any, .any, .any, .any, .any, .any, .any, .any, .any, .any, .any, .any, .any, .any, .any, .any, .any, .any, .any, .any, .any, .any, .any, .any, .any, .any, .any, .any, .any, .any, .any, .any, .any, .any, .any, .any, .any, .any, .any, .any, .any, .any, .any, .any, .any, .any, .any, .any, .any, .any, .any, .any, .any, .any, .any, .any, .any, .any, .any, .any, .any, .any, .any, .any, .any, .any, .any, .any, .any, .any, .any, .any, .any]
def h_n15_21 : List HPat := [.rows 38 Li5]
def x_n15_21 : List XP := [⟨.exit 6, [.any, .any, .any, .any, .any, .any, .any, .any, .any, .any, .any, .any, .any, .any, .any, .any, .any, .any, .any, .any, .any, .any, .any, .any, .any, .any, .any, .any, .any, .any, .any, .any, .any, .any, .any, .any, .any, .any, .any, .any, .any, .any, .any, .any, .any, .any, .any, .any, .any, .any, .any, .any, .any, .any, .any, .any, .any, .any, .any, .any, .any, .any, .any, .any, .any, .any, .any, .any, .any, .any, .any, .any, .any, .any, .any, .any, .any, .any, .any, .any, .any, .any, .any, .any, .any, .any, .any, .any, .any, .any, .any, .any, .any, .any, .any, .any, .any, .any, .any, .any, .any, .any, .any, .any, .any, .any, .any, .any, .any, .any, .any, .any, .any, .any, .any, .any, .any, .any, .any, .any, .any, .any, .any, .any, .any, .any, .any, .any, .any, .any, .any, .any, .any, .any, .any, .any, .any, .any, .any, .any, .any, .any, .any, .any, .any, .any, .any, .any, .any, .any, .any, .any, .any, .any, .any, .any, .any, .any, .any, .any, .any, .any, .any, .any, .any, .any, .any, .any, .any, .any, .any, .any, .any, .any, .any, .any, .any, .any, .any, .any, .any, .any, .any, .any, .any, .any, .any, .any, .any, .any, .any, .any, .any, .any, .any, .any, .any, .any, .any, .any, .any, .any, .any, .any, .any, .any, .any, .any, .any, .any, .any, .any, .any, .any, .any, .any, .any, .any, .any, .any], [.rows 38 Li5]⟩]
def lc_n15_21 (N : Nat) : LC := mkLC 1 p_n15_21 h_n15_21 x_n15_21 (slices_symMergeCmpFunc_api_Packet_L21 N)
def p_n15_33 : List Pat := [.sl 0, .sc (.int .i64), .sc (.int .i64), .sc (.int .i64), .fn 39 [], .any, .any, .any, .any, .any, .any, .any, .any, .any, .any, .any, .any, .any, .sc (.int .i64), .sc (.int .i64), .sc (.int .i64), .sc (.int .i64), .sc (.int .i64), .any, .any, .any, .any, .any, .any, .any, .any, .any, .any, .any, .any, .any, .any, .any, .any, .any, .any, .any, .any, .any, .any, .any, .any, .any, .any, .any, .any, .any, .any, .any, .any, .any, .any, .any, .any, .any, .any, .any, .any, .any, .any, .any, .any, .any, .any, .any, .any, .any, .any, .any, .any, .any, .any, .any, .any, .any, .any, .any, .any, .any, .any, .any, .any, .any, .any, .any, .any, .any, .any, .any, .any, .any, .any, .any, .any, .any, .any, .any, .any, .any, .any, .any, .any, .any, .any, .any, .any, .any, .any, .any, .any, .any, .any, .any, .any, .any, .any, .any, .any, .any, .any, .any, .any, .any, .any, .any, .any, .any, .any, .any, .any, .any, .any, .any, .any, .any, .any, .any, .any, .any, .any, .any, .any, .any, .any, .any, .any, .any, .any, .any, .any, .any, .any, .any, .any, .any, .any, .any, .any, .any, .any, .any, .any, .any, .any, .any, .any, .any, .any, .any, .any, .any, .any, .any, .any, .any, .any, .any, .any, .any, .any, .any, .any, .any, .any, .any, .any, .any, .any, .any, .any, .any, .any, .any, .any, .any, .any, .any, .any, .any, .any, .any, .any, .any, .any, .any, .any, .any, .any, .any, .any, .any, .any, .any, .any, .any]
def h_n15_33 : List HPat := [.rows 38 Li5]
def x_n15_33 : List XP := [⟨.exit 8, [.sl 0, .sc (.int .i64), .sc (.int .i64), .sc (.int .i64), .fn 39 [], .any, .any, .any, .any, .any, .any, .any, .any, .any, .any, .any, .any, .any, .sc (.int .i64), .sc (.int .i64), .sc (.int .i64), .any, .any, .any, .any, .any, .any, .any, .any, .any, .any, .any, .any, .any, .any, .any, .any, .any, .any, .any, .any, .any, .any, .any, .any, .any, .any, .any, .any, .any, .any, .any, .any, .any, .any, .any, .any, .any, .any, .any, .any, .any, .any, .any, .any, .any, .any, .any, .any, .any, .any, .any, .any, .any, .any, .any, .any, .any, .any, .any, .any, .any, .any, .any, .any, .any, .any, .any, .any, .any, .any, .any, .any, .any, .any, .any, .any, .any, .any, .any, .any, .any, .any, .any, .any, .any, .any, .any, .any, .any, .any, .any, .any, .any, .any, .any, .any, .any, .any, .any, .any, .any, .any, .any, .any, .any, .any, .any, .any, .any, .any, .any, .any, .any, .any, .any, .any, .any, .any, .any, .any, .any, .any, .any, .any, .any, .any, .any, .any, .any, .any, .any, .any, .any, .any, .any, .any, .any, .any, .any, .any, .any, .any, .any, .any, .any, .any, .any, .any, .any, .any, .any, .any, .any, .any, .any, .any, .any, .any, .any, .any, .any, .any, .any, .any, .any, .any, .any, .any, .any, .any, .any, .any, .any, .any, .any, .any, .any, .any, .any, .any, .any, .any, .any, .any, .any, .any, .any, .any, .any, .any, .any, .any, .any, .any, .any, .any, .any, .any, .any], [.rows 38 Li5]⟩]
def lc_n15_33 (N : Nat) : LC := mkLC 1 p_n15_33 h_n15_33 x_n15_33 (slices_symMergeCmpFunc_api_Packet_L33 N)
def s_n15 (N : Nat) : List (Nat × LC) := [(3, lc_n15_3 N), (9, lc_n15_9 N), (15, lc_n15_15 N), (21, lc_n15_21 N), (33, lc_n15_33 N)]
def a_n15 : List Pat := [.sl 0, .sc (.int .i64), .sc (.int .i64), .sc (.int .i64), .fn 39 []]
def b_n15 : List HPat := [.rows 38 Li5]
def ra_n15 : List Pat := []
def rb_n15 : List HPat := [.rows 38 Li5]
def cI_n15 (N k : Nat) : FC := mkFCH 1 a_n15 b_n15 ra_n15 rb_n15 (fun _ => slices_symMergeCmpFunc_api_Packet_I N k)
def oI_n15 (N k : Nat) : List (Nat × FC) := (74, cI_n15 N k) :: o_n13
noncomputable def e_n15 (N k : Nat) : Env := mkEnvX 1 [] Tryz.prog (oI_n15 N k) (s_n15 N) N
theorem k_n15_3 (N k : Nat) : LCOK (e_n15 N k) 12 (loopAt Tryz.prog 74 0) (lc_n15_3 N) := mkLC_ok rfl (by kernel_rfl) (by kernel_rfl) (fun F x => by kernel_rfl)
theorem k_n15_9 (N k : Nat) : LCOK (e_n15 N k) 12 (loopAt Tryz.prog 74 1) (lc_n15_9 N) := mkLC_ok rfl (by kernel_rfl) (by kernel_rfl) (fun F x => by kernel_rfl)
theorem k_n15_15 (N k : Nat) : LCOK (e_n15 N k) 12 (loopAt Tryz.prog 74 2) (lc_n15_15 N) := mkLC_ok rfl (by kernel_rfl) (by kernel_rfl) (fun F x => by kernel_rfl)
theorem k_n15_21 (N k : Nat) : LCOK (e_n15 N k) 12 (loopAt Tryz.prog 74 3) (lc_n15_21 N) := mkLC_ok rfl (by kernel_rfl) (by kernel_rfl) (fun F x => by kernel_rfl)
theorem k_n15_33 (N k : Nat) : LCOK (e_n15 N k) 12 (loopAt Tryz.prog 74 4) (lc_n15_33 N) := mkLC_ok rfl (by kernel_rfl) (by kernel_rfl) (fun F x => by kernel_rfl)
theorem q_n15 (N k : Nat) : LoopsFor (e_n15 N k) Tryz.prog 74 5 := loops_mk (by kernel_rfl) (fun j hj => match j, hj with
  | 0, _ => .inl ⟨lc_n15_3 N, by kernel_rfl, k_n15_3 N k⟩
  | 1, _ => .inl ⟨lc_n15_9 N, by kernel_rfl, k_n15_9 N k⟩
  | 2, _ => .inl ⟨lc_n15_15 N, by kernel_rfl, k_n15_15 N k⟩
  | 3, _ => .inl ⟨lc_n15_21 N, by kernel_rfl, k_n15_21 N k⟩
  | 4, _ => .inl ⟨lc_n15_33 N, by kernel_rfl, k_n15_33 N k⟩
  | _ + 5, h => absurd h (by omega)) (fun _ => rfl)
theorem tI_n15 (N : Nat) : (k : Nat) → FCOK Tryz.prog N 74 (cI_n15 N k)
  | 0 => eff_none facts (by kernel_rfl) (fun _ => rfl)
  | k + 1 => eff_ok facts (orc_cons (tI_n15 N k) (ok_n13 N)) (by kernel_rfl) (by kernel_rfl) (q_n15 N k) (fun t => by kernel_rfl)
def c_n15 : FC := mkFCH 1 a_n15 b_n15 ra_n15 rb_n15 slices_symMergeCmpFunc_api_Packet
theorem t_n15 : (N : Nat) → FCOK Tryz.prog N 74 c_n15
  | 0 => eff_none facts (by kernel_rfl) (fun _ => rfl)
  | m + 1 => eff_ok facts (orc_cons (tI_n15 (m + 1) m) (ok_n13 (m + 1))) (by kernel_rfl) (by kernel_rfl) (q_n15 (m + 1) m) (fun t => by kernel_rfl)
def o_n15 : List (Nat × FC) := (74, c_n15) :: o_n13
theorem ok_n15 (N : Nat) : OrcOK Tryz.prog o_n15 N := orc_cons (t_n15 N) (ok_n13 N)
def p_n16_2 : List Pat := [.sl 0, .sc (.int .i64), .fn 39 [], .any, .any, .any, .sc (.int .i64), .sc (.int .i64), .sc (.int .i64), .any, .any, .any, .any, .any, .any, .any, .any, .any, .any, .any, .any, .any, .any, .any, .any, .any, .any, .any, .any, .any, .any, .any, .any, .any, .any, .any, .any, .any, .any, .any, .any, .any, .any, .any, .any, .any, .any, .any, .any, .any, .any, .any, .any, .any, .any, .any, .any, .any, .any, .any, .any, .any, .any]
def h_n16_2 : List HPat := [.rows 38 Li5]
def x_n16_2 : List XP := [⟨.exit 0, [.sl 0, .sc (.int .i64), .fn 39 [], .any, .any, .any, .sc (.int .i64), .sc (.int .i64), .any, .any, .any, .any, .any, .any, .any, .any, .any, .any, .any, .any, .any, .any, .any, .any, .any, .any, .any, .any, .any, .any, .any, .any, .any, .any, .any, .any, .any, .any, .any, .any, .any, .any, .any, .any, .any, .any, .any, .any, .any, .any, .any, .any, .any, .any, .any, .any, .any, .any, .any, .any, .any, .any, .any], [.rows 38 Li5]⟩]
def lc_n16_2 (N : Nat) : LC := mkLC 1 p_n16_2 h_n16_2 x_n16_2 (slices_stableCmpFunc_api_Packet_L2 N)
def p_n16_9 : List Pat := [.sl 0, .sc (.int .i64), .fn 39 [], .any, .any, .any, .sc (.int .i64), .sc (.int .i64), .sc (.int .i64), .any, .any, .any, .any, .any, .any, .any, .any, .any, .any, .any, .any, .any, .any, .any, .any, .any, .any, .any, .any, .any, .any, .any, .any, .any, .any, .any, .any, .any, .any, .any, .any, .any, .any, .any, .any, .any, .any, .any, .any, .any, .any, .any, .any, .any, .any, .any, .any, .any, .any, .any, .any, .any, .any]
def h_n16_9 : List HPat := [.rows 38 Li5]
def x_n16_9 : List XP := [⟨.exit 4, [.sl 0, .sc (.int .i64), .fn 39 [], .any, .any, .any, .sc (.int .i64), .sc (.int .i64), .any, .any, .any, .any, .any, .any, .any, .any, .any, .any, .any, .any, .any, .any, .any, .any, .any, .any, .any, .any, .any, .any, .any, .any, .any, .any, .any, .any, .any, .any, .any, .any, .any, .any, .any, .any, .any, .any, .any, .any, .any, .any, .any, .any, .any, .any, .any, .any, .any, .any, .any, .any, .any, .any, .any], [.rows 38 Li5]⟩]
def lc_n16_9 (N : Nat) : LC := mkLC 1 p_n16_9 h_n16_9 x_n16_9 (slices_stableCmpFunc_api_Packet_L9 N)
def p_n16_7 : List Pat := [.sl 0, .sc (.int .i64), .fn 39 [], .any, .any, .any, .sc (.int .i64), .any, .any, .any, .any, .any, .any, .any, .any, .any, .any, .any, .any, .any, .any, .any, .any, .any, .any, .any, .any, .any, .any, .any, .any, .any, .any, .any, .any, .any, .any, .any, .any, .any, .any, .any, .any, .any, .any, .any, .any, .any, .any, .any, .any, .any, .any, .any, .any, .any, .any, .any, .any, .any, .any, .any, .any]
def h_n16_7 : List HPat := [.rows 38 Li5]
def x_n16_7 : List XP := [⟨.exit 2, [.any, .any, .any, .any, .any, .any, .any, .any, .any, .any, .any, .any, .any, .any, .any, .any, .any, .any, .any, .any, .any, .any, .any, .any, .any, .any, .any, .any, .any, .any, .any, .any, .any, .any, .any, .any, .any, .any, .any, .any, .any, .any, .any, .any, .any, .any, .any, .any, .any, .any, .any, .any, .any, .any, .any, .any, .any, .any, .any, .any, .any, .any, .any], [.rows 38 Li5]⟩]
def lc_n16_7 (N : Nat) : LC := mkLC 1 p_n16_7 h_n16_7 x_n16_7 (slices_stableCmpFunc_api_Packet_L7 N)
def s_n16 (N : Nat) : List (Nat × LC) := [(2, lc_n16_2 N), (9, lc_n16_9 N), (7, lc_n16_7 N)]
noncomputable def e_n16 (N : Nat) : Env := mkEnvX 1 [] Tryz.prog o_n15 (s_n16 N) N
theorem k_n16_2 (N : Nat) : LCOK (e_n16 N) 12 (loopAt Tryz.prog 56 0) (lc_n16_2 N) := mkLC_ok rfl (by kernel_rfl) (by kernel_rfl) (fun F x => by kernel_rfl)
theorem k_n16_9 (N : Nat) : LCOK (e_n16 N) 12 (loopAt Tryz.prog 56 2) (lc_n16_9 N) := mkLC_ok rfl (by kernel_rfl) (by kernel_rfl) (fun F x => by kernel_rfl)
theorem k_n16_7 (N : Nat) : LCOK (e_n16 N) 12 (loopAt Tryz.prog 56 1) (lc_n16_7 N) := mkLC_ok rfl (by kernel_rfl) (by kernel_rfl) (fun F x => by kernel_rfl)
theorem q_n16 (N : Nat) : LoopsFor (e_n16 N) Tryz.prog 56 3 := loops_mk (by kernel_rfl) (fun j hj => match j, hj with
  | 0, _ => .inl ⟨lc_n16_2 N, by kernel_rfl, k_n16_2 N⟩
  | 1, _ => .inl ⟨lc_n16_7 N, by kernel_rfl, k_n16_7 N⟩
  | 2, _ => .inl ⟨lc_n16_9 N, by kernel_rfl, k_n16_9 N⟩
  | _ + 3, h => absurd h (by omega)) (fun _ => rfl)
def a_n16 : List Pat := [.sl 0, .sc (.int .i64), .fn 39 []]
def b_n16 : List HPat := [.rows 38 Li5]
def ra_n16 : List Pat := []
def rb_n16 : List HPat := [.rows 38 Li5]
def c_n16 : FC := mkFCH 1 a_n16 b_n16 ra_n16 rb_n16 slices_stableCmpFunc_api_Packet
theorem t_n16 (N : Nat) : FCOK Tryz.prog N 56 c_n16 := eff_ok facts (ok_n15 N) (by kernel_rfl) (by kernel_rfl) (q_n16 N) (fun t => by kernel_rfl)
def o_n16 : List (Nat × FC) := (56, c_n16) :: o_n15
theorem ok_n16 (N : Nat) : OrcOK Tryz.prog o_n16 N := orc_cons (t_n16 N) (ok_n15 N)
def s_n17 (_ : Nat) : List (Nat × LC) := []
noncomputable def e_n17 (N : Nat) : Env := mkEnvX 1 [] Tryz.prog o_n16 (s_n17 N) N
theorem q_n17 (N : Nat) : LoopsFor (e_n17 N) Tryz.prog 38 0 := loops_mk (by kernel_rfl) (fun j hj => match j, hj with
  | _ + 0, h => absurd h (by omega)) (fun _ => rfl)
def a_n17 : List Pat := [.sl 0, .fn 39 []]
def b_n17 : List HPat := [.rows 38 Li5]
def ra_n17 : List Pat := []
def rb_n17 : List HPat := [.rows 38 Li5]
def c_n17 : FC := mkFCH 1 a_n17 b_n17 ra_n17 rb_n17 slices_SortStableFunc_api_Packet_api_Packet
theorem t_n17 (N : Nat) : FCOK Tryz.prog N 38 c_n17 := eff_ok facts (ok_n16 N) (by kernel_rfl) (by kernel_rfl) (q_n17 N) (fun t => by kernel_rfl)
def o_n17 : List (Nat × FC) := (38, c_n17) :: o_n16
theorem ok_n17 (N : Nat) : OrcOK Tryz.prog o_n17 N := orc_cons (t_n17 N) (ok_n16 N)
def p_n18_3 : List Pat := [.any, .any, .any, .sl 0, .any, .any, .any, .any, .sc (.int .i64), .sc (.int .i64), .any, .any, .any, .any, .any, .any, .any, .any, .any, .any, .any, .any, .any, .any, .any, .any, .any, .any, .any, .any, .any, .any, .any, .any, .any, .any]
def h_n18_3 : List HPat := [.rows 38 Li5]
def x_n18_3 : List XP := [⟨.exit 0, [.any, .any, .any, .sl 0, .any, .any, .any, .any, .any, .any, .any, .any, .any, .any, .any, .any, .any, .any, .any, .any, .any, .any, .any, .any, .any, .any, .any, .any, .any, .any, .any, .any, .any, .any, .any, .any], [.rows 38 Li5]⟩]
def lc_n18_3 (N : Nat) : LC := mkLC 0 p_n18_3 h_n18_3 x_n18_3 (chain_coming_L3 N)
def s_n18 (N : Nat) : List (Nat × LC) := [(3, lc_n18_3 N)]
noncomputable def e_n18 (N : Nat) : Env := mkEnvX 0 [] Tryz.prog o_n17 (s_n18 N) N
theorem k_n18_3 (N : Nat) : LCOK (e_n18 N) 12 (loopAt Tryz.prog 20 0) (lc_n18_3 N) := mkLC_ok rfl (by kernel_rfl) (by kernel_rfl) (fun F x => by kernel_rfl)
theorem q_n18 (N : Nat) : LoopsFor (e_n18 N) Tryz.prog 20 1 := loops_mk (by kernel_rfl) (fun j hj => match j, hj with
  | 0, _ => .inl ⟨lc_n18_3 N, by kernel_rfl, k_n18_3 N⟩
  | _ + 1, h => absurd h (by omega)) (fun _ => rfl)
def c_n18 : FC := mkF [.row 38 Li5] [.row 38 Li5] chain_coming
theorem t_n18 (N : Nat) : FCOK Tryz.prog N 20 c_n18 := fun_ok facts (ok_n17 N) (by kernel_rfl) (by kernel_rfl) (q_n18 N) (fun t => by kernel_rfl)
def o_n18 : List (Nat × FC) := (20, c_n18) :: o_n17
theorem ok_n18 (N : Nat) : OrcOK Tryz.prog o_n18 N := orc_cons (t_n18 N) (ok_n17 N)
def s_n19 (_ : Nat) : List (Nat × LC) := []
noncomputable def e_n19 (N : Nat) : Env := mkEnvX 0 [] Tryz.prog o_n18 (s_n19 N) N
theorem q_n19 (N : Nat) : LoopsFor (e_n19 N) Tryz.prog 61 0 := loops_mk (by kernel_rfl) (fun j hj => match j, hj with
  | _ + 0, h => absurd h (by omega)) (fun _ => rfl)
def a_n19 : List Pat := [.ptr 0 0, .sc (.int .i64)]
def b_n19 : List HPat := [.rcells [.grp Li8, .nilp, .any, .any, .grp Li9, .grp Li9, .grp Li9, .grp [.int .i64, .int .i64], .sc (.int .i64), .any]]
def c_n19 : FC := mkFC a_n19 b_n19 [.agg Li9] dual_Queue_Tally
theorem t_n19 (N : Nat) : FCOK Tryz.prog N 61 c_n19 := ro_ok facts (ok_n18 N) (by kernel_rfl) (by kernel_rfl) (q_n19 N) (fun t => by kernel_rfl)
def o_n19 : List (Nat × FC) := (61, c_n19) :: o_n18
theorem ok_n19 (N : Nat) : OrcOK Tryz.prog o_n19 N := orc_cons (t_n19 N) (ok_n18 N)
def s_n20 (_ : Nat) : List (Nat × LC) := []
noncomputable def e_n20 (N : Nat) : Env := mkEnvX 0 [] Tryz.prog o_n19 (s_n20 N) N
theorem q_n20 (N : Nat) : LoopsFor (e_n20 N) Tryz.prog 43 0 := loops_mk (by kernel_rfl) (fun j hj => match j, hj with
  | _ + 0, h => absurd h (by omega)) (fun _ => rfl)
def a_n20 : List Pat := [.ptr 0 0]
def b_n20 : List HPat := [.rcells [.grp Li8, .nilp, .any, .any, .grp Li9, .grp Li9, .grp Li9, .grp [.int .i64, .int .i64], .sc (.int .i64), .any]]
def c_n20 : FC := mkFC a_n20 b_n20 [.sc (.bool)] dual_Queue_Waits
theorem t_n20 (N : Nat) : FCOK Tryz.prog N 43 c_n20 := ro_ok facts (ok_n19 N) (by kernel_rfl) (by kernel_rfl) (q_n20 N) (fun t => by kernel_rfl)
def o_n20 : List (Nat × FC) := (43, c_n20) :: o_n19
theorem ok_n20 (N : Nat) : OrcOK Tryz.prog o_n20 N := orc_cons (t_n20 N) (ok_n19 N)
def s_n21 (_ : Nat) : List (Nat × LC) := []
noncomputable def e_n21 (N : Nat) : Env := mkEnvX 0 [] Tryz.prog o_n20 (s_n21 N) N
theorem q_n21 (N : Nat) : LoopsFor (e_n21 N) Tryz.prog 117 0 := loops_mk (by kernel_rfl) (fun j hj => match j, hj with
  | _ + 0, h => absurd h (by omega)) (fun _ => rfl)
def a_n21 : List Pat := [.ptr 0 0, .sc (.int .i64)]
def b_n21 : List HPat := [.rcells [.sl 1, .sc (.int .i64), .sc (.int .i64), .sc (.int .i64)], .ext 38 Li5]
def c_n21 : FC := mkFC a_n21 b_n21 [.agg Li5, .sc (.bool)] ring_Ring_api_Packet_At
theorem t_n21 (N : Nat) : FCOK Tryz.prog N 117 c_n21 := ro_ok facts (ok_n20 N) (by kernel_rfl) (by kernel_rfl) (q_n21 N) (fun t => by kernel_rfl)
def o_n21 : List (Nat × FC) := (117, c_n21) :: o_n20
theorem ok_n21 (N : Nat) : OrcOK Tryz.prog o_n21 N := orc_cons (t_n21 N) (ok_n20 N)
def s_n22 (_ : Nat) : List (Nat × LC) := []
noncomputable def e_n22 (N : Nat) : Env := mkEnvX 0 [] Tryz.prog o_n21 (s_n22 N) N
theorem q_n22 (N : Nat) : LoopsFor (e_n22 N) Tryz.prog 100 0 := loops_mk (by kernel_rfl) (fun j hj => match j, hj with
  | _ + 0, h => absurd h (by omega)) (fun _ => rfl)
def a_n22 : List Pat := [.ptr 0 0]
def b_n22 : List HPat := [.rcells [.sl 1, .sc (.int .i64), .sc (.int .i64), .sc (.int .i64)], .ext 38 Li5]
def c_n22 : FC := mkFC a_n22 b_n22 [.agg Li5, .sc (.bool)] ring_Ring_api_Packet_Front
theorem t_n22 (N : Nat) : FCOK Tryz.prog N 100 c_n22 := ro_ok facts (ok_n21 N) (by kernel_rfl) (by kernel_rfl) (q_n22 N) (fun t => by kernel_rfl)
def o_n22 : List (Nat × FC) := (100, c_n22) :: o_n21
theorem ok_n22 (N : Nat) : OrcOK Tryz.prog o_n22 N := orc_cons (t_n22 N) (ok_n21 N)
def s_n23 (_ : Nat) : List (Nat × LC) := []
noncomputable def e_n23 (N : Nat) : Env := mkEnvX 0 [] Tryz.prog o_n22 (s_n23 N) N
theorem q_n23 (N : Nat) : LoopsFor (e_n23 N) Tryz.prog 78 0 := loops_mk (by kernel_rfl) (fun j hj => match j, hj with
  | _ + 0, h => absurd h (by omega)) (fun _ => rfl)
def a_n23 : List Pat := [.ptr 0 0, .sc (.int .i64)]
def b_n23 : List HPat := [.rcells [.grp Li8, .nilp, .ptr 1 0, .ptr 2 0, .grp Li9, .grp Li9, .grp Li9, .grp [.int .i64, .int .i64], .sc (.int .i64), .any], .rcells [.sl 3, .sc (.int .i64), .sc (.int .i64), .sc (.int .i64)], .rcells [.sl 4, .sc (.int .i64), .sc (.int .i64), .sc (.int .i64)], .ext 38 Li5, .ext 38 Li5]
def c_n23 : FC := mkFC a_n23 b_n23 [.sc (.int .i64)] dual_Queue_size
theorem t_n23 (N : Nat) : FCOK Tryz.prog N 78 c_n23 := ro_ok facts (ok_n22 N) (by kernel_rfl) (by kernel_rfl) (q_n23 N) (fun t => by kernel_rfl)
def o_n23 : List (Nat × FC) := (78, c_n23) :: o_n22
theorem ok_n23 (N : Nat) : OrcOK Tryz.prog o_n23 N := orc_cons (t_n23 N) (ok_n22 N)
def s_n24 (_ : Nat) : List (Nat × LC) := []
noncomputable def e_n24 (N : Nat) : Env := mkEnvX 0 [] Tryz.prog o_n23 (s_n24 N) N
theorem q_n24 (N : Nat) : LoopsFor (e_n24 N) Tryz.prog 98 0 := loops_mk (by kernel_rfl) (fun j hj => match j, hj with
  | _ + 0, h => absurd h (by omega)) (fun _ => rfl)
def c_n24 : FC := mkF [.sc (.int .i64)] [.sc (.int .i64)] turn_size
theorem t_n24 (N : Nat) : FCOK Tryz.prog N 98 c_n24 := fun_ok facts (ok_n23 N) (by kernel_rfl) (by kernel_rfl) (q_n24 N) (fun t => by kernel_rfl)
def o_n24 : List (Nat × FC) := (98, c_n24) :: o_n23
theorem ok_n24 (N : Nat) : OrcOK Tryz.prog o_n24 N := orc_cons (t_n24 N) (ok_n23 N)
def s_n25 (_ : Nat) : List (Nat × LC) := []
noncomputable def e_n25 (N : Nat) : Env := mkEnvX 0 [] Tryz.prog o_n24 (s_n25 N) N
theorem q_n25 (N : Nat) : LoopsFor (e_n25 N) Tryz.prog 99 0 := loops_mk (by kernel_rfl) (fun j hj => match j, hj with
  | _ + 0, h => absurd h (by omega)) (fun _ => rfl)
def c_n25 : FC := mkF [.agg [.int .i64]] [.sc (.int .i64)] turn_owed
theorem t_n25 (N : Nat) : FCOK Tryz.prog N 99 c_n25 := fun_ok facts (ok_n24 N) (by kernel_rfl) (by kernel_rfl) (q_n25 N) (fun t => by kernel_rfl)
def o_n25 : List (Nat × FC) := (99, c_n25) :: o_n24
theorem ok_n25 (N : Nat) : OrcOK Tryz.prog o_n25 N := orc_cons (t_n25 N) (ok_n24 N)
def s_n26 (_ : Nat) : List (Nat × LC) := []
noncomputable def e_n26 (N : Nat) : Env := mkEnvX 0 [] Tryz.prog o_n25 (s_n26 N) N
theorem q_n26 (N : Nat) : LoopsFor (e_n26 N) Tryz.prog 77 0 := loops_mk (by kernel_rfl) (fun j hj => match j, hj with
  | _ + 0, h => absurd h (by omega)) (fun _ => rfl)
def c_n26 : FC := mkF [.agg [.int .i64], .sc (.int .i64), .sc (.int .i64)] [.sc (.int .i64)] turn_Pick
theorem t_n26 (N : Nat) : FCOK Tryz.prog N 77 c_n26 := fun_ok facts (ok_n25 N) (by kernel_rfl) (by kernel_rfl) (q_n26 N) (fun t => by kernel_rfl)
def o_n26 : List (Nat × FC) := (77, c_n26) :: o_n25
theorem ok_n26 (N : Nat) : OrcOK Tryz.prog o_n26 N := orc_cons (t_n26 N) (ok_n25 N)
def s_n27 (_ : Nat) : List (Nat × LC) := []
noncomputable def e_n27 (N : Nat) : Env := mkEnvX 0 [] Tryz.prog o_n26 (s_n27 N) N
theorem q_n27 (N : Nat) : LoopsFor (e_n27 N) Tryz.prog 79 0 := loops_mk (by kernel_rfl) (fun j hj => match j, hj with
  | _ + 0, h => absurd h (by omega)) (fun _ => rfl)
def a_n27 : List Pat := [.ptr 0 0, .sc (.int .i64), .sc (.int .i64)]
def b_n27 : List HPat := [.rcells [.grp Li8, .nilp, .ptr 1 0, .ptr 2 0, .grp Li9, .grp Li9, .grp Li9, .grp [.int .i64, .int .i64], .sc (.int .i64), .any], .rcells [.sl 3, .sc (.int .i64), .sc (.int .i64), .sc (.int .i64)], .rcells [.sl 4, .sc (.int .i64), .sc (.int .i64), .sc (.int .i64)], .ext 38 Li5, .ext 38 Li5]
def c_n27 : FC := mkFC a_n27 b_n27 [.sc (.int .i64)] dual_Queue_delay
theorem t_n27 (N : Nat) : FCOK Tryz.prog N 79 c_n27 := ro_ok facts (ok_n26 N) (by kernel_rfl) (by kernel_rfl) (q_n27 N) (fun t => by kernel_rfl)
def o_n27 : List (Nat × FC) := (79, c_n27) :: o_n26
theorem ok_n27 (N : Nat) : OrcOK Tryz.prog o_n27 N := orc_cons (t_n27 N) (ok_n26 N)
def s_n28 (_ : Nat) : List (Nat × LC) := []
noncomputable def e_n28 (N : Nat) : Env := mkEnvX 1 [] Tryz.prog o_n27 (s_n28 N) N
theorem q_n28 (N : Nat) : LoopsFor (e_n28 N) Tryz.prog 101 0 := loops_mk (by kernel_rfl) (fun j hj => match j, hj with
  | _ + 0, h => absurd h (by omega)) (fun _ => rfl)
def a_n28 : List Pat := [.ptr 0 0]
def b_n28 : List HPat := [.cells [.sl 1, .sc (.int .i64), .sc (.int .i64), .sc (.int .i64)], .rows 38 Li5]
def ra_n28 : List Pat := [.agg Li5, .sc (.bool)]
def rb_n28 : List HPat := [.cells [.sl 1, .sc (.int .i64), .sc (.int .i64), .sc (.int .i64)], .rows 38 Li5]
def c_n28 : FC := mkFCH 1 a_n28 b_n28 ra_n28 rb_n28 ring_Ring_api_Packet_Pop
theorem t_n28 (N : Nat) : FCOK Tryz.prog N 101 c_n28 := eff_ok facts (ok_n27 N) (by kernel_rfl) (by kernel_rfl) (q_n28 N) (fun t => by kernel_rfl)
def o_n28 : List (Nat × FC) := (101, c_n28) :: o_n27
theorem ok_n28 (N : Nat) : OrcOK Tryz.prog o_n28 N := orc_cons (t_n28 N) (ok_n27 N)
def s_n29 (_ : Nat) : List (Nat × LC) := []
noncomputable def e_n29 (N : Nat) : Env := mkEnvX 0 [] Tryz.prog o_n28 (s_n29 N) N
theorem q_n29 (N : Nat) : LoopsFor (e_n29 N) Tryz.prog 125 0 := loops_mk (by kernel_rfl) (fun j hj => match j, hj with
  | _ + 0, h => absurd h (by omega)) (fun _ => rfl)
def c_n29 : FC := mkF [.sc (.int .i64), .sc (.int .i64)] [.sc (.int .i64)] couple_within_1
theorem t_n29 (N : Nat) : FCOK Tryz.prog N 125 c_n29 := fun_ok facts (ok_n28 N) (by kernel_rfl) (by kernel_rfl) (q_n29 N) (fun t => by kernel_rfl)
def o_n29 : List (Nat × FC) := (125, c_n29) :: o_n28
theorem ok_n29 (N : Nat) : OrcOK Tryz.prog o_n29 N := orc_cons (t_n29 N) (ok_n28 N)
def s_n30 (_ : Nat) : List (Nat × LC) := []
noncomputable def e_n30 (N : Nat) : Env := mkEnvX 0 [] Tryz.prog o_n29 (s_n30 N) N
theorem q_n30 (N : Nat) : LoopsFor (e_n30 N) Tryz.prog 120 0 := loops_mk (by kernel_rfl) (fun j hj => match j, hj with
  | _ + 0, h => absurd h (by omega)) (fun _ => rfl)
def c_n30 : FC := mkF [.sc (.int .i64), .sc (.int .i64)] [.sc (.int .i64), .sc (.int .i64)] couple_within
theorem t_n30 (N : Nat) : FCOK Tryz.prog N 120 c_n30 := fun_ok facts (ok_n29 N) (by kernel_rfl) (by kernel_rfl) (q_n30 N) (fun t => by kernel_rfl)
def o_n30 : List (Nat × FC) := (120, c_n30) :: o_n29
theorem ok_n30 (N : Nat) : OrcOK Tryz.prog o_n30 N := orc_cons (t_n30 N) (ok_n29 N)
def s_n31 (_ : Nat) : List (Nat × LC) := []
noncomputable def e_n31 (N : Nat) : Env := mkEnvX 0 [] Tryz.prog o_n30 (s_n31 N) N
theorem q_n31 (N : Nat) : LoopsFor (e_n31 N) Tryz.prog 133 0 := loops_mk (by kernel_rfl) (fun j hj => match j, hj with
  | _ + 0, h => absurd h (by omega)) (fun _ => rfl)
def c_n31 : FC := mkF [.sc (.int .u64), .sc (.int .u64)] [.sc (.int .u64), .sc (.int .u64)] bits_Mul64
theorem t_n31 (N : Nat) : FCOK Tryz.prog N 133 c_n31 := fun_ok facts (ok_n30 N) (by kernel_rfl) (by kernel_rfl) (q_n31 N) (fun t => by kernel_rfl)
def o_n31 : List (Nat × FC) := (133, c_n31) :: o_n30
theorem ok_n31 (N : Nat) : OrcOK Tryz.prog o_n31 N := orc_cons (t_n31 N) (ok_n30 N)
def s_n32 (_ : Nat) : List (Nat × LC) := []
noncomputable def e_n32 (N : Nat) : Env := mkEnvX 0 [] Tryz.prog o_n31 (s_n32 N) N
theorem q_n32 (N : Nat) : LoopsFor (e_n32 N) Tryz.prog 130 0 := loops_mk (by kernel_rfl) (fun j hj => match j, hj with
  | _ + 0, h => absurd h (by omega)) (fun _ => rfl)
def c_n32 : FC := mkF [.sc (.int .u64), .sc (.int .u64)] [.agg [.int .u64, .int .u64]] wide_Mul
theorem t_n32 (N : Nat) : FCOK Tryz.prog N 130 c_n32 := fun_ok facts (ok_n31 N) (by kernel_rfl) (by kernel_rfl) (q_n32 N) (fun t => by kernel_rfl)
def o_n32 : List (Nat × FC) := (130, c_n32) :: o_n31
theorem ok_n32 (N : Nat) : OrcOK Tryz.prog o_n32 N := orc_cons (t_n32 N) (ok_n31 N)
def s_n33 (_ : Nat) : List (Nat × LC) := []
noncomputable def e_n33 (N : Nat) : Env := mkEnvX 0 [] Tryz.prog o_n32 (s_n33 N) N
theorem q_n33 (N : Nat) : LoopsFor (e_n33 N) Tryz.prog 138 0 := loops_mk (by kernel_rfl) (fun j hj => match j, hj with
  | _ + 0, h => absurd h (by omega)) (fun _ => rfl)
def c_n33 : FC := mkF [.sc (.int .u64)] [.sc (.int .i64)] bits_Len64
theorem t_n33 (N : Nat) : FCOK Tryz.prog N 138 c_n33 := fun_ok facts (ok_n32 N) (by kernel_rfl) (by kernel_rfl) (q_n33 N) (fun t => by kernel_rfl)
def o_n33 : List (Nat × FC) := (138, c_n33) :: o_n32
theorem ok_n33 (N : Nat) : OrcOK Tryz.prog o_n33 N := orc_cons (t_n33 N) (ok_n32 N)
def s_n34 (_ : Nat) : List (Nat × LC) := []
noncomputable def e_n34 (N : Nat) : Env := mkEnvX 0 [] Tryz.prog o_n33 (s_n34 N) N
theorem q_n34 (N : Nat) : LoopsFor (e_n34 N) Tryz.prog 136 0 := loops_mk (by kernel_rfl) (fun j hj => match j, hj with
  | _ + 0, h => absurd h (by omega)) (fun _ => rfl)
def c_n34 : FC := mkF [.sc (.int .u64)] [.sc (.int .i64)] bits_LeadingZeros64
theorem t_n34 (N : Nat) : FCOK Tryz.prog N 136 c_n34 := fun_ok facts (ok_n33 N) (by kernel_rfl) (by kernel_rfl) (q_n34 N) (fun t => by kernel_rfl)
def o_n34 : List (Nat × FC) := (136, c_n34) :: o_n33
theorem ok_n34 (N : Nat) : OrcOK Tryz.prog o_n34 N := orc_cons (t_n34 N) (ok_n33 N)
def p_n35_17 : List Pat := [.any, .any, .sc (.int .u64), .any, .any, .any, .any, .any, .sc (.int .u64), .sc (.int .u64), .sc (.int .u64), .sc (.int .u64), .any, .sc (.int .u64), .sc (.int .u64), .sc (.int .u64), .sc (.int .u64), .any, .any, .any, .any, .any, .any, .any, .any, .any, .any, .any, .any, .any, .any, .any, .any, .any, .any, .any, .any, .any, .any, .any, .any, .any, .any, .any, .any, .any, .any, .any, .any, .any, .any, .any, .any, .any, .any, .any, .any, .any, .any, .any, .any, .any, .any, .any, .any, .any, .any, .any, .any, .any, .any, .any, .any, .any, .any, .any, .any, .any, .any, .any, .any, .any, .any, .any, .any, .any, .any, .any, .any, .any, .any, .any, .any, .any, .any, .any, .any, .any, .any, .any, .any, .any, .any, .any, .any, .any, .any, .any, .any, .any, .any, .any, .any, .any, .any, .any, .any, .any, .any, .any, .any, .any, .any, .any, .any, .any, .any, .any, .any, .any, .any, .any, .any, .any, .any]
def h_n35_17 : List HPat := []
def x_n35_17 : List XP := [⟨.exit 0, [.any, .any, .sc (.int .u64), .any, .any, .any, .any, .any, .sc (.int .u64), .sc (.int .u64), .sc (.int .u64), .sc (.int .u64), .any, .sc (.int .u64), .sc (.int .u64), .sc (.int .u64), .any, .any, .any, .any, .any, .any, .any, .any, .any, .any, .any, .any, .any, .any, .any, .any, .any, .any, .any, .any, .any, .any, .any, .any, .any, .any, .any, .any, .any, .any, .any, .any, .any, .any, .any, .any, .any, .any, .any, .any, .any, .any, .any, .any, .any, .any, .any, .any, .any, .any, .any, .any, .any, .any, .any, .any, .any, .any, .any, .any, .any, .any, .any, .any, .any, .any, .any, .any, .any, .any, .any, .any, .any, .any, .any, .any, .any, .any, .any, .any, .any, .any, .any, .any, .any, .any, .any, .any, .any, .any, .any, .any, .any, .any, .any, .any, .any, .any, .any, .any, .any, .any, .any, .any, .any, .any, .any, .any, .any, .any, .any, .any, .any, .any, .any, .any, .any, .any, .any], []⟩]
def lc_n35_17 (N : Nat) : LC := mkLC 0 p_n35_17 h_n35_17 x_n35_17 (bits_Div64_L17 N)
def p_n35_24 : List Pat := [.any, .any, .sc (.int .u64), .any, .any, .any, .any, .any, .sc (.int .u64), .sc (.int .u64), .sc (.int .u64), .any, .any, .any, .sc (.int .u64), .sc (.int .u64), .sc (.int .u64), .sc (.int .u64), .sc (.int .u64), .any, .any, .any, .any, .any, .any, .any, .any, .any, .any, .any, .any, .any, .any, .any, .any, .any, .any, .any, .any, .any, .any, .any, .any, .any, .any, .any, .any, .any, .any, .any, .any, .any, .any, .any, .any, .any, .any, .any, .any, .any, .any, .any, .any, .any, .any, .any, .any, .any, .any, .any, .any, .any, .any, .any, .any, .any, .any, .any, .any, .any, .any, .any, .any, .any, .any, .any, .any, .any, .any, .any, .any, .any, .any, .any, .any, .any, .any, .any, .any, .any, .any, .any, .any, .any, .any, .any, .any, .any, .any, .any, .any, .any, .any, .any, .any, .any, .any, .any, .any, .any, .any, .any, .any, .any, .any, .any, .any, .any, .any, .any, .any, .any, .any, .any, .any]
def h_n35_24 : List HPat := []
def x_n35_24 : List XP := [⟨.exit 2, [.any, .any, .sc (.int .u64), .any, .any, .any, .any, .any, .sc (.int .u64), .any, .any, .any, .any, .any, .sc (.int .u64), .sc (.int .u64), .any, .sc (.int .u64), .sc (.int .u64), .any, .any, .any, .any, .any, .any, .any, .any, .any, .any, .any, .any, .any, .any, .any, .any, .any, .any, .any, .any, .any, .any, .any, .any, .any, .any, .any, .any, .any, .any, .any, .any, .any, .any, .any, .any, .any, .any, .any, .any, .any, .any, .any, .any, .any, .any, .any, .any, .any, .any, .any, .any, .any, .any, .any, .any, .any, .any, .any, .any, .any, .any, .any, .any, .any, .any, .any, .any, .any, .any, .any, .any, .any, .any, .any, .any, .any, .any, .any, .any, .any, .any, .any, .any, .any, .any, .any, .any, .any, .any, .any, .any, .any, .any, .any, .any, .any, .any, .any, .any, .any, .any, .any, .any, .any, .any, .any, .any, .any, .any, .any, .any, .any, .any, .any, .any], []⟩]
def lc_n35_24 (N : Nat) : LC := mkLC 0 p_n35_24 h_n35_24 x_n35_24 (bits_Div64_L24 N)
def s_n35 (N : Nat) : List (Nat × LC) := [(17, lc_n35_17 N), (24, lc_n35_24 N)]
noncomputable def e_n35 (N : Nat) : Env := mkEnvX 0 [] Tryz.prog o_n34 (s_n35 N) N
theorem k_n35_17 (N : Nat) : LCOK (e_n35 N) 12 (loopAt Tryz.prog 132 0) (lc_n35_17 N) := mkLC_ok rfl (by kernel_rfl) (by kernel_rfl) (fun F x => by kernel_rfl)
theorem k_n35_24 (N : Nat) : LCOK (e_n35 N) 12 (loopAt Tryz.prog 132 1) (lc_n35_24 N) := mkLC_ok rfl (by kernel_rfl) (by kernel_rfl) (fun F x => by kernel_rfl)
theorem q_n35 (N : Nat) : LoopsFor (e_n35 N) Tryz.prog 132 2 := loops_mk (by kernel_rfl) (fun j hj => match j, hj with
  | 0, _ => .inl ⟨lc_n35_17 N, by kernel_rfl, k_n35_17 N⟩
  | 1, _ => .inl ⟨lc_n35_24 N, by kernel_rfl, k_n35_24 N⟩
  | _ + 2, h => absurd h (by omega)) (fun _ => rfl)
def c_n35 : FC := mkF [.sc (.int .u64), .sc (.int .u64), .sc (.int .u64)] [.sc (.int .u64), .sc (.int .u64)] bits_Div64
theorem t_n35 (N : Nat) : FCOK Tryz.prog N 132 c_n35 := fun_ok facts (ok_n34 N) (by kernel_rfl) (by kernel_rfl) (q_n35 N) (fun t => by kernel_rfl)
def o_n35 : List (Nat × FC) := (132, c_n35) :: o_n34
theorem ok_n35 (N : Nat) : OrcOK Tryz.prog o_n35 N := orc_cons (t_n35 N) (ok_n34 N)
def s_n36 (_ : Nat) : List (Nat × LC) := []
noncomputable def e_n36 (N : Nat) : Env := mkEnvX 0 [] Tryz.prog o_n35 (s_n36 N) N
theorem q_n36 (N : Nat) : LoopsFor (e_n36 N) Tryz.prog 129 0 := loops_mk (by kernel_rfl) (fun j hj => match j, hj with
  | _ + 0, h => absurd h (by omega)) (fun _ => rfl)
def c_n36 : FC := mkF [.agg [.int .u64, .int .u64], .sc (.int .u64)] [.agg [.int .u64, .int .u64], .sc (.int .u64)] wide_Div
theorem t_n36 (N : Nat) : FCOK Tryz.prog N 129 c_n36 := fun_ok facts (ok_n35 N) (by kernel_rfl) (by kernel_rfl) (q_n36 N) (fun t => by kernel_rfl)
def o_n36 : List (Nat × FC) := (129, c_n36) :: o_n35
theorem ok_n36 (N : Nat) : OrcOK Tryz.prog o_n36 N := orc_cons (t_n36 N) (ok_n35 N)
def s_n37 (_ : Nat) : List (Nat × LC) := []
noncomputable def e_n37 (N : Nat) : Env := mkEnvX 0 [] Tryz.prog o_n36 (s_n37 N) N
theorem q_n37 (N : Nat) : LoopsFor (e_n37 N) Tryz.prog 126 0 := loops_mk (by kernel_rfl) (fun j hj => match j, hj with
  | _ + 0, h => absurd h (by omega)) (fun _ => rfl)
def c_n37 : FC := mkF [.sc (.int .i64), .sc (.int .i64), .sc (.int .i64)] [.agg [.int .u64, .int .u64], .sc (.bool), .sc (.int .i64)] wide_muldiv
theorem t_n37 (N : Nat) : FCOK Tryz.prog N 126 c_n37 := fun_ok facts (ok_n36 N) (by kernel_rfl) (by kernel_rfl) (q_n37 N) (fun t => by kernel_rfl)
def o_n37 : List (Nat × FC) := (126, c_n37) :: o_n36
theorem ok_n37 (N : Nat) : OrcOK Tryz.prog o_n37 N := orc_cons (t_n37 N) (ok_n36 N)
def s_n38 (_ : Nat) : List (Nat × LC) := []
noncomputable def e_n38 (N : Nat) : Env := mkEnvX 0 [] Tryz.prog o_n37 (s_n38 N) N
theorem q_n38 (N : Nat) : LoopsFor (e_n38 N) Tryz.prog 137 0 := loops_mk (by kernel_rfl) (fun j hj => match j, hj with
  | _ + 0, h => absurd h (by omega)) (fun _ => rfl)
def c_n38 : FC := mkF [.sc (.int .u64)] [.sc (.bool)] cmp_isNaN_uint64
theorem t_n38 (N : Nat) : FCOK Tryz.prog N 137 c_n38 := fun_ok facts (ok_n37 N) (by kernel_rfl) (by kernel_rfl) (q_n38 N) (fun t => by kernel_rfl)
def o_n38 : List (Nat × FC) := (137, c_n38) :: o_n37
theorem ok_n38 (N : Nat) : OrcOK Tryz.prog o_n38 N := orc_cons (t_n38 N) (ok_n37 N)
def s_n39 (_ : Nat) : List (Nat × LC) := []
noncomputable def e_n39 (N : Nat) : Env := mkEnvX 0 [] Tryz.prog o_n38 (s_n39 N) N
theorem q_n39 (N : Nat) : LoopsFor (e_n39 N) Tryz.prog 135 0 := loops_mk (by kernel_rfl) (fun j hj => match j, hj with
  | _ + 0, h => absurd h (by omega)) (fun _ => rfl)
def c_n39 : FC := mkF [.sc (.int .u64), .sc (.int .u64)] [.sc (.int .i64)] cmp_Compare_uint64
theorem t_n39 (N : Nat) : FCOK Tryz.prog N 135 c_n39 := fun_ok facts (ok_n38 N) (by kernel_rfl) (by kernel_rfl) (q_n39 N) (fun t => by kernel_rfl)
def o_n39 : List (Nat × FC) := (135, c_n39) :: o_n38
theorem ok_n39 (N : Nat) : OrcOK Tryz.prog o_n39 N := orc_cons (t_n39 N) (ok_n38 N)
def p_n40_3 : List Pat := [.any, .any, .any, .sc (.int .i64), .any, .any, .sl 0, .sc (.int .i64), .sc (.int .i64), .any, .any, .any, .any, .any, .any, .any, .any, .any]
def h_n40_3 : List HPat := [.ext 3 [.int .i64]]
def x_n40_3 : List XP := [⟨.ret, [.any, .any, .sc (.int .i64), .any, .any, .any, .any, .any, .any, .any, .any, .any, .any, .any, .any, .any, .any, .any], []⟩, ⟨.exit 0, [.any, .any, .any, .sc (.int .i64), .any, .any, .any, .any, .any, .any, .any, .any, .any, .any, .any, .any, .any, .any], []⟩]
def lc_n40_3 (N : Nat) : LC := mkLC 0 p_n40_3 h_n40_3 x_n40_3 (cmp_Or_int_L3 N)
def s_n40 (N : Nat) : List (Nat × LC) := [(3, lc_n40_3 N)]
noncomputable def e_n40 (N : Nat) : Env := mkEnvX 0 [] Tryz.prog o_n39 (s_n40 N) N
theorem k_n40_3 (N : Nat) : LCOK (e_n40 N) 12 (loopAt Tryz.prog 134 0) (lc_n40_3 N) := mkLC_ok rfl (by kernel_rfl) (by kernel_rfl) (fun F x => by kernel_rfl)
theorem q_n40 (N : Nat) : LoopsFor (e_n40 N) Tryz.prog 134 1 := loops_mk (by kernel_rfl) (fun j hj => match j, hj with
  | 0, _ => .inl ⟨lc_n40_3 N, by kernel_rfl, k_n40_3 N⟩
  | _ + 1, h => absurd h (by omega)) (fun _ => rfl)
def c_n40 : FC := mkF [.row 3 [.int .i64]] [.sc (.int .i64)] cmp_Or_int
theorem t_n40 (N : Nat) : FCOK Tryz.prog N 134 c_n40 := fun_ok facts (ok_n39 N) (by kernel_rfl) (by kernel_rfl) (q_n40 N) (fun t => by kernel_rfl)
def o_n40 : List (Nat × FC) := (134, c_n40) :: o_n39
theorem ok_n40 (N : Nat) : OrcOK Tryz.prog o_n40 N := orc_cons (t_n40 N) (ok_n39 N)
def s_n41 (_ : Nat) : List (Nat × LC) := []
noncomputable def e_n41 (N : Nat) : Env := mkEnvX 0 [] Tryz.prog o_n40 (s_n41 N) N
theorem q_n41 (N : Nat) : LoopsFor (e_n41 N) Tryz.prog 131 0 := loops_mk (by kernel_rfl) (fun j hj => match j, hj with
  | _ + 0, h => absurd h (by omega)) (fun _ => rfl)
def c_n41 : FC := mkF [.agg [.int .u64, .int .u64], .agg [.int .u64, .int .u64]] [.sc (.int .i64)] wide_Cmp
theorem t_n41 (N : Nat) : FCOK Tryz.prog N 131 c_n41 := fun_ok facts (ok_n40 N) (by kernel_rfl) (by kernel_rfl) (q_n41 N) (fun t => by kernel_rfl)
def o_n41 : List (Nat × FC) := (131, c_n41) :: o_n40
theorem ok_n41 (N : Nat) : OrcOK Tryz.prog o_n41 N := orc_cons (t_n41 N) (ok_n40 N)
def s_n42 (_ : Nat) : List (Nat × LC) := []
noncomputable def e_n42 (N : Nat) : Env := mkEnvX 0 [] Tryz.prog o_n41 (s_n42 N) N
theorem q_n42 (N : Nat) : LoopsFor (e_n42 N) Tryz.prog 127 0 := loops_mk (by kernel_rfl) (fun j hj => match j, hj with
  | _ + 0, h => absurd h (by omega)) (fun _ => rfl)
def c_n42 : FC := mkF [.agg [.int .u64, .int .u64], .sc (.int .i64)] [.sc (.int .i64), .sc (.int .i64)] wide_told
theorem t_n42 (N : Nat) : FCOK Tryz.prog N 127 c_n42 := fun_ok facts (ok_n41 N) (by kernel_rfl) (by kernel_rfl) (q_n42 N) (fun t => by kernel_rfl)
def o_n42 : List (Nat × FC) := (127, c_n42) :: o_n41
theorem ok_n42 (N : Nat) : OrcOK Tryz.prog o_n42 N := orc_cons (t_n42 N) (ok_n41 N)
def s_n43 (_ : Nat) : List (Nat × LC) := []
noncomputable def e_n43 (N : Nat) : Env := mkEnvX 0 [] Tryz.prog o_n42 (s_n43 N) N
theorem q_n43 (N : Nat) : LoopsFor (e_n43 N) Tryz.prog 121 0 := loops_mk (by kernel_rfl) (fun j hj => match j, hj with
  | _ + 0, h => absurd h (by omega)) (fun _ => rfl)
def c_n43 : FC := mkF [.sc (.int .i64), .sc (.int .i64), .sc (.int .i64)] [.sc (.int .i64), .sc (.int .i64)] wide_MulDiv
theorem t_n43 (N : Nat) : FCOK Tryz.prog N 121 c_n43 := fun_ok facts (ok_n42 N) (by kernel_rfl) (by kernel_rfl) (q_n43 N) (fun t => by kernel_rfl)
def o_n43 : List (Nat × FC) := (121, c_n43) :: o_n42
theorem ok_n43 (N : Nat) : OrcOK Tryz.prog o_n43 N := orc_cons (t_n43 N) (ok_n42 N)
def s_n44 (_ : Nat) : List (Nat × LC) := []
noncomputable def e_n44 (N : Nat) : Env := mkEnvX 0 [] Tryz.prog o_n43 (s_n44 N) N
theorem q_n44 (N : Nat) : LoopsFor (e_n44 N) Tryz.prog 103 0 := loops_mk (by kernel_rfl) (fun j hj => match j, hj with
  | _ + 0, h => absurd h (by omega)) (fun _ => rfl)
def c_n44 : FC := mkF [.sc (.int .i64)] [.sc (.int .i64)] couple_Classic
theorem t_n44 (N : Nat) : FCOK Tryz.prog N 103 c_n44 := fun_ok facts (ok_n43 N) (by kernel_rfl) (by kernel_rfl) (q_n44 N) (fun t => by kernel_rfl)
def o_n44 : List (Nat × FC) := (103, c_n44) :: o_n43
theorem ok_n44 (N : Nat) : OrcOK Tryz.prog o_n44 N := orc_cons (t_n44 N) (ok_n43 N)
def s_n45 (_ : Nat) : List (Nat × LC) := []
noncomputable def e_n45 (N : Nat) : Env := mkEnvX 3 [] Tryz.prog o_n44 (s_n45 N) N
theorem q_n45 (N : Nat) : LoopsFor (e_n45 N) Tryz.prog 119 0 := loops_mk (by kernel_rfl) (fun j hj => match j, hj with
  | _ + 0, h => absurd h (by omega)) (fun _ => rfl)
def a_n45 : List Pat := [.ptr 0 0]
def b_n45 : List HPat := [.cells [.fn 72 [(1, 0), (2, 0)], .sc (.int .i64)], .cells [.sl 3], .cells [.sc (.int .i64)], .ext 120 [.int .u32]]
def ra_n45 : List Pat := [.sc (.int .u32)]
def rb_n45 : List HPat := [.cells [.fn 72 [(1, 0), (2, 0)], .sc (.int .i64)], .cells [.sl 3], .cells [.sc (.int .i64)], .ext 120 [.int .u32]]
def c_n45 : FC := mkFCH 3 a_n45 b_n45 ra_n45 rb_n45 dice_Dice_Next
theorem t_n45 (N : Nat) : FCOK Tryz.prog N 119 c_n45 := eff_ok facts (ok_n44 N) (by kernel_rfl) (by kernel_rfl) (q_n45 N) (fun t => by kernel_rfl)
def o_n45 : List (Nat × FC) := (119, c_n45) :: o_n44
theorem ok_n45 (N : Nat) : OrcOK Tryz.prog o_n45 N := orc_cons (t_n45 N) (ok_n44 N)
def s_n46 (_ : Nat) : List (Nat × LC) := []
noncomputable def e_n46 (N : Nat) : Env := mkEnvX 0 [] Tryz.prog o_n45 (s_n46 N) N
theorem q_n46 (N : Nat) : LoopsFor (e_n46 N) Tryz.prog 118 0 := loops_mk (by kernel_rfl) (fun j hj => match j, hj with
  | _ + 0, h => absurd h (by omega)) (fun _ => rfl)
def c_n46 : FC := mkF [.sc (.int .u32), .sc (.int .i64)] [.sc (.bool)] couple_Hit
theorem t_n46 (N : Nat) : FCOK Tryz.prog N 118 c_n46 := fun_ok facts (ok_n45 N) (by kernel_rfl) (by kernel_rfl) (q_n46 N) (fun t => by kernel_rfl)
def o_n46 : List (Nat × FC) := (118, c_n46) :: o_n45
theorem ok_n46 (N : Nat) : OrcOK Tryz.prog o_n46 N := orc_cons (t_n46 N) (ok_n45 N)
def s_n47 (_ : Nat) : List (Nat × LC) := []
noncomputable def e_n47 (N : Nat) : Env := mkEnvX 6 [] Tryz.prog o_n46 (s_n47 N) N
theorem q_n47 (N : Nat) : LoopsFor (e_n47 N) Tryz.prog 102 0 := loops_mk (by kernel_rfl) (fun j hj => match j, hj with
  | _ + 0, h => absurd h (by omega)) (fun _ => rfl)
def a_n47 : List Pat := [.ptr 0 0, .sc (.int .i64)]
def b_n47 : List HPat := [.cells [.grp Li8, .nilp, .ptr 1 0, .ptr 2 0, .grp Li9, .grp Li9, .grp Li9, .grp [.int .i64, .int .i64], .sc (.int .i64), .ptr 3 0], .cells [.sl 6, .sc (.int .i64), .sc (.int .i64), .sc (.int .i64)], .cells [.sl 7, .sc (.int .i64), .sc (.int .i64), .sc (.int .i64)], .cells [.fn 72 [(4, 0), (5, 0)], .sc (.int .i64)], .cells [.sl 8], .cells [.sc (.int .i64)], .rows 38 Li5, .rows 38 Li5, .ext 120 [.int .u32]]
def ra_n47 : List Pat := [.sc (.bool)]
def rb_n47 : List HPat := [.cells [.grp Li8, .nilp, .ptr 1 0, .ptr 2 0, .grp Li9, .grp Li9, .grp Li9, .grp [.int .i64, .int .i64], .sc (.int .i64), .ptr 3 0], .cells [.sl 6, .sc (.int .i64), .sc (.int .i64), .sc (.int .i64)], .cells [.sl 7, .sc (.int .i64), .sc (.int .i64), .sc (.int .i64)], .cells [.fn 72 [(4, 0), (5, 0)], .sc (.int .i64)], .cells [.sl 8], .cells [.sc (.int .i64)], .rows 38 Li5, .rows 38 Li5, .ext 120 [.int .u32]]
def c_n47 : FC := mkFCH 6 a_n47 b_n47 ra_n47 rb_n47 dual_Queue_hit
theorem t_n47 (N : Nat) : FCOK Tryz.prog N 102 c_n47 := eff_ok facts (ok_n46 N) (by kernel_rfl) (by kernel_rfl) (q_n47 N) (fun t => by kernel_rfl)
def o_n47 : List (Nat × FC) := (102, c_n47) :: o_n46
theorem ok_n47 (N : Nat) : OrcOK Tryz.prog o_n47 N := orc_cons (t_n47 N) (ok_n46 N)
def s_n48 (_ : Nat) : List (Nat × LC) := []
noncomputable def e_n48 (N : Nat) : Env := mkEnvX 0 [] Tryz.prog o_n47 (s_n48 N) N
theorem q_n48 (N : Nat) : LoopsFor (e_n48 N) Tryz.prog 104 0 := loops_mk (by kernel_rfl) (fun j hj => match j, hj with
  | _ + 0, h => absurd h (by omega)) (fun _ => rfl)
def c_n48 : FC := mkF [.sc (.int .i64)] [.sc (.int .i64), .sc (.bool)] ecn_Mark
theorem t_n48 (N : Nat) : FCOK Tryz.prog N 104 c_n48 := fun_ok facts (ok_n47 N) (by kernel_rfl) (by kernel_rfl) (q_n48 N) (fun t => by kernel_rfl)
def o_n48 : List (Nat × FC) := (104, c_n48) :: o_n47
theorem ok_n48 (N : Nat) : OrcOK Tryz.prog o_n48 N := orc_cons (t_n48 N) (ok_n47 N)
def s_n49 (_ : Nat) : List (Nat × LC) := []
noncomputable def e_n49 (N : Nat) : Env := mkEnvX 0 [] Tryz.prog o_n48 (s_n49 N) N
theorem q_n49 (N : Nat) : LoopsFor (e_n49 N) Tryz.prog 107 0 := loops_mk (by kernel_rfl) (fun j hj => match j, hj with
  | _ + 0, h => absurd h (by omega)) (fun _ => rfl)
def c_n49 : FC := mkF [.sc (.int .i64), .sc (.int .i64)] [.sc (.int .i64)] couple_Low
theorem t_n49 (N : Nat) : FCOK Tryz.prog N 107 c_n49 := fun_ok facts (ok_n48 N) (by kernel_rfl) (by kernel_rfl) (q_n49 N) (fun t => by kernel_rfl)
def o_n49 : List (Nat × FC) := (107, c_n49) :: o_n48
theorem ok_n49 (N : Nat) : OrcOK Tryz.prog o_n49 N := orc_cons (t_n49 N) (ok_n48 N)
def s_n50 (_ : Nat) : List (Nat × LC) := []
noncomputable def e_n50 (N : Nat) : Env := mkEnvX 0 [] Tryz.prog o_n49 (s_n50 N) N
theorem q_n50 (N : Nat) : LoopsFor (e_n50 N) Tryz.prog 105 0 := loops_mk (by kernel_rfl) (fun j hj => match j, hj with
  | _ + 0, h => absurd h (by omega)) (fun _ => rfl)
def c_n50 : FC := mkF [.sc (.int .i64), .sc (.int .i64)] [.sc (.bool)] couple_Over
theorem t_n50 (N : Nat) : FCOK Tryz.prog N 105 c_n50 := fun_ok facts (ok_n49 N) (by kernel_rfl) (by kernel_rfl) (q_n50 N) (fun t => by kernel_rfl)
def o_n50 : List (Nat × FC) := (105, c_n50) :: o_n49
theorem ok_n50 (N : Nat) : OrcOK Tryz.prog o_n50 N := orc_cons (t_n50 N) (ok_n49 N)
def s_n51 (_ : Nat) : List (Nat × LC) := []
noncomputable def e_n51 (N : Nat) : Env := mkEnvX 0 [] Tryz.prog o_n50 (s_n51 N) N
theorem q_n51 (N : Nat) : LoopsFor (e_n51 N) Tryz.prog 128 0 := loops_mk (by kernel_rfl) (fun j hj => match j, hj with
  | _ + 0, h => absurd h (by omega)) (fun _ => rfl)
def c_n51 : FC := mkF [.sc (.int .i64)] [.sc (.int .i64)] step_Ramp_1
theorem t_n51 (N : Nat) : FCOK Tryz.prog N 128 c_n51 := fun_ok facts (ok_n50 N) (by kernel_rfl) (by kernel_rfl) (q_n51 N) (fun t => by kernel_rfl)
def o_n51 : List (Nat × FC) := (128, c_n51) :: o_n50
theorem ok_n51 (N : Nat) : OrcOK Tryz.prog o_n51 N := orc_cons (t_n51 N) (ok_n50 N)
def s_n52 (_ : Nat) : List (Nat × LC) := []
noncomputable def e_n52 (N : Nat) : Env := mkEnvX 0 [] Tryz.prog o_n51 (s_n52 N) N
theorem q_n52 (N : Nat) : LoopsFor (e_n52 N) Tryz.prog 122 0 := loops_mk (by kernel_rfl) (fun j hj => match j, hj with
  | _ + 0, h => absurd h (by omega)) (fun _ => rfl)
def c_n52 : FC := mkF [.sc (.int .i64), .sc (.int .i64), .sc (.int .i64)] [.sc (.int .i64)] step_Ramp
theorem t_n52 (N : Nat) : FCOK Tryz.prog N 122 c_n52 := fun_ok facts (ok_n51 N) (by kernel_rfl) (by kernel_rfl) (q_n52 N) (fun t => by kernel_rfl)
def o_n52 : List (Nat × FC) := (122, c_n52) :: o_n51
theorem ok_n52 (N : Nat) : OrcOK Tryz.prog o_n52 N := orc_cons (t_n52 N) (ok_n51 N)
def s_n53 (_ : Nat) : List (Nat × LC) := []
noncomputable def e_n53 (N : Nat) : Env := mkEnvX 0 [] Tryz.prog o_n52 (s_n53 N) N
theorem q_n53 (N : Nat) : LoopsFor (e_n53 N) Tryz.prog 106 0 := loops_mk (by kernel_rfl) (fun j hj => match j, hj with
  | _ + 0, h => absurd h (by omega)) (fun _ => rfl)
def c_n53 : FC := mkF [.sc (.int .i64), .agg Li8, .sc (.int .i64)] [.sc (.int .i64)] step_Mark
theorem t_n53 (N : Nat) : FCOK Tryz.prog N 106 c_n53 := fun_ok facts (ok_n52 N) (by kernel_rfl) (by kernel_rfl) (q_n53 N) (fun t => by kernel_rfl)
def o_n53 : List (Nat × FC) := (106, c_n53) :: o_n52
theorem ok_n53 (N : Nat) : OrcOK Tryz.prog o_n53 N := orc_cons (t_n53 N) (ok_n52 N)
def s_n54 (_ : Nat) : List (Nat × LC) := []
noncomputable def e_n54 (N : Nat) : Env := mkEnvX 6 [] Tryz.prog o_n53 (s_n54 N) N
theorem q_n54 (N : Nat) : LoopsFor (e_n54 N) Tryz.prog 81 0 := loops_mk (by kernel_rfl) (fun j hj => match j, hj with
  | _ + 0, h => absurd h (by omega)) (fun _ => rfl)
def a_n54 : List Pat := [.ptr 0 0, .sc (.int .i64), .agg Li5, .sc (.int .i64)]
def b_n54 : List HPat := [.cells [.grp Li8, .nilp, .ptr 1 0, .ptr 2 0, .grp Li9, .grp Li9, .grp Li9, .grp [.int .i64, .int .i64], .sc (.int .i64), .ptr 3 0], .cells [.sl 6, .sc (.int .i64), .sc (.int .i64), .sc (.int .i64)], .cells [.sl 7, .sc (.int .i64), .sc (.int .i64), .sc (.int .i64)], .cells [.fn 72 [(4, 0), (5, 0)], .sc (.int .i64)], .cells [.sl 8], .cells [.sc (.int .i64)], .rows 38 Li5, .rows 38 Li5, .ext 120 [.int .u32]]
def ra_n54 : List Pat := [.sc (.int .i64), .sc (.bool)]
def rb_n54 : List HPat := [.cells [.grp Li8, .nilp, .ptr 1 0, .ptr 2 0, .grp Li9, .grp Li9, .grp Li9, .grp [.int .i64, .int .i64], .sc (.int .i64), .ptr 3 0], .cells [.sl 6, .sc (.int .i64), .sc (.int .i64), .sc (.int .i64)], .cells [.sl 7, .sc (.int .i64), .sc (.int .i64), .sc (.int .i64)], .cells [.fn 72 [(4, 0), (5, 0)], .sc (.int .i64)], .cells [.sl 8], .cells [.sc (.int .i64)], .rows 38 Li5, .rows 38 Li5, .ext 120 [.int .u32]]
def c_n54 : FC := mkFCH 6 a_n54 b_n54 ra_n54 rb_n54 dual_Queue_judge
theorem t_n54 (N : Nat) : FCOK Tryz.prog N 81 c_n54 := eff_ok facts (ok_n53 N) (by kernel_rfl) (by kernel_rfl) (q_n54 N) (fun t => by kernel_rfl)
def o_n54 : List (Nat × FC) := (81, c_n54) :: o_n53
theorem ok_n54 (N : Nat) : OrcOK Tryz.prog o_n54 N := orc_cons (t_n54 N) (ok_n53 N)
def s_n55 (_ : Nat) : List (Nat × LC) := []
noncomputable def e_n55 (N : Nat) : Env := mkEnvX 0 [] Tryz.prog o_n54 (s_n55 N) N
theorem q_n55 (N : Nat) : LoopsFor (e_n55 N) Tryz.prog 109 0 := loops_mk (by kernel_rfl) (fun j hj => match j, hj with
  | _ + 0, h => absurd h (by omega)) (fun _ => rfl)
def a_n55 : List Pat := [.ptr 0 0]
def b_n55 : List HPat := [.rcells [.any, .sc (.int .i64), .sc (.int .i64), .sc (.int .i64)]]
def c_n55 : FC := mkFC a_n55 b_n55 [.sc (.int .i64)] ring_Ring_api_Packet_Len
theorem t_n55 (N : Nat) : FCOK Tryz.prog N 109 c_n55 := ro_ok facts (ok_n54 N) (by kernel_rfl) (by kernel_rfl) (q_n55 N) (fun t => by kernel_rfl)
def o_n55 : List (Nat × FC) := (109, c_n55) :: o_n54
theorem ok_n55 (N : Nat) : OrcOK Tryz.prog o_n55 N := orc_cons (t_n55 N) (ok_n54 N)
def s_n56 (_ : Nat) : List (Nat × LC) := []
noncomputable def e_n56 (N : Nat) : Env := mkEnvX 0 [] Tryz.prog o_n55 (s_n56 N) N
theorem q_n56 (N : Nat) : LoopsFor (e_n56 N) Tryz.prog 108 0 := loops_mk (by kernel_rfl) (fun j hj => match j, hj with
  | _ + 0, h => absurd h (by omega)) (fun _ => rfl)
def c_n56 : FC := mkF [.agg [.int .i64], .sc (.int .i64), .sc (.int .i64), .sc (.bool)] [.agg [.int .i64]] turn_Serve
theorem t_n56 (N : Nat) : FCOK Tryz.prog N 108 c_n56 := fun_ok facts (ok_n55 N) (by kernel_rfl) (by kernel_rfl) (q_n56 N) (fun t => by kernel_rfl)
def o_n56 : List (Nat × FC) := (108, c_n56) :: o_n55
theorem ok_n56 (N : Nat) : OrcOK Tryz.prog o_n56 N := orc_cons (t_n56 N) (ok_n55 N)
def s_n57 (_ : Nat) : List (Nat × LC) := []
noncomputable def e_n57 (N : Nat) : Env := mkEnvX 6 [] Tryz.prog o_n56 (s_n57 N) N
theorem q_n57 (N : Nat) : LoopsFor (e_n57 N) Tryz.prog 82 0 := loops_mk (by kernel_rfl) (fun j hj => match j, hj with
  | _ + 0, h => absurd h (by omega)) (fun _ => rfl)
def a_n57 : List Pat := [.ptr 0 0, .sc (.int .i64), .sc (.int .i64)]
def b_n57 : List HPat := [.cells [.grp Li8, .nilp, .ptr 1 0, .ptr 2 0, .grp Li9, .grp Li9, .grp Li9, .grp [.int .i64, .int .i64], .sc (.int .i64), .ptr 3 0], .cells [.sl 6, .sc (.int .i64), .sc (.int .i64), .sc (.int .i64)], .cells [.sl 7, .sc (.int .i64), .sc (.int .i64), .sc (.int .i64)], .cells [.fn 72 [(4, 0), (5, 0)], .sc (.int .i64)], .cells [.sl 8], .cells [.sc (.int .i64)], .rows 38 Li5, .rows 38 Li5, .ext 120 [.int .u32]]
def ra_n57 : List Pat := []
def rb_n57 : List HPat := [.cells [.grp Li8, .nilp, .ptr 1 0, .ptr 2 0, .grp Li9, .grp Li9, .grp Li9, .grp [.int .i64, .int .i64], .sc (.int .i64), .ptr 3 0], .cells [.sl 6, .sc (.int .i64), .sc (.int .i64), .sc (.int .i64)], .cells [.sl 7, .sc (.int .i64), .sc (.int .i64), .sc (.int .i64)], .cells [.fn 72 [(4, 0), (5, 0)], .sc (.int .i64)], .cells [.sl 8], .cells [.sc (.int .i64)], .rows 38 Li5, .rows 38 Li5, .ext 120 [.int .u32]]
def c_n57 : FC := mkFCH 6 a_n57 b_n57 ra_n57 rb_n57 dual_Queue_served
theorem t_n57 (N : Nat) : FCOK Tryz.prog N 82 c_n57 := eff_ok facts (ok_n56 N) (by kernel_rfl) (by kernel_rfl) (q_n57 N) (fun t => by kernel_rfl)
def o_n57 : List (Nat × FC) := (82, c_n57) :: o_n56
theorem ok_n57 (N : Nat) : OrcOK Tryz.prog o_n57 N := orc_cons (t_n57 N) (ok_n56 N)
def p_n58_2 : List Pat := [.ptr 0 0, .sc (.int .i64), .any, .any, .ptr 6 0, .any, .any, .sl 7, .any, .any, .any, .any, .any, .any, .any, .any, .any, .any, .any, .any, .any, .any, .any, .any, .any, .any, .any, .any, .any, .any, .any, .any, .any, .any, .any, .any, .any, .any, .any, .any, .any, .any, .any, .any, .any, .any, .any, .any, .any, .any, .any, .any, .any, .any, .any, .any, .any, .any, .any, .any, .any, .any, .any, .any, .any, .any, .any, .any, .any, .any, .any, .any, .any, .any, .any, .any, .any, .any, .any, .any, .any, .any, .any, .any, .any, .any, .any, .any, .any, .any, .any, .any, .any, .any, .any, .any, .any, .any, .any, .any, .any, .any, .any, .any, .any, .any, .any]
def h_n58_2 : List HPat := [.cells [.grp Li8, .nilp, .ptr 1 0, .ptr 2 0, .grp Li9, .grp Li9, .grp Li9, .grp [.int .i64, .int .i64], .sc (.int .i64), .ptr 3 0], .cells [.sl 8, .sc (.int .i64), .sc (.int .i64), .sc (.int .i64)], .cells [.sl 9, .sc (.int .i64), .sc (.int .i64), .sc (.int .i64)], .cells [.fn 72 [(4, 0), (5, 0)], .sc (.int .i64)], .cells [.sl 10], .cells [.sc (.int .i64)], .cells [.grp Li5], .rows 38 Li5, .rows 38 Li5, .rows 38 Li5, .ext 120 [.int .u32]]
def x_n58_2 : List XP := [⟨.ret, [.any, .any, .any, .any, .ptr 6 0, .sl 7, .sc (.bool), .any, .any, .any, .any, .any, .any, .any, .any, .any, .any, .any, .any, .any, .any, .any, .any, .any, .any, .any, .any, .any, .any, .any, .any, .any, .any, .any, .any, .any, .any, .any, .any, .any, .any, .any, .any, .any, .any, .any, .any, .any, .any, .any, .any, .any, .any, .any, .any, .any, .any, .any, .any, .any, .any, .any, .any, .any, .any, .any, .any, .any, .any, .any, .any, .any, .any, .any, .any, .any, .any, .any, .any, .any, .any, .any, .any, .any, .any, .any, .any, .any, .any, .any, .any, .any, .any, .any, .any, .any, .any, .any, .any, .any, .any, .any, .any, .any, .any, .any, .any], [.cells [.grp Li8, .nilp, .ptr 1 0, .ptr 2 0, .grp Li9, .grp Li9, .grp Li9, .grp [.int .i64, .int .i64], .sc (.int .i64), .ptr 3 0], .cells [.sl 8, .sc (.int .i64), .sc (.int .i64), .sc (.int .i64)], .cells [.sl 9, .sc (.int .i64), .sc (.int .i64), .sc (.int .i64)], .cells [.fn 72 [(4, 0), (5, 0)], .sc (.int .i64)], .cells [.sl 10], .cells [.sc (.int .i64)], .cells [.grp Li5], .rows 38 Li5, .rows 38 Li5, .rows 38 Li5, .ext 120 [.int .u32]]⟩, ⟨.exit 0, [.any, .any, .any, .any, .ptr 6 0, .any, .any, .sl 7, .any, .any, .any, .any, .any, .any, .any, .any, .any, .any, .any, .any, .any, .any, .any, .any, .any, .any, .any, .any, .any, .any, .any, .any, .any, .any, .any, .any, .any, .any, .any, .any, .any, .any, .any, .any, .any, .any, .any, .any, .any, .any, .any, .any, .any, .any, .any, .any, .any, .any, .any, .any, .any, .any, .any, .any, .any, .any, .any, .any, .any, .any, .any, .any, .any, .any, .any, .any, .any, .any, .any, .any, .any, .any, .any, .any, .any, .any, .any, .any, .any, .any, .any, .any, .any, .any, .any, .any, .any, .any, .any, .any, .any, .any, .any, .any, .any, .any, .any], [.cells [.grp Li8, .nilp, .ptr 1 0, .ptr 2 0, .grp Li9, .grp Li9, .grp Li9, .grp [.int .i64, .int .i64], .sc (.int .i64), .ptr 3 0], .cells [.sl 8, .sc (.int .i64), .sc (.int .i64), .sc (.int .i64)], .cells [.sl 9, .sc (.int .i64), .sc (.int .i64), .sc (.int .i64)], .cells [.fn 72 [(4, 0), (5, 0)], .sc (.int .i64)], .cells [.sl 10], .cells [.sc (.int .i64)], .cells [.grp Li5], .rows 38 Li5, .rows 38 Li5, .rows 38 Li5, .ext 120 [.int .u32]]⟩]
def lc_n58_2 (N : Nat) : LC := mkLC 6 p_n58_2 h_n58_2 x_n58_2 (dual_Queue_Take_L2 N)
def s_n58 (N : Nat) : List (Nat × LC) := [(2, lc_n58_2 N)]
noncomputable def e_n58 (N : Nat) : Env := mkEnvX 6 [(8, 3)] Tryz.prog o_n57 (s_n58 N) N
theorem k_n58_2 (N : Nat) : LCOK (e_n58 N) 12 (loopAt Tryz.prog 62 0) (lc_n58_2 N) := mkLC_ok rfl (by kernel_rfl) (by kernel_rfl) (fun F x => by kernel_rfl)
theorem q_n58 (N : Nat) : LoopsFor (e_n58 N) Tryz.prog 62 1 := loops_mk (by kernel_rfl) (fun j hj => match j, hj with
  | 0, _ => .inl ⟨lc_n58_2 N, by kernel_rfl, k_n58_2 N⟩
  | _ + 1, h => absurd h (by omega)) (fun _ => rfl)
def a_n58 : List Pat := [.ptr 0 0, .sc (.int .i64)]
def b_n58 : List HPat := [.cells [.grp Li8, .nilp, .ptr 1 0, .ptr 2 0, .grp Li9, .grp Li9, .grp Li9, .grp [.int .i64, .int .i64], .sc (.int .i64), .ptr 3 0], .cells [.sl 6, .sc (.int .i64), .sc (.int .i64), .sc (.int .i64)], .cells [.sl 7, .sc (.int .i64), .sc (.int .i64), .sc (.int .i64)], .cells [.fn 72 [(4, 0), (5, 0)], .sc (.int .i64)], .cells [.sl 8], .cells [.sc (.int .i64)], .rows 38 Li5, .rows 38 Li5, .ext 120 [.int .u32]]
def ra_n58 : List Pat := [.agg Li5, .sl 9, .sc (.bool)]
def rb_n58 : List HPat := [.cells [.grp Li8, .nilp, .ptr 1 0, .ptr 2 0, .grp Li9, .grp Li9, .grp Li9, .grp [.int .i64, .int .i64], .sc (.int .i64), .ptr 3 0], .cells [.sl 6, .sc (.int .i64), .sc (.int .i64), .sc (.int .i64)], .cells [.sl 7, .sc (.int .i64), .sc (.int .i64), .sc (.int .i64)], .cells [.fn 72 [(4, 0), (5, 0)], .sc (.int .i64)], .cells [.sl 8], .cells [.sc (.int .i64)], .rows 38 Li5, .rows 38 Li5, .ext 120 [.int .u32], .rows 38 Li5]
def c_n58 : FC := mkFCH 6 a_n58 b_n58 ra_n58 rb_n58 dual_Queue_Take
theorem t_n58 (N : Nat) : FCOK Tryz.prog N 62 c_n58 := eff_ok facts (ok_n57 N) (by kernel_rfl) (by kernel_rfl) (q_n58 N) (fun t => by kernel_rfl)
def o_n58 : List (Nat × FC) := (62, c_n58) :: o_n57
theorem ok_n58 (N : Nat) : OrcOK Tryz.prog o_n58 N := orc_cons (t_n58 N) (ok_n57 N)
def s_n59 (_ : Nat) : List (Nat × LC) := []
noncomputable def e_n59 (N : Nat) : Env := mkEnvX 0 [] Tryz.prog o_n58 (s_n59 N) N
theorem q_n59 (N : Nat) : LoopsFor (e_n59 N) Tryz.prog 83 0 := loops_mk (by kernel_rfl) (fun j hj => match j, hj with
  | _ + 0, h => absurd h (by omega)) (fun _ => rfl)
def c_n59 : FC := mkF [.agg [.int .i64, .int .i64, .int .i64]] [.agg [.int .i64, .int .i64, .int .i64]] link_within
theorem t_n59 (N : Nat) : FCOK Tryz.prog N 83 c_n59 := fun_ok facts (ok_n58 N) (by kernel_rfl) (by kernel_rfl) (q_n59 N) (fun t => by kernel_rfl)
def o_n59 : List (Nat × FC) := (83, c_n59) :: o_n58
theorem ok_n59 (N : Nat) : OrcOK Tryz.prog o_n59 N := orc_cons (t_n59 N) (ok_n58 N)
def s_n60 (_ : Nat) : List (Nat × LC) := []
noncomputable def e_n60 (N : Nat) : Env := mkEnvX 0 [] Tryz.prog o_n59 (s_n60 N) N
theorem q_n60 (N : Nat) : LoopsFor (e_n60 N) Tryz.prog 53 0 := loops_mk (by kernel_rfl) (fun j hj => match j, hj with
  | _ + 0, h => absurd h (by omega)) (fun _ => rfl)
def c_n60 : FC := mkF [.sc (.int .i64), .sc (.int .i64)] [.sc (.int .i64)] sat_Div
theorem t_n60 (N : Nat) : FCOK Tryz.prog N 53 c_n60 := fun_ok facts (ok_n59 N) (by kernel_rfl) (by kernel_rfl) (q_n60 N) (fun t => by kernel_rfl)
def o_n60 : List (Nat × FC) := (53, c_n60) :: o_n59
theorem ok_n60 (N : Nat) : OrcOK Tryz.prog o_n60 N := orc_cons (t_n60 N) (ok_n59 N)
def s_n61 (_ : Nat) : List (Nat × LC) := []
noncomputable def e_n61 (N : Nat) : Env := mkEnvX 0 [] Tryz.prog o_n60 (s_n61 N) N
theorem q_n61 (N : Nat) : LoopsFor (e_n61 N) Tryz.prog 35 0 := loops_mk (by kernel_rfl) (fun j hj => match j, hj with
  | _ + 0, h => absurd h (by omega)) (fun _ => rfl)
def c_n61 : FC := mkF [.sc (.int .i64), .sc (.int .i64)] [.sc (.int .i64)] link_Span
theorem t_n61 (N : Nat) : FCOK Tryz.prog N 35 c_n61 := fun_ok facts (ok_n60 N) (by kernel_rfl) (by kernel_rfl) (q_n61 N) (fun t => by kernel_rfl)
def o_n61 : List (Nat × FC) := (35, c_n61) :: o_n60
theorem ok_n61 (N : Nat) : OrcOK Tryz.prog o_n61 N := orc_cons (t_n61 N) (ok_n60 N)
def s_n62 (_ : Nat) : List (Nat × LC) := []
noncomputable def e_n62 (N : Nat) : Env := mkEnvX 0 [] Tryz.prog o_n61 (s_n62 N) N
theorem q_n62 (N : Nat) : LoopsFor (e_n62 N) Tryz.prog 63 0 := loops_mk (by kernel_rfl) (fun j hj => match j, hj with
  | _ + 0, h => absurd h (by omega)) (fun _ => rfl)
def c_n62 : FC := mkF [.agg [.int .i64, .int .i64, .int .i64], .sc (.int .i64), .sc (.int .i64)] [.agg [.int .i64, .int .i64, .int .i64], .sc (.int .i64), .sc (.int .i64)] link_Take
theorem t_n62 (N : Nat) : FCOK Tryz.prog N 63 c_n62 := fun_ok facts (ok_n61 N) (by kernel_rfl) (by kernel_rfl) (q_n62 N) (fun t => by kernel_rfl)
def o_n62 : List (Nat × FC) := (63, c_n62) :: o_n61
theorem ok_n62 (N : Nat) : OrcOK Tryz.prog o_n62 N := orc_cons (t_n62 N) (ok_n61 N)
def s_n63 (_ : Nat) : List (Nat × LC) := []
noncomputable def e_n63 (N : Nat) : Env := mkEnvX 7 [] Tryz.prog o_n62 (s_n63 N) N
theorem q_n63 (N : Nat) : LoopsFor (e_n63 N) Tryz.prog 44 0 := loops_mk (by kernel_rfl) (fun j hj => match j, hj with
  | _ + 0, h => absurd h (by omega)) (fun _ => rfl)
def a_n63 : List Pat := [.ptr 0 0]
def b_n63 : List HPat := [.cells [.grp Li10, .any, .ptr 1 0, .grp [.int .i64, .int .i64, .int .i64], .sc (.int .i64), .sl 10, .sl 11], .cells [.grp Li8, .nilp, .ptr 2 0, .ptr 3 0, .grp Li9, .grp Li9, .grp Li9, .grp [.int .i64, .int .i64], .sc (.int .i64), .ptr 4 0], .cells [.sl 7, .sc (.int .i64), .sc (.int .i64), .sc (.int .i64)], .cells [.sl 8, .sc (.int .i64), .sc (.int .i64), .sc (.int .i64)], .cells [.fn 72 [(5, 0), (6, 0)], .sc (.int .i64)], .cells [.sl 9], .cells [.sc (.int .i64)], .rows 38 Li5, .rows 38 Li5, .ext 120 [.int .u32], .rows 38 Li5, .rows 38 Li5]
def ra_n63 : List Pat := []
def rb_n63 : List HPat := [.cells [.grp Li10, .any, .ptr 1 0, .grp [.int .i64, .int .i64, .int .i64], .sc (.int .i64), .sl 10, .sl 11], .cells [.grp Li8, .nilp, .ptr 2 0, .ptr 3 0, .grp Li9, .grp Li9, .grp Li9, .grp [.int .i64, .int .i64], .sc (.int .i64), .ptr 4 0], .cells [.sl 7, .sc (.int .i64), .sc (.int .i64), .sc (.int .i64)], .cells [.sl 8, .sc (.int .i64), .sc (.int .i64), .sc (.int .i64)], .cells [.fn 72 [(5, 0), (6, 0)], .sc (.int .i64)], .cells [.sl 9], .cells [.sc (.int .i64)], .rows 38 Li5, .rows 38 Li5, .ext 120 [.int .u32], .rows 38 Li5, .rows 38 Li5]
def c_n63 : FC := mkFCH 7 a_n63 b_n63 ra_n63 rb_n63 chain_place_take
theorem t_n63 (N : Nat) : FCOK Tryz.prog N 44 c_n63 := eff_ok facts (ok_n62 N) (by kernel_rfl) (by kernel_rfl) (q_n63 N) (fun t => by kernel_rfl)
def o_n63 : List (Nat × FC) := (44, c_n63) :: o_n62
theorem ok_n63 (N : Nat) : OrcOK Tryz.prog o_n63 N := orc_cons (t_n63 N) (ok_n62 N)
def s_n64 (_ : Nat) : List (Nat × LC) := []
noncomputable def e_n64 (N : Nat) : Env := mkEnvX 0 [] Tryz.prog o_n63 (s_n64 N) N
theorem q_n64 (N : Nat) : LoopsFor (e_n64 N) Tryz.prog 84 0 := loops_mk (by kernel_rfl) (fun j hj => match j, hj with
  | _ + 0, h => absurd h (by omega)) (fun _ => rfl)
def a_n64 : List Pat := [.ptr 0 0, .sc (.int .i64)]
def b_n64 : List HPat := [.rcells [.grp Li8, .nilp, .ptr 1 0, .ptr 2 0, .grp Li9, .grp Li9, .grp Li9, .grp [.int .i64, .int .i64], .sc (.int .i64), .any], .rcells [.sl 3, .sc (.int .i64), .sc (.int .i64), .sc (.int .i64)], .rcells [.sl 4, .sc (.int .i64), .sc (.int .i64), .sc (.int .i64)], .ext 38 Li5, .ext 38 Li5]
def c_n64 : FC := mkFC a_n64 b_n64 [.sc (.int .i64), .sc (.int .i64)] dual_Queue_Wait
theorem t_n64 (N : Nat) : FCOK Tryz.prog N 84 c_n64 := ro_ok facts (ok_n63 N) (by kernel_rfl) (by kernel_rfl) (q_n64 N) (fun t => by kernel_rfl)
def o_n64 : List (Nat × FC) := (84, c_n64) :: o_n63
theorem ok_n64 (N : Nat) : OrcOK Tryz.prog o_n64 N := orc_cons (t_n64 N) (ok_n63 N)
def s_n65 (_ : Nat) : List (Nat × LC) := []
noncomputable def e_n65 (N : Nat) : Env := mkEnvX 0 [] Tryz.prog o_n64 (s_n65 N) N
theorem q_n65 (N : Nat) : LoopsFor (e_n65 N) Tryz.prog 123 0 := loops_mk (by kernel_rfl) (fun j hj => match j, hj with
  | _ + 0, h => absurd h (by omega)) (fun _ => rfl)
def a_n65 : List Pat := [.sc (.int .i64), .ptr 0 0]
def b_n65 : List HPat := [.rcells [.sc (.int .i64)]]
def c_n65 : FC := mkFC a_n65 b_n65 [.sc (.int .i64)] pi_keep_1
theorem t_n65 (N : Nat) : FCOK Tryz.prog N 123 c_n65 := ro_ok facts (ok_n64 N) (by kernel_rfl) (by kernel_rfl) (q_n65 N) (fun t => by kernel_rfl)
def o_n65 : List (Nat × FC) := (123, c_n65) :: o_n64
theorem ok_n65 (N : Nat) : OrcOK Tryz.prog o_n65 N := orc_cons (t_n65 N) (ok_n64 N)
def s_n66 (_ : Nat) : List (Nat × LC) := []
noncomputable def e_n66 (N : Nat) : Env := mkEnvX 0 [] Tryz.prog o_n65 (s_n66 N) N
theorem q_n66 (N : Nat) : LoopsFor (e_n66 N) Tryz.prog 85 0 := loops_mk (by kernel_rfl) (fun j hj => match j, hj with
  | _ + 0, h => absurd h (by omega)) (fun _ => rfl)
def c_n66 : FC := mkF [.agg [.int .i64, .int .i64], .sc (.int .i64), .agg Li8] [.agg [.int .i64, .int .i64]] pi_Step
theorem t_n66 (N : Nat) : FCOK Tryz.prog N 85 c_n66 := fun_ok facts (ok_n65 N) (by kernel_rfl) (by kernel_rfl) (q_n66 N) (fun t => by kernel_rfl)
def o_n66 : List (Nat × FC) := (85, c_n66) :: o_n65
theorem ok_n66 (N : Nat) : OrcOK Tryz.prog o_n66 N := orc_cons (t_n66 N) (ok_n65 N)
def s_n67 (_ : Nat) : List (Nat × LC) := []
noncomputable def e_n67 (N : Nat) : Env := mkEnvX 6 [] Tryz.prog o_n66 (s_n67 N) N
theorem q_n67 (N : Nat) : LoopsFor (e_n67 N) Tryz.prog 64 0 := loops_mk (by kernel_rfl) (fun j hj => match j, hj with
  | _ + 0, h => absurd h (by omega)) (fun _ => rfl)
def a_n67 : List Pat := [.ptr 0 0, .sc (.int .i64)]
def b_n67 : List HPat := [.cells [.grp Li8, .nilp, .ptr 1 0, .ptr 2 0, .grp Li9, .grp Li9, .grp Li9, .grp [.int .i64, .int .i64], .sc (.int .i64), .ptr 3 0], .cells [.sl 6, .sc (.int .i64), .sc (.int .i64), .sc (.int .i64)], .cells [.sl 7, .sc (.int .i64), .sc (.int .i64), .sc (.int .i64)], .cells [.fn 72 [(4, 0), (5, 0)], .sc (.int .i64)], .cells [.sl 8], .cells [.sc (.int .i64)], .rows 38 Li5, .rows 38 Li5, .ext 120 [.int .u32]]
def ra_n67 : List Pat := []
def rb_n67 : List HPat := [.cells [.grp Li8, .nilp, .ptr 1 0, .ptr 2 0, .grp Li9, .grp Li9, .grp Li9, .grp [.int .i64, .int .i64], .sc (.int .i64), .ptr 3 0], .cells [.sl 6, .sc (.int .i64), .sc (.int .i64), .sc (.int .i64)], .cells [.sl 7, .sc (.int .i64), .sc (.int .i64), .sc (.int .i64)], .cells [.fn 72 [(4, 0), (5, 0)], .sc (.int .i64)], .cells [.sl 8], .cells [.sc (.int .i64)], .rows 38 Li5, .rows 38 Li5, .ext 120 [.int .u32]]
def c_n67 : FC := mkFCH 6 a_n67 b_n67 ra_n67 rb_n67 dual_Queue_Update
theorem t_n67 (N : Nat) : FCOK Tryz.prog N 64 c_n67 := eff_ok facts (ok_n66 N) (by kernel_rfl) (by kernel_rfl) (q_n67 N) (fun t => by kernel_rfl)
def o_n67 : List (Nat × FC) := (64, c_n67) :: o_n66
theorem ok_n67 (N : Nat) : OrcOK Tryz.prog o_n67 N := orc_cons (t_n67 N) (ok_n66 N)
def s_n68 (_ : Nat) : List (Nat × LC) := []
noncomputable def e_n68 (N : Nat) : Env := mkEnvX 7 [] Tryz.prog o_n67 (s_n68 N) N
theorem q_n68 (N : Nat) : LoopsFor (e_n68 N) Tryz.prog 45 0 := loops_mk (by kernel_rfl) (fun j hj => match j, hj with
  | _ + 0, h => absurd h (by omega)) (fun _ => rfl)
def a_n68 : List Pat := [.ptr 0 0]
def b_n68 : List HPat := [.cells [.grp Li10, .any, .ptr 1 0, .grp [.int .i64, .int .i64, .int .i64], .sc (.int .i64), .sl 10, .sl 11], .cells [.grp Li8, .nilp, .ptr 2 0, .ptr 3 0, .grp Li9, .grp Li9, .grp Li9, .grp [.int .i64, .int .i64], .sc (.int .i64), .ptr 4 0], .cells [.sl 7, .sc (.int .i64), .sc (.int .i64), .sc (.int .i64)], .cells [.sl 8, .sc (.int .i64), .sc (.int .i64), .sc (.int .i64)], .cells [.fn 72 [(5, 0), (6, 0)], .sc (.int .i64)], .cells [.sl 9], .cells [.sc (.int .i64)], .rows 38 Li5, .rows 38 Li5, .ext 120 [.int .u32], .rows 38 Li5, .rows 38 Li5]
def ra_n68 : List Pat := []
def rb_n68 : List HPat := [.cells [.grp Li10, .any, .ptr 1 0, .grp [.int .i64, .int .i64, .int .i64], .sc (.int .i64), .sl 10, .sl 11], .cells [.grp Li8, .nilp, .ptr 2 0, .ptr 3 0, .grp Li9, .grp Li9, .grp Li9, .grp [.int .i64, .int .i64], .sc (.int .i64), .ptr 4 0], .cells [.sl 7, .sc (.int .i64), .sc (.int .i64), .sc (.int .i64)], .cells [.sl 8, .sc (.int .i64), .sc (.int .i64), .sc (.int .i64)], .cells [.fn 72 [(5, 0), (6, 0)], .sc (.int .i64)], .cells [.sl 9], .cells [.sc (.int .i64)], .rows 38 Li5, .rows 38 Li5, .ext 120 [.int .u32], .rows 38 Li5, .rows 38 Li5]
def c_n68 : FC := mkFCH 7 a_n68 b_n68 ra_n68 rb_n68 chain_place_step
theorem t_n68 (N : Nat) : FCOK Tryz.prog N 45 c_n68 := eff_ok facts (ok_n67 N) (by kernel_rfl) (by kernel_rfl) (q_n68 N) (fun t => by kernel_rfl)
def o_n68 : List (Nat × FC) := (45, c_n68) :: o_n67
theorem ok_n68 (N : Nat) : OrcOK Tryz.prog o_n68 N := orc_cons (t_n68 N) (ok_n67 N)
def p_n69_2 : List Pat := [.any, .any, .ptr 7 0, .ptr 8 0, .fn 58 [(7, 0), (8, 0)], .any, .any, .any, .any, .any, .any, .any, .any, .any, .any, .any, .any, .any, .any, .any]
def h_n69_2 : List HPat := [.cells [.grp Li10, .any, .ptr 1 0, .grp [.int .i64, .int .i64, .int .i64], .sc (.int .i64), .sl 9, .sl 10], .cells [.grp Li8, .nilp, .ptr 2 0, .ptr 3 0, .grp Li9, .grp Li9, .grp Li9, .grp [.int .i64, .int .i64], .sc (.int .i64), .ptr 4 0], .cells [.sl 11, .sc (.int .i64), .sc (.int .i64), .sc (.int .i64)], .cells [.sl 12, .sc (.int .i64), .sc (.int .i64), .sc (.int .i64)], .cells [.fn 72 [(5, 0), (6, 0)], .sc (.int .i64)], .cells [.sl 13], .cells [.sc (.int .i64)], .cells [.ptr 0 0], .cells [.sc (.int .i64)], .rows 38 Li5, .rows 38 Li5, .rows 38 Li5, .rows 38 Li5, .ext 120 [.int .u32]]
def x_n69_2 : List XP := [⟨.exit 0, [.any, .any, .any, .any, .any, .any, .any, .any, .any, .any, .any, .any, .any, .any, .any, .any, .any, .any, .any, .any], [.cells [.grp Li10, .any, .ptr 1 0, .grp [.int .i64, .int .i64, .int .i64], .sc (.int .i64), .sl 7, .sl 8], .cells [.grp Li8, .nilp, .ptr 2 0, .ptr 3 0, .grp Li9, .grp Li9, .grp Li9, .grp [.int .i64, .int .i64], .sc (.int .i64), .ptr 4 0], .cells [.sl 9, .sc (.int .i64), .sc (.int .i64), .sc (.int .i64)], .cells [.sl 10, .sc (.int .i64), .sc (.int .i64), .sc (.int .i64)], .cells [.fn 72 [(5, 0), (6, 0)], .sc (.int .i64)], .cells [.sl 11], .cells [.sc (.int .i64)], .rows 38 Li5, .rows 38 Li5, .rows 38 Li5, .rows 38 Li5, .ext 120 [.int .u32]]⟩]
def lc_n69_2 (N : Nat) : LC := mkLC 7 p_n69_2 h_n69_2 x_n69_2 (chain_place_upto_L2 N)
def s_n69 (N : Nat) : List (Nat × LC) := [(2, lc_n69_2 N)]
noncomputable def e_n69 (N : Nat) : Env := mkEnvX 7 [] Tryz.prog o_n68 (s_n69 N) N
theorem k_n69_2 (N : Nat) : LCOK (e_n69 N) 12 (loopAt Tryz.prog 41 0) (lc_n69_2 N) := mkLC_ok rfl (by kernel_rfl) (by kernel_rfl) (fun F x => by kernel_rfl)
theorem q_n69 (N : Nat) : LoopsFor (e_n69 N) Tryz.prog 41 1 := loops_mk (by kernel_rfl) (fun j hj => match j, hj with
  | 0, _ => .inl ⟨lc_n69_2 N, by kernel_rfl, k_n69_2 N⟩
  | _ + 1, h => absurd h (by omega)) (fun _ => rfl)
def a_n69 : List Pat := [.ptr 0 0, .sc (.int .i64)]
def b_n69 : List HPat := [.cells [.grp Li10, .any, .ptr 1 0, .grp [.int .i64, .int .i64, .int .i64], .sc (.int .i64), .sl 10, .sl 11], .cells [.grp Li8, .nilp, .ptr 2 0, .ptr 3 0, .grp Li9, .grp Li9, .grp Li9, .grp [.int .i64, .int .i64], .sc (.int .i64), .ptr 4 0], .cells [.sl 7, .sc (.int .i64), .sc (.int .i64), .sc (.int .i64)], .cells [.sl 8, .sc (.int .i64), .sc (.int .i64), .sc (.int .i64)], .cells [.fn 72 [(5, 0), (6, 0)], .sc (.int .i64)], .cells [.sl 9], .cells [.sc (.int .i64)], .rows 38 Li5, .rows 38 Li5, .ext 120 [.int .u32], .rows 38 Li5, .rows 38 Li5]
def ra_n69 : List Pat := []
def rb_n69 : List HPat := [.cells [.grp Li10, .any, .ptr 1 0, .grp [.int .i64, .int .i64, .int .i64], .sc (.int .i64), .sl 10, .sl 11], .cells [.grp Li8, .nilp, .ptr 2 0, .ptr 3 0, .grp Li9, .grp Li9, .grp Li9, .grp [.int .i64, .int .i64], .sc (.int .i64), .ptr 4 0], .cells [.sl 7, .sc (.int .i64), .sc (.int .i64), .sc (.int .i64)], .cells [.sl 8, .sc (.int .i64), .sc (.int .i64), .sc (.int .i64)], .cells [.fn 72 [(5, 0), (6, 0)], .sc (.int .i64)], .cells [.sl 9], .cells [.sc (.int .i64)], .rows 38 Li5, .rows 38 Li5, .ext 120 [.int .u32], .rows 38 Li5, .rows 38 Li5]
def c_n69 : FC := mkFCH 7 a_n69 b_n69 ra_n69 rb_n69 chain_place_upto
theorem t_n69 (N : Nat) : FCOK Tryz.prog N 41 c_n69 := eff_ok facts (ok_n68 N) (by kernel_rfl) (by kernel_rfl) (q_n69 N) (fun t => by kernel_rfl)
def o_n69 : List (Nat × FC) := (41, c_n69) :: o_n68
theorem ok_n69 (N : Nat) : OrcOK Tryz.prog o_n69 N := orc_cons (t_n69 N) (ok_n68 N)
def s_n70 (_ : Nat) : List (Nat × LC) := []
noncomputable def e_n70 (N : Nat) : Env := mkEnvX 0 [] Tryz.prog o_n69 (s_n70 N) N
theorem q_n70 (N : Nat) : LoopsFor (e_n70 N) Tryz.prog 97 0 := loops_mk (by kernel_rfl) (fun j hj => match j, hj with
  | _ + 0, h => absurd h (by omega)) (fun _ => rfl)
def c_n70 : FC := mkF [.sc (.int .i64)] [.sc (.bool)] ecn_is
theorem t_n70 (N : Nat) : FCOK Tryz.prog N 97 c_n70 := fun_ok facts (ok_n69 N) (by kernel_rfl) (by kernel_rfl) (q_n70 N) (fun t => by kernel_rfl)
def o_n70 : List (Nat × FC) := (97, c_n70) :: o_n69
theorem ok_n70 (N : Nat) : OrcOK Tryz.prog o_n70 N := orc_cons (t_n70 N) (ok_n69 N)
def s_n71 (_ : Nat) : List (Nat × LC) := []
noncomputable def e_n71 (N : Nat) : Env := mkEnvX 0 [] Tryz.prog o_n70 (s_n71 N) N
theorem q_n71 (N : Nat) : LoopsFor (e_n71 N) Tryz.prog 75 0 := loops_mk (by kernel_rfl) (fun j hj => match j, hj with
  | _ + 0, h => absurd h (by omega)) (fun _ => rfl)
def c_n71 : FC := mkF [.sc (.int .i64)] [.sc (.bool)] ecn_Low
theorem t_n71 (N : Nat) : FCOK Tryz.prog N 75 c_n71 := fun_ok facts (ok_n70 N) (by kernel_rfl) (by kernel_rfl) (q_n71 N) (fun t => by kernel_rfl)
def o_n71 : List (Nat × FC) := (75, c_n71) :: o_n70
theorem ok_n71 (N : Nat) : OrcOK Tryz.prog o_n71 N := orc_cons (t_n71 N) (ok_n70 N)
def p_n72_2 : List Pat := [.ptr 0 0, .any, .sl 1, .any, .any, .any, .any, .any, .any, .any, .any, .any, .any, .any, .any, .any, .any, .any, .any, .any, .sc (.int .i64), .sc (.int .i64), .any, .any, .any, .any, .any, .any, .any, .any, .any, .any, .any, .any, .any, .any, .any, .any, .any, .any, .any, .any, .any, .any, .any, .any, .any, .any, .any, .any, .any, .any, .any]
def h_n72_2 : List HPat := [.cells [.sl 2, .sc (.int .i64), .sc (.int .i64), .sc (.int .i64)], .rows 38 Li5, .rows 38 Li5]
def x_n72_2 : List XP := [⟨.exit 0, [.ptr 0 0, .any, .sl 1, .any, .any, .any, .any, .any, .any, .any, .any, .any, .any, .any, .any, .any, .any, .any, .any, .any, .any, .any, .any, .any, .any, .any, .any, .any, .any, .any, .any, .any, .any, .any, .any, .any, .any, .any, .any, .any, .any, .any, .any, .any, .any, .any, .any, .any, .any, .any, .any, .any, .any], [.cells [.sl 2, .sc (.int .i64), .sc (.int .i64), .sc (.int .i64)], .rows 38 Li5, .rows 38 Li5]⟩]
def lc_n72_2 (N : Nat) : LC := mkLC 1 p_n72_2 h_n72_2 x_n72_2 (ring_Ring_api_Packet_grow_L2 N)
def s_n72 (N : Nat) : List (Nat × LC) := [(2, lc_n72_2 N)]
noncomputable def e_n72 (N : Nat) : Env := mkEnvX 1 [] Tryz.prog o_n71 (s_n72 N) N
theorem k_n72_2 (N : Nat) : LCOK (e_n72 N) 12 (loopAt Tryz.prog 76 0) (lc_n72_2 N) := mkLC_ok rfl (by kernel_rfl) (by kernel_rfl) (fun F x => by kernel_rfl)
theorem q_n72 (N : Nat) : LoopsFor (e_n72 N) Tryz.prog 76 1 := loops_mk (by kernel_rfl) (fun j hj => match j, hj with
  | 0, _ => .inl ⟨lc_n72_2 N, by kernel_rfl, k_n72_2 N⟩
  | _ + 1, h => absurd h (by omega)) (fun _ => rfl)
def a_n72 : List Pat := [.ptr 0 0]
def b_n72 : List HPat := [.cells [.sl 1, .sc (.int .i64), .sc (.int .i64), .sc (.int .i64)], .rows 38 Li5]
def ra_n72 : List Pat := []
def rb_n72 : List HPat := [.cells [.sl 1, .sc (.int .i64), .sc (.int .i64), .sc (.int .i64)], .rows 38 Li5]
def c_n72 : FC := mkFCH 1 a_n72 b_n72 ra_n72 rb_n72 ring_Ring_api_Packet_grow
theorem t_n72 (N : Nat) : FCOK Tryz.prog N 76 c_n72 := eff_ok facts (ok_n71 N) (by kernel_rfl) (by kernel_rfl) (q_n72 N) (fun t => by kernel_rfl)
def o_n72 : List (Nat × FC) := (76, c_n72) :: o_n71
theorem ok_n72 (N : Nat) : OrcOK Tryz.prog o_n72 N := orc_cons (t_n72 N) (ok_n71 N)
def s_n73 (_ : Nat) : List (Nat × LC) := []
noncomputable def e_n73 (N : Nat) : Env := mkEnvX 1 [] Tryz.prog o_n72 (s_n73 N) N
theorem q_n73 (N : Nat) : LoopsFor (e_n73 N) Tryz.prog 60 0 := loops_mk (by kernel_rfl) (fun j hj => match j, hj with
  | _ + 0, h => absurd h (by omega)) (fun _ => rfl)
def a_n73 : List Pat := [.ptr 0 0, .agg Li5]
def b_n73 : List HPat := [.cells [.sl 1, .sc (.int .i64), .sc (.int .i64), .sc (.int .i64)], .rows 38 Li5]
def ra_n73 : List Pat := [.sc (.int .i64)]
def rb_n73 : List HPat := [.cells [.sl 1, .sc (.int .i64), .sc (.int .i64), .sc (.int .i64)], .rows 38 Li5]
def c_n73 : FC := mkFCH 1 a_n73 b_n73 ra_n73 rb_n73 ring_Ring_api_Packet_Push
theorem t_n73 (N : Nat) : FCOK Tryz.prog N 60 c_n73 := eff_ok facts (ok_n72 N) (by kernel_rfl) (by kernel_rfl) (q_n73 N) (fun t => by kernel_rfl)
def o_n73 : List (Nat × FC) := (60, c_n73) :: o_n72
theorem ok_n73 (N : Nat) : OrcOK Tryz.prog o_n73 N := orc_cons (t_n73 N) (ok_n72 N)
def s_n74 (_ : Nat) : List (Nat × LC) := []
noncomputable def e_n74 (N : Nat) : Env := mkEnvX 6 [] Tryz.prog o_n73 (s_n74 N) N
theorem q_n74 (N : Nat) : LoopsFor (e_n74 N) Tryz.prog 42 0 := loops_mk (by kernel_rfl) (fun j hj => match j, hj with
  | _ + 0, h => absurd h (by omega)) (fun _ => rfl)
def a_n74 : List Pat := [.ptr 0 0, .sc (.int .i64), .agg Li5]
def b_n74 : List HPat := [.cells [.grp Li8, .nilp, .ptr 1 0, .ptr 2 0, .grp Li9, .grp Li9, .grp Li9, .grp [.int .i64, .int .i64], .sc (.int .i64), .ptr 3 0], .cells [.sl 6, .sc (.int .i64), .sc (.int .i64), .sc (.int .i64)], .cells [.sl 7, .sc (.int .i64), .sc (.int .i64), .sc (.int .i64)], .cells [.fn 72 [(4, 0), (5, 0)], .sc (.int .i64)], .cells [.sl 8], .cells [.sc (.int .i64)], .rows 38 Li5, .rows 38 Li5, .ext 120 [.int .u32]]
def ra_n74 : List Pat := [.sc (.bool)]
def rb_n74 : List HPat := [.cells [.grp Li8, .nilp, .ptr 1 0, .ptr 2 0, .grp Li9, .grp Li9, .grp Li9, .grp [.int .i64, .int .i64], .sc (.int .i64), .ptr 3 0], .cells [.sl 6, .sc (.int .i64), .sc (.int .i64), .sc (.int .i64)], .cells [.sl 7, .sc (.int .i64), .sc (.int .i64), .sc (.int .i64)], .cells [.fn 72 [(4, 0), (5, 0)], .sc (.int .i64)], .cells [.sl 8], .cells [.sc (.int .i64)], .rows 38 Li5, .rows 38 Li5, .ext 120 [.int .u32]]
def c_n74 : FC := mkFCH 6 a_n74 b_n74 ra_n74 rb_n74 dual_Queue_Put
theorem t_n74 (N : Nat) : FCOK Tryz.prog N 42 c_n74 := eff_ok facts (ok_n73 N) (by kernel_rfl) (by kernel_rfl) (q_n74 N) (fun t => by kernel_rfl)
def o_n74 : List (Nat × FC) := (42, c_n74) :: o_n73
theorem ok_n74 (N : Nat) : OrcOK Tryz.prog o_n74 N := orc_cons (t_n74 N) (ok_n73 N)
def s_n75 (_ : Nat) : List (Nat × LC) := []
noncomputable def e_n75 (N : Nat) : Env := mkEnvX 7 [] Tryz.prog o_n74 (s_n75 N) N
theorem q_n75 (N : Nat) : LoopsFor (e_n75 N) Tryz.prog 21 0 := loops_mk (by kernel_rfl) (fun j hj => match j, hj with
  | _ + 0, h => absurd h (by omega)) (fun _ => rfl)
def a_n75 : List Pat := [.ptr 0 0, .agg Li5]
def b_n75 : List HPat := [.cells [.grp Li10, .any, .ptr 1 0, .grp [.int .i64, .int .i64, .int .i64], .sc (.int .i64), .sl 10, .sl 11], .cells [.grp Li8, .nilp, .ptr 2 0, .ptr 3 0, .grp Li9, .grp Li9, .grp Li9, .grp [.int .i64, .int .i64], .sc (.int .i64), .ptr 4 0], .cells [.sl 7, .sc (.int .i64), .sc (.int .i64), .sc (.int .i64)], .cells [.sl 8, .sc (.int .i64), .sc (.int .i64), .sc (.int .i64)], .cells [.fn 72 [(5, 0), (6, 0)], .sc (.int .i64)], .cells [.sl 9], .cells [.sc (.int .i64)], .rows 38 Li5, .rows 38 Li5, .ext 120 [.int .u32], .rows 38 Li5, .rows 38 Li5]
def ra_n75 : List Pat := []
def rb_n75 : List HPat := [.cells [.grp Li10, .any, .ptr 1 0, .grp [.int .i64, .int .i64, .int .i64], .sc (.int .i64), .sl 10, .sl 11], .cells [.grp Li8, .nilp, .ptr 2 0, .ptr 3 0, .grp Li9, .grp Li9, .grp Li9, .grp [.int .i64, .int .i64], .sc (.int .i64), .ptr 4 0], .cells [.sl 7, .sc (.int .i64), .sc (.int .i64), .sc (.int .i64)], .cells [.sl 8, .sc (.int .i64), .sc (.int .i64), .sc (.int .i64)], .cells [.fn 72 [(5, 0), (6, 0)], .sc (.int .i64)], .cells [.sl 9], .cells [.sc (.int .i64)], .rows 38 Li5, .rows 38 Li5, .ext 120 [.int .u32], .rows 38 Li5, .rows 38 Li5]
def c_n75 : FC := mkFCH 7 a_n75 b_n75 ra_n75 rb_n75 chain_place_put
theorem t_n75 (N : Nat) : FCOK Tryz.prog N 21 c_n75 := eff_ok facts (ok_n74 N) (by kernel_rfl) (by kernel_rfl) (q_n75 N) (fun t => by kernel_rfl)
def o_n75 : List (Nat × FC) := (21, c_n75) :: o_n74
theorem ok_n75 (N : Nat) : OrcOK Tryz.prog o_n75 N := orc_cons (t_n75 N) (ok_n74 N)
def p_n76_0 : List Pat := [.ptr 0 0, .any, .any, .any, .any, .any, .any, .any, .any, .any, .any, .any, .any, .any, .any, .any, .any, .any, .any, .any, .any]
def h_n76_0 : List HPat := [.cells [.grp Li10, .any, .ptr 1 0, .grp [.int .i64, .int .i64, .int .i64], .sc (.int .i64), .sl 7, .sl 8], .cells [.grp Li8, .nilp, .ptr 2 0, .ptr 3 0, .grp Li9, .grp Li9, .grp Li9, .grp [.int .i64, .int .i64], .sc (.int .i64), .ptr 4 0], .cells [.sl 9, .sc (.int .i64), .sc (.int .i64), .sc (.int .i64)], .cells [.sl 10, .sc (.int .i64), .sc (.int .i64), .sc (.int .i64)], .cells [.fn 72 [(5, 0), (6, 0)], .sc (.int .i64)], .cells [.sl 11], .cells [.sc (.int .i64)], .rows 38 Li5, .rows 38 Li5, .rows 38 Li5, .rows 38 Li5, .ext 120 [.int .u32]]
def x_n76_0 : List XP := [⟨.exit 0, [.any, .any, .any, .any, .any, .any, .any, .any, .any, .any, .any, .any, .any, .any, .any, .any, .any, .any, .any, .any, .any], [.cells [.grp Li10, .any, .ptr 1 0, .grp [.int .i64, .int .i64, .int .i64], .sc (.int .i64), .sl 7, .sl 8], .cells [.grp Li8, .nilp, .ptr 2 0, .ptr 3 0, .grp Li9, .grp Li9, .grp Li9, .grp [.int .i64, .int .i64], .sc (.int .i64), .ptr 4 0], .cells [.sl 9, .sc (.int .i64), .sc (.int .i64), .sc (.int .i64)], .cells [.sl 10, .sc (.int .i64), .sc (.int .i64), .sc (.int .i64)], .cells [.fn 72 [(5, 0), (6, 0)], .sc (.int .i64)], .cells [.sl 11], .cells [.sc (.int .i64)], .rows 38 Li5, .rows 38 Li5, .rows 38 Li5, .rows 38 Li5, .ext 120 [.int .u32]]⟩]
def lc_n76_0 (N : Nat) : LC := mkLC 7 p_n76_0 h_n76_0 x_n76_0 (chain_place_rest_L0 N)
def s_n76 (N : Nat) : List (Nat × LC) := [(0, lc_n76_0 N)]
noncomputable def e_n76 (N : Nat) : Env := mkEnvX 7 [] Tryz.prog o_n75 (s_n76 N) N
theorem k_n76_0 (N : Nat) : LCOK (e_n76 N) 12 (loopAt Tryz.prog 22 0) (lc_n76_0 N) := mkLC_ok rfl (by kernel_rfl) (by kernel_rfl) (fun F x => by kernel_rfl)
theorem q_n76 (N : Nat) : LoopsFor (e_n76 N) Tryz.prog 22 1 := loops_mk (by kernel_rfl) (fun j hj => match j, hj with
  | 0, _ => .inl ⟨lc_n76_0 N, by kernel_rfl, k_n76_0 N⟩
  | _ + 1, h => absurd h (by omega)) (fun _ => rfl)
def a_n76 : List Pat := [.ptr 0 0]
def b_n76 : List HPat := [.cells [.grp Li10, .any, .ptr 1 0, .grp [.int .i64, .int .i64, .int .i64], .sc (.int .i64), .sl 10, .sl 11], .cells [.grp Li8, .nilp, .ptr 2 0, .ptr 3 0, .grp Li9, .grp Li9, .grp Li9, .grp [.int .i64, .int .i64], .sc (.int .i64), .ptr 4 0], .cells [.sl 7, .sc (.int .i64), .sc (.int .i64), .sc (.int .i64)], .cells [.sl 8, .sc (.int .i64), .sc (.int .i64), .sc (.int .i64)], .cells [.fn 72 [(5, 0), (6, 0)], .sc (.int .i64)], .cells [.sl 9], .cells [.sc (.int .i64)], .rows 38 Li5, .rows 38 Li5, .ext 120 [.int .u32], .rows 38 Li5, .rows 38 Li5]
def ra_n76 : List Pat := []
def rb_n76 : List HPat := [.cells [.grp Li10, .any, .ptr 1 0, .grp [.int .i64, .int .i64, .int .i64], .sc (.int .i64), .sl 10, .sl 11], .cells [.grp Li8, .nilp, .ptr 2 0, .ptr 3 0, .grp Li9, .grp Li9, .grp Li9, .grp [.int .i64, .int .i64], .sc (.int .i64), .ptr 4 0], .cells [.sl 7, .sc (.int .i64), .sc (.int .i64), .sc (.int .i64)], .cells [.sl 8, .sc (.int .i64), .sc (.int .i64), .sc (.int .i64)], .cells [.fn 72 [(5, 0), (6, 0)], .sc (.int .i64)], .cells [.sl 9], .cells [.sc (.int .i64)], .rows 38 Li5, .rows 38 Li5, .ext 120 [.int .u32], .rows 38 Li5, .rows 38 Li5]
def c_n76 : FC := mkFCH 7 a_n76 b_n76 ra_n76 rb_n76 chain_place_rest
theorem t_n76 (N : Nat) : FCOK Tryz.prog N 22 c_n76 := eff_ok facts (ok_n75 N) (by kernel_rfl) (by kernel_rfl) (q_n76 N) (fun t => by kernel_rfl)
def o_n76 : List (Nat × FC) := (22, c_n76) :: o_n75
theorem ok_n76 (N : Nat) : OrcOK Tryz.prog o_n76 N := orc_cons (t_n76 N) (ok_n75 N)
def p_n77_3 : List Pat := [.any, .any, .any, .any, .any, .any, .ptr 0 0, .any, .any, .any, .any, .any, .sl 1, .sc (.int .i64), .sc (.int .i64), .any, .any, .any, .any, .any, .any, .any, .any, .any, .any, .any, .any, .any, .any, .any, .any, .any]
def h_n77_3 : List HPat := [.cells [.grp Li10, .any, .ptr 2 0, .grp [.int .i64, .int .i64, .int .i64], .sc (.int .i64), .sl 3, .sl 4], .rows 38 Li5, .cells [.grp Li8, .nilp, .ptr 5 0, .ptr 6 0, .grp Li9, .grp Li9, .grp Li9, .grp [.int .i64, .int .i64], .sc (.int .i64), .ptr 7 0], .rows 38 Li5, .rows 38 Li5, .cells [.sl 8, .sc (.int .i64), .sc (.int .i64), .sc (.int .i64)], .cells [.sl 9, .sc (.int .i64), .sc (.int .i64), .sc (.int .i64)], .cells [.fn 72 [(10, 0), (11, 0)], .sc (.int .i64)], .rows 38 Li5, .rows 38 Li5, .cells [.sl 12], .cells [.sc (.int .i64)], .ext 120 [.int .u32]]
def x_n77_3 : List XP := [⟨.exit 0, [.any, .any, .any, .any, .any, .any, .ptr 0 0, .any, .any, .any, .any, .any, .any, .any, .any, .any, .any, .any, .any, .any, .any, .any, .any, .any, .any, .any, .any, .any, .any, .any, .any, .any], [.cells [.grp Li10, .any, .ptr 1 0, .grp [.int .i64, .int .i64, .int .i64], .sc (.int .i64), .sl 2, .sl 3], .cells [.grp Li8, .nilp, .ptr 4 0, .ptr 5 0, .grp Li9, .grp Li9, .grp Li9, .grp [.int .i64, .int .i64], .sc (.int .i64), .ptr 6 0], .rows 38 Li5, .rows 38 Li5, .cells [.sl 7, .sc (.int .i64), .sc (.int .i64), .sc (.int .i64)], .cells [.sl 8, .sc (.int .i64), .sc (.int .i64), .sc (.int .i64)], .cells [.fn 72 [(9, 0), (10, 0)], .sc (.int .i64)], .rows 38 Li5, .rows 38 Li5, .cells [.sl 11], .cells [.sc (.int .i64)], .ext 120 [.int .u32]]⟩]
def lc_n77_3 (N : Nat) : LC := mkLC 0 p_n77_3 h_n77_3 x_n77_3 (chain_Pass_L3 N)
def s_n77 (N : Nat) : List (Nat × LC) := [(3, lc_n77_3 N)]
noncomputable def e_n77 (N : Nat) : Env := mkEnvX 0 [] Tryz.prog o_n76 (s_n77 N) N
theorem k_n77_3 (N : Nat) : LCOK (e_n77 N) 12 (loopAt Tryz.prog 7 0) (lc_n77_3 N) := mkLC_ok rfl (by kernel_rfl) (by kernel_rfl) (fun F x => by kernel_rfl)
theorem q_n77 (N : Nat) : LoopsFor (e_n77 N) Tryz.prog 7 1 := loops_mk (by kernel_rfl) (fun j hj => match j, hj with
  | 0, _ => .inl ⟨lc_n77_3 N, by kernel_rfl, k_n77_3 N⟩
  | _ + 1, h => absurd h (by omega)) (fun _ => rfl)
def a_n77 : List Pat := [.aggp [.grp Li10, .sl 0], .sl 1]
def b_n77 : List HPat := [.ext 120 [.int .u32], .ext 38 Li5]
def ra_n77 : List Pat := [.sl 0, .sl 1]
def rb_n77 : List HPat := [.ext 38 Li5, .ext 38 Li5]
def c_n77 : FC := mkFCH 0 a_n77 b_n77 ra_n77 rb_n77 chain_Pass
theorem t_n77 (N : Nat) : FCOK Tryz.prog N 7 c_n77 := eff_ok facts (ok_n76 N) (by kernel_rfl) (by kernel_rfl) (q_n77 N) (fun t => by kernel_rfl)
def o_n77 : List (Nat × FC) := (7, c_n77) :: o_n76
theorem ok_n77 (N : Nat) : OrcOK Tryz.prog o_n77 N := orc_cons (t_n77 N) (ok_n76 N)
def s_n78 (_ : Nat) : List (Nat × LC) := []
noncomputable def e_n78 (N : Nat) : Env := mkEnvX 0 [] Tryz.prog o_n77 (s_n78 N) N
theorem q_n78 (N : Nat) : LoopsFor (e_n78 N) Tryz.prog 30 0 := loops_mk (by kernel_rfl) (fun j hj => match j, hj with
  | _ + 0, h => absurd h (by omega)) (fun _ => rfl)
def c_n78 : FC := mkF [.sc (.int .i64), .sc (.int .i64), .sc (.int .i64)] [.sc (.int .i64)] leatref50_keep
theorem t_n78 (N : Nat) : FCOK Tryz.prog N 30 c_n78 := fun_ok facts (ok_n77 N) (by kernel_rfl) (by kernel_rfl) (q_n78 N) (fun t => by kernel_rfl)
def o_n78 : List (Nat × FC) := (30, c_n78) :: o_n77
theorem ok_n78 (N : Nat) : OrcOK Tryz.prog o_n78 N := orc_cons (t_n78 N) (ok_n77 N)
def s_n79 (_ : Nat) : List (Nat × LC) := []
noncomputable def e_n79 (N : Nat) : Env := mkEnvX 0 [] Tryz.prog o_n78 (s_n79 N) N
theorem q_n79 (N : Nat) : LoopsFor (e_n79 N) Tryz.prog 48 0 := loops_mk (by kernel_rfl) (fun j hj => match j, hj with
  | _ + 0, h => absurd h (by omega)) (fun _ => rfl)
def c_n79 : FC := mkF [.sc (.int .i64), .sc (.int .i64), .sc (.int .i64)] [.sc (.int .i64)] leatref36_keep
theorem t_n79 (N : Nat) : FCOK Tryz.prog N 48 c_n79 := fun_ok facts (ok_n78 N) (by kernel_rfl) (by kernel_rfl) (q_n79 N) (fun t => by kernel_rfl)
def o_n79 : List (Nat × FC) := (48, c_n79) :: o_n78
theorem ok_n79 (N : Nat) : OrcOK Tryz.prog o_n79 N := orc_cons (t_n79 N) (ok_n78 N)
def s_n80 (_ : Nat) : List (Nat × LC) := []
noncomputable def e_n80 (N : Nat) : Env := mkEnvX 0 [] Tryz.prog o_n79 (s_n80 N) N
theorem q_n80 (N : Nat) : LoopsFor (e_n80 N) Tryz.prog 31 0 := loops_mk (by kernel_rfl) (fun j hj => match j, hj with
  | _ + 0, h => absurd h (by omega)) (fun _ => rfl)
def c_n80 : FC := mkF [.agg Li8] [.agg Li8] leatref36_Limit
theorem t_n80 (N : Nat) : FCOK Tryz.prog N 31 c_n80 := fun_ok facts (ok_n79 N) (by kernel_rfl) (by kernel_rfl) (q_n80 N) (fun t => by kernel_rfl)
def o_n80 : List (Nat × FC) := (31, c_n80) :: o_n79
theorem ok_n80 (N : Nat) : OrcOK Tryz.prog o_n80 N := orc_cons (t_n80 N) (ok_n79 N)
def s_n81 (_ : Nat) : List (Nat × LC) := []
noncomputable def e_n81 (N : Nat) : Env := mkEnvX 0 [] Tryz.prog o_n80 (s_n81 N) N
theorem q_n81 (N : Nat) : LoopsFor (e_n81 N) Tryz.prog 10 0 := loops_mk (by kernel_rfl) (fun j hj => match j, hj with
  | _ + 0, h => absurd h (by omega)) (fun _ => rfl)
def a_n81 : List Pat := [.aggp [.grp Li10, .sl 0]]
def b_n81 : List HPat := [.ext 120 [.int .u32]]
def ra_n81 : List Pat := [.aggp [.grp Li10, .sl 0]]
def rb_n81 : List HPat := [.ext 120 [.int .u32]]
def c_n81 : FC := mkFCH 0 a_n81 b_n81 ra_n81 rb_n81 leatref50_Limit
theorem t_n81 (N : Nat) : FCOK Tryz.prog N 10 c_n81 := eff_ok facts (ok_n80 N) (by kernel_rfl) (by kernel_rfl) (q_n81 N) (fun t => by kernel_rfl)
def o_n81 : List (Nat × FC) := (10, c_n81) :: o_n80
theorem ok_n81 (N : Nat) : OrcOK Tryz.prog o_n81 N := orc_cons (t_n81 N) (ok_n80 N)
def s_n82 (_ : Nat) : List (Nat × LC) := []
noncomputable def e_n82 (N : Nat) : Env := mkEnvX 0 [] Tryz.prog o_n81 (s_n82 N) N
theorem q_n82 (N : Nat) : LoopsFor (e_n82 N) Tryz.prog 14 0 := loops_mk (by kernel_rfl) (fun j hj => match j, hj with
  | _ + 0, h => absurd h (by omega)) (fun _ => rfl)
def c_n82 : FC := mkF [.agg Li5] [.agg Li5] leatref50_Clean
theorem t_n82 (N : Nat) : FCOK Tryz.prog N 14 c_n82 := fun_ok facts (ok_n81 N) (by kernel_rfl) (by kernel_rfl) (q_n82 N) (fun t => by kernel_rfl)
def o_n82 : List (Nat × FC) := (14, c_n82) :: o_n81
theorem ok_n82 (N : Nat) : OrcOK Tryz.prog o_n82 N := orc_cons (t_n82 N) (ok_n81 N)
def s_n83 (_ : Nat) : List (Nat × LC) := []
noncomputable def e_n83 (N : Nat) : Env := mkEnvX 0 [] Tryz.prog o_n82 (s_n83 N) N
theorem q_n83 (N : Nat) : LoopsFor (e_n83 N) Tryz.prog 52 0 := loops_mk (by kernel_rfl) (fun j hj => match j, hj with
  | _ + 0, h => absurd h (by omega)) (fun _ => rfl)
def c_n83 : FC := mkF [.sc (.int .i64), .sc (.int .i64), .sc (.int .i64)] [.sc (.int .i64)] leatref37_keep
theorem t_n83 (N : Nat) : FCOK Tryz.prog N 52 c_n83 := fun_ok facts (ok_n82 N) (by kernel_rfl) (by kernel_rfl) (q_n83 N) (fun t => by kernel_rfl)
def o_n83 : List (Nat × FC) := (52, c_n83) :: o_n82
theorem ok_n83 (N : Nat) : OrcOK Tryz.prog o_n83 N := orc_cons (t_n83 N) (ok_n82 N)
def s_n84 (_ : Nat) : List (Nat × LC) := []
noncomputable def e_n84 (N : Nat) : Env := mkEnvX 0 [] Tryz.prog o_n83 (s_n84 N) N
theorem q_n84 (N : Nat) : LoopsFor (e_n84 N) Tryz.prog 34 0 := loops_mk (by kernel_rfl) (fun j hj => match j, hj with
  | _ + 0, h => absurd h (by omega)) (fun _ => rfl)
def c_n84 : FC := mkF [.sc (.int .i64), .sc (.int .i64)] [.sc (.int .i64)] leatref37_Span
theorem t_n84 (N : Nat) : FCOK Tryz.prog N 34 c_n84 := fun_ok facts (ok_n83 N) (by kernel_rfl) (by kernel_rfl) (q_n84 N) (fun t => by kernel_rfl)
def o_n84 : List (Nat × FC) := (34, c_n84) :: o_n83
theorem ok_n84 (N : Nat) : OrcOK Tryz.prog o_n84 N := orc_cons (t_n84 N) (ok_n83 N)
def p_n85_1 : List Pat := [.any, .sc (.int .i64), .ptr 0 0, .any, .any, .any, .any, .any, .sl 2, .sc (.int .i64), .sc (.int .i64), .any, .any, .any, .any, .any, .any, .any, .any, .any, .any, .any, .any, .any, .any, .any, .any, .any, .any, .any, .any, .any, .any, .any]
def h_n85_1 : List HPat := [.cells [.sl 1], .rows 42 Li7, .ext 38 Li5]
def x_n85_1 : List XP := [⟨.exit 0, [.any, .any, .any, .any, .any, .any, .any, .any, .any, .any, .any, .any, .any, .any, .any, .any, .any, .any, .any, .any, .any, .any, .any, .any, .any, .any, .any, .any, .any, .any, .any, .any, .any, .any], [.cells [.sl 1], .rows 42 Li7]⟩]
def lc_n85_1 (N : Nat) : LC := mkLC 2 p_n85_1 h_n85_1 x_n85_1 (chain_Run_1_L1 N)
def s_n85 (N : Nat) : List (Nat × LC) := [(1, lc_n85_1 N)]
noncomputable def e_n85 (N : Nat) : Env := mkEnvX 2 [] Tryz.prog o_n84 (s_n85 N) N
theorem k_n85_1 (N : Nat) : LCOK (e_n85 N) 12 (loopAt Tryz.prog 32 0) (lc_n85_1 N) := mkLC_ok rfl (by kernel_rfl) (by kernel_rfl) (fun F x => by kernel_rfl)
theorem q_n85 (N : Nat) : LoopsFor (e_n85 N) Tryz.prog 32 1 := loops_mk (by kernel_rfl) (fun j hj => match j, hj with
  | 0, _ => .inl ⟨lc_n85_1 N, by kernel_rfl, k_n85_1 N⟩
  | _ + 1, h => absurd h (by omega)) (fun _ => rfl)
def a_n85 : List Pat := [.sl 2, .sc (.int .i64), .ptr 0 0]
def b_n85 : List HPat := [.cells [.sl 1], .rows 42 Li7, .ext 38 Li5]
def ra_n85 : List Pat := []
def rb_n85 : List HPat := [.cells [.sl 1], .rows 42 Li7]
def c_n85 : FC := mkFCH 2 a_n85 b_n85 ra_n85 rb_n85 chain_Run_1
theorem t_n85 (N : Nat) : FCOK Tryz.prog N 32 c_n85 := eff_ok facts (ok_n84 N) (by kernel_rfl) (by kernel_rfl) (q_n85 N) (fun t => by kernel_rfl)
def o_n85 : List (Nat × FC) := (32, c_n85) :: o_n84
theorem ok_n85 (N : Nat) : OrcOK Tryz.prog o_n85 N := orc_cons (t_n85 N) (ok_n84 N)
def p_n86_4 : List Pat := [.sl 0, .any, .any, .any, .any, .ptr 1 0, .sl 2, .any, .any, .any, .any, .any, .any, .any, .any, .any, .any, .any, .any, .any, .sl 3, .sc (.int .i64), .sc (.int .i64), .any, .any, .any, .any, .any, .any, .any, .any, .any, .any, .any, .any, .any, .any, .any, .any, .any, .any, .any, .any, .any, .any, .any, .any, .any, .any, .any, .any, .any, .any, .any, .any, .any, .any, .any, .any, .any, .any, .any, .any, .any, .any, .any, .any, .any, .any, .any, .any, .any, .any, .any, .any, .any, .any, .any, .any, .any, .any]
def h_n86_4 : List HPat := [.mixe 26 120 Li10 [.int .u32], .cells [.sl 4], .rows 38 Li5, .ext 38 Li5, .rows 42 Li7]
def x_n86_4 : List XP := [⟨.exit 0, [.sl 0, .any, .any, .any, .any, .ptr 1 0, .sl 2, .any, .any, .any, .any, .any, .any, .any, .any, .any, .any, .any, .any, .any, .any, .any, .any, .any, .any, .any, .any, .any, .any, .any, .any, .any, .any, .any, .any, .any, .any, .any, .any, .any, .any, .any, .any, .any, .any, .any, .any, .any, .any, .any, .any, .any, .any, .any, .any, .any, .any, .any, .any, .any, .any, .any, .any, .any, .any, .any, .any, .any, .any, .any, .any, .any, .any, .any, .any, .any, .any, .any, .any, .any, .any], [.mixe 26 120 Li10 [.int .u32], .cells [.sl 3], .rows 38 Li5, .rows 42 Li7]⟩]
def lc_n86_4 (N : Nat) : LC := mkLC 0 p_n86_4 h_n86_4 x_n86_4 (chain_Run_L4 N)
def p_n86_13 : List Pat := [.any, .any, .any, .any, .any, .ptr 0 0, .sl 1, .any, .any, .fn 32 [(0, 0)], .any, .any, .any, .any, .any, .any, .any, .any, .any, .any, .any, .any, .any, .any, .any, .any, .any, .any, .any, .any, .any, .any, .any, .any, .any, .any, .any, .any, .any, .any, .any, .any, .any, .any, .any, .any, .any, .any, .any, .any, .any, .any, .any, .any, .any, .any, .any, .sl 2, .sc (.int .i64), .sc (.int .i64), .any, .any, .any, .any, .any, .any, .any, .any, .any, .any, .any, .any, .any, .any, .any, .any, .any, .any, .any, .any, .any]
def h_n86_13 : List HPat := [.cells [.sl 3], .ext 38 Li5, .mixe 26 120 Li10 [.int .u32], .rows 42 Li7]
def x_n86_13 : List XP := [⟨.exit 2, [.any, .any, .any, .any, .any, .ptr 0 0, .any, .any, .any, .any, .any, .any, .any, .any, .any, .any, .any, .any, .any, .any, .any, .any, .any, .any, .any, .any, .any, .any, .any, .any, .any, .any, .any, .any, .any, .any, .any, .any, .any, .any, .any, .any, .any, .any, .any, .any, .any, .any, .any, .any, .any, .any, .any, .any, .any, .any, .any, .any, .any, .any, .any, .any, .any, .any, .any, .any, .any, .any, .any, .any, .any, .any, .any, .any, .any, .any, .any, .any, .any, .any, .any], [.cells [.sl 1], .rows 42 Li7]⟩]
def lc_n86_13 (N : Nat) : LC := mkLC 0 p_n86_13 h_n86_13 x_n86_13 (chain_Run_L13 N)
def s_n86 (N : Nat) : List (Nat × LC) := [(4, lc_n86_4 N), (13, lc_n86_13 N)]
noncomputable def e_n86 (N : Nat) : Env := mkEnvX 0 [] Tryz.prog o_n85 (s_n86 N) N
theorem k_n86_4 (N : Nat) : LCOK (e_n86 N) 12 (loopAt Tryz.prog 13 0) (lc_n86_4 N) := mkLC_ok rfl (by kernel_rfl) (by kernel_rfl) (fun F x => by kernel_rfl)
theorem k_n86_13 (N : Nat) : LCOK (e_n86 N) 12 (loopAt Tryz.prog 13 1) (lc_n86_13 N) := mkLC_ok rfl (by kernel_rfl) (by kernel_rfl) (fun F x => by kernel_rfl)
theorem q_n86 (N : Nat) : LoopsFor (e_n86 N) Tryz.prog 13 2 := loops_mk (by kernel_rfl) (fun j hj => match j, hj with
  | 0, _ => .inl ⟨lc_n86_4 N, by kernel_rfl, k_n86_4 N⟩
  | 1, _ => .inl ⟨lc_n86_13 N, by kernel_rfl, k_n86_13 N⟩
  | _ + 2, h => absurd h (by omega)) (fun _ => rfl)
def c_n86 : FC := mkF [.mix 26 120 Li10 [.int .u32], .row 38 Li5] [.row 42 Li7] chain_Run
theorem t_n86 (N : Nat) : FCOK Tryz.prog N 13 c_n86 := fun_ok facts (ok_n85 N) (by kernel_rfl) (by kernel_rfl) (q_n86 N) (fun t => by kernel_rfl)
def o_n86 : List (Nat × FC) := (13, c_n86) :: o_n85
theorem ok_n86 (N : Nat) : OrcOK Tryz.prog o_n86 N := orc_cons (t_n86 N) (ok_n85 N)
def s_leatlaw50_works (_ : Nat) : List (Nat × LC) := []
noncomputable def e_leatlaw50_works (N : Nat) : Env := mkEnvX 0 [] Tryz.prog o_n86 (s_leatlaw50_works N) N
theorem q_leatlaw50_works (N : Nat) : LoopsFor (e_leatlaw50_works N) Tryz.prog 12 0 := loops_mk (by kernel_rfl) (fun j hj => match j, hj with
  | _ + 0, h => absurd h (by omega)) (fun _ => rfl)
def c_leatlaw50_works : FC := mkF [] [.sc (.bool)] leatlaw50_works
theorem t_leatlaw50_works (N : Nat) : FCOK Tryz.prog N 12 c_leatlaw50_works := fun_ok facts (ok_n86 N) (by kernel_rfl) (by kernel_rfl) (q_leatlaw50_works N) (fun t => by kernel_rfl)
def o_leatlaw50_works : List (Nat × FC) := (12, c_leatlaw50_works) :: o_n86
theorem ok_leatlaw50_works (N : Nat) : OrcOK Tryz.prog o_leatlaw50_works N := orc_cons (t_leatlaw50_works N) (ok_n86 N)
def p_n87_3 : List Pat := [.sl 0, .sc (.int .i64), .any, .any, .any, .sc (.int .i64), .sc (.int .i64), .any, .any, .any, .any, .any, .any, .any, .any, .any, .any, .any, .any, .any, .any, .any, .any, .any, .any, .any, .any, .any, .any, .any, .any, .any, .any]
def h_n87_3 : List HPat := [.mixe 26 120 Li10 [.int .u32]]
def x_n87_3 : List XP := [⟨.exit 0, [.any, .any, .any, .any, .any, .sc (.int .i64), .any, .any, .any, .any, .any, .any, .any, .any, .any, .any, .any, .any, .any, .any, .any, .any, .any, .any, .any, .any, .any, .any, .any, .any, .any, .any, .any], []⟩]
def lc_n87_3 (N : Nat) : LC := mkLC 0 p_n87_3 h_n87_3 x_n87_3 (leatref50_Least_L3 N)
def s_n87 (N : Nat) : List (Nat × LC) := [(3, lc_n87_3 N)]
noncomputable def e_n87 (N : Nat) : Env := mkEnvX 0 [] Tryz.prog o_leatlaw50_works (s_n87 N) N
theorem k_n87_3 (N : Nat) : LCOK (e_n87 N) 12 (loopAt Tryz.prog 16 0) (lc_n87_3 N) := mkLC_ok rfl (by kernel_rfl) (by kernel_rfl) (fun F x => by kernel_rfl)
theorem q_n87 (N : Nat) : LoopsFor (e_n87 N) Tryz.prog 16 1 := loops_mk (by kernel_rfl) (fun j hj => match j, hj with
  | 0, _ => .inl ⟨lc_n87_3 N, by kernel_rfl, k_n87_3 N⟩
  | _ + 1, h => absurd h (by omega)) (fun _ => rfl)
def c_n87 : FC := mkF [.mix 26 120 Li10 [.int .u32], .sc (.int .i64)] [.sc (.int .i64)] leatref50_Least
theorem t_n87 (N : Nat) : FCOK Tryz.prog N 16 c_n87 := fun_ok facts (ok_leatlaw50_works N) (by kernel_rfl) (by kernel_rfl) (q_n87 N) (fun t => by kernel_rfl)
def o_n87 : List (Nat × FC) := (16, c_n87) :: o_leatlaw50_works
theorem ok_n87 (N : Nat) : OrcOK Tryz.prog o_n87 N := orc_cons (t_n87 N) (ok_leatlaw50_works N)
def s_n88 (_ : Nat) : List (Nat × LC) := []
noncomputable def e_n88 (N : Nat) : Env := mkEnvX 0 [] Tryz.prog o_n87 (s_n88 N) N
theorem q_n88 (N : Nat) : LoopsFor (e_n88 N) Tryz.prog 33 0 := loops_mk (by kernel_rfl) (fun j hj => match j, hj with
  | _ + 0, h => absurd h (by omega)) (fun _ => rfl)
def c_n88 : FC := mkF [.sc (.int .i64)] [.sc (.bool)] leatref09_Is
theorem t_n88 (N : Nat) : FCOK Tryz.prog N 33 c_n88 := fun_ok facts (ok_n87 N) (by kernel_rfl) (by kernel_rfl) (q_n88 N) (fun t => by kernel_rfl)
def o_n88 : List (Nat × FC) := (33, c_n88) :: o_n87
theorem ok_n88 (N : Nat) : OrcOK Tryz.prog o_n88 N := orc_cons (t_n88 N) (ok_n87 N)
def s_n89 (_ : Nat) : List (Nat × LC) := []
noncomputable def e_n89 (N : Nat) : Env := mkEnvX 0 [] Tryz.prog o_n88 (s_n89 N) N
theorem q_n89 (N : Nat) : LoopsFor (e_n89 N) Tryz.prog 15 0 := loops_mk (by kernel_rfl) (fun j hj => match j, hj with
  | _ + 0, h => absurd h (by omega)) (fun _ => rfl)
def c_n89 : FC := mkF [.sc (.int .i64), .sc (.int .i64)] [.sc (.bool)] leatref09_Legal
theorem t_n89 (N : Nat) : FCOK Tryz.prog N 15 c_n89 := fun_ok facts (ok_n88 N) (by kernel_rfl) (by kernel_rfl) (q_n89 N) (fun t => by kernel_rfl)
def o_n89 : List (Nat × FC) := (15, c_n89) :: o_n88
theorem ok_n89 (N : Nat) : OrcOK Tryz.prog o_n89 N := orc_cons (t_n89 N) (ok_n88 N)
def p_leatlaw50_ChainKeeps_5 : List Pat := [.sl 0, .any, .any, .any, .any, .sl 1, .sc (.int .i64), .any, .any, .any, .any, .any, .any, .any, .any, .any, .any, .any, .any, .any, .sl 2, .sc (.int .i64), .sc (.int .i64), .any, .any, .any, .any, .any, .any, .any, .any, .any, .any, .any, .any, .any, .any, .any, .any, .any, .any, .any, .any, .any, .any, .any, .any, .any, .any, .any, .any, .any, .any, .any, .any, .any, .any, .any, .any, .any, .any, .any, .any, .any, .any, .any, .any, .any, .any, .any, .any, .any, .any, .any, .any, .any, .any, .any, .any, .any, .any, .any, .any, .any, .any, .any, .any, .any, .any, .any, .any, .any, .any, .any, .any, .any, .any, .any, .any, .any, .any, .any, .any, .any, .any, .any, .any, .any, .any, .any, .any, .any, .any, .any, .any, .any, .any, .any, .any, .any, .any, .any, .any, .any, .any, .any, .any, .any, .any, .any, .any, .any, .any, .any, .any, .any, .any, .any, .any, .any, .any, .any, .any, .any, .any, .any, .any, .any]
def h_leatlaw50_ChainKeeps_5 : List HPat := [.mixe 26 120 Li10 [.int .u32], .rows 38 Li5, .ext 38 Li5]
def x_leatlaw50_ChainKeeps_5 : List XP := [⟨.exit 0, [.sl 0, .any, .any, .any, .any, .sl 1, .any, .any, .any, .any, .any, .any, .any, .any, .any, .any, .any, .any, .any, .any, .any, .any, .any, .any, .any, .any, .any, .any, .any, .any, .any, .any, .any, .any, .any, .any, .any, .any, .any, .any, .any, .any, .any, .any, .any, .any, .any, .any, .any, .any, .any, .any, .any, .any, .any, .any, .any, .any, .any, .any, .any, .any, .any, .any, .any, .any, .any, .any, .any, .any, .any, .any, .any, .any, .any, .any, .any, .any, .any, .any, .any, .any, .any, .any, .any, .any, .any, .any, .any, .any, .any, .any, .any, .any, .any, .any, .any, .any, .any, .any, .any, .any, .any, .any, .any, .any, .any, .any, .any, .any, .any, .any, .any, .any, .any, .any, .any, .any, .any, .any, .any, .any, .any, .any, .any, .any, .any, .any, .any, .any, .any, .any, .any, .any, .any, .any, .any, .any, .any, .any, .any, .any, .any, .any, .any, .any, .any, .any], [.mixe 26 120 Li10 [.int .u32], .rows 38 Li5]⟩]
def lc_leatlaw50_ChainKeeps_5 (N : Nat) : LC := mkLC 0 p_leatlaw50_ChainKeeps_5 h_leatlaw50_ChainKeeps_5 x_leatlaw50_ChainKeeps_5 (leatlaw50_ChainKeeps_L5 N)
def p_leatlaw50_ChainKeeps_18 : List Pat := [.sl 0, .any, .any, .any, .any, .sl 1, .any, .any, .any, .any, .sc (.int .i64), .any, .any, .any, .any, .any, .any, .any, .any, .any, .any, .any, .any, .any, .any, .any, .any, .any, .any, .any, .any, .any, .any, .any, .any, .any, .any, .any, .any, .any, .any, .any, .any, .any, .any, .any, .any, .any, .any, .any, .any, .any, .any, .sl 2, .sc (.int .i64), .sc (.int .i64), .any, .any, .any, .any, .any, .any, .any, .any, .any, .any, .any, .any, .any, .any, .any, .any, .any, .any, .any, .any, .any, .any, .any, .any, .any, .any, .any, .any, .any, .any, .any, .any, .any, .any, .any, .any, .any, .any, .any, .any, .any, .any, .any, .any, .any, .any, .any, .any, .any, .any, .any, .any, .any, .any, .any, .any, .any, .any, .any, .any, .any, .any, .any, .any, .any, .any, .any, .any, .any, .any, .any, .any, .any, .any, .any, .any, .any, .any, .any, .any, .any, .any, .any, .any, .any, .any, .any, .any, .any, .any, .any, .any]
def h_leatlaw50_ChainKeeps_18 : List HPat := [.mixe 26 120 Li10 [.int .u32], .rows 38 Li5, .rows 42 Li7]
def x_leatlaw50_ChainKeeps_18 : List XP := [⟨.ret, [.any, .any, .any, .any, .sc (.bool), .any, .any, .any, .any, .any, .any, .any, .any, .any, .any, .any, .any, .any, .any, .any, .any, .any, .any, .any, .any, .any, .any, .any, .any, .any, .any, .any, .any, .any, .any, .any, .any, .any, .any, .any, .any, .any, .any, .any, .any, .any, .any, .any, .any, .any, .any, .any, .any, .any, .any, .any, .any, .any, .any, .any, .any, .any, .any, .any, .any, .any, .any, .any, .any, .any, .any, .any, .any, .any, .any, .any, .any, .any, .any, .any, .any, .any, .any, .any, .any, .any, .any, .any, .any, .any, .any, .any, .any, .any, .any, .any, .any, .any, .any, .any, .any, .any, .any, .any, .any, .any, .any, .any, .any, .any, .any, .any, .any, .any, .any, .any, .any, .any, .any, .any, .any, .any, .any, .any, .any, .any, .any, .any, .any, .any, .any, .any, .any, .any, .any, .any, .any, .any, .any, .any, .any, .any, .any, .any, .any, .any, .any, .any], []⟩, ⟨.exit 2, [.any, .any, .any, .any, .any, .any, .any, .any, .any, .any, .any, .any, .any, .any, .any, .any, .any, .any, .any, .any, .any, .any, .any, .any, .any, .any, .any, .any, .any, .any, .any, .any, .any, .any, .any, .any, .any, .any, .any, .any, .any, .any, .any, .any, .any, .any, .any, .any, .any, .any, .any, .any, .any, .any, .any, .any, .any, .any, .any, .any, .any, .any, .any, .any, .any, .any, .any, .any, .any, .any, .any, .any, .any, .any, .any, .any, .any, .any, .any, .any, .any, .any, .any, .any, .any, .any, .any, .any, .any, .any, .any, .any, .any, .any, .any, .any, .any, .any, .any, .any, .any, .any, .any, .any, .any, .any, .any, .any, .any, .any, .any, .any, .any, .any, .any, .any, .any, .any, .any, .any, .any, .any, .any, .any, .any, .any, .any, .any, .any, .any, .any, .any, .any, .any, .any, .any, .any, .any, .any, .any, .any, .any, .any, .any, .any, .any, .any, .any], []⟩]
def lc_leatlaw50_ChainKeeps_18 (N : Nat) : LC := mkLC 0 p_leatlaw50_ChainKeeps_18 h_leatlaw50_ChainKeeps_18 x_leatlaw50_ChainKeeps_18 (leatlaw50_ChainKeeps_L18 N)
def s_leatlaw50_ChainKeeps (N : Nat) : List (Nat × LC) := [(5, lc_leatlaw50_ChainKeeps_5 N), (18, lc_leatlaw50_ChainKeeps_18 N)]
noncomputable def e_leatlaw50_ChainKeeps (N : Nat) : Env := mkEnvX 0 [] Tryz.prog o_n89 (s_leatlaw50_ChainKeeps N) N
theorem k_leatlaw50_ChainKeeps_5 (N : Nat) : LCOK (e_leatlaw50_ChainKeeps N) 12 (loopAt Tryz.prog 4 0) (lc_leatlaw50_ChainKeeps_5 N) := mkLC_ok rfl (by kernel_rfl) (by kernel_rfl) (fun F x => by kernel_rfl)
theorem k_leatlaw50_ChainKeeps_18 (N : Nat) : LCOK (e_leatlaw50_ChainKeeps N) 12 (loopAt Tryz.prog 4 1) (lc_leatlaw50_ChainKeeps_18 N) := mkLC_ok rfl (by kernel_rfl) (by kernel_rfl) (fun F x => by kernel_rfl)
theorem q_leatlaw50_ChainKeeps (N : Nat) : LoopsFor (e_leatlaw50_ChainKeeps N) Tryz.prog 4 2 := loops_mk (by kernel_rfl) (fun j hj => match j, hj with
  | 0, _ => .inl ⟨lc_leatlaw50_ChainKeeps_5 N, by kernel_rfl, k_leatlaw50_ChainKeeps_5 N⟩
  | 1, _ => .inl ⟨lc_leatlaw50_ChainKeeps_18 N, by kernel_rfl, k_leatlaw50_ChainKeeps_18 N⟩
  | _ + 2, h => absurd h (by omega)) (fun _ => rfl)
theorem okL_leatlaw50_ChainKeeps (N : Nat) : OrcOK Tryz.prog o_n89 N := ok_n89 N
theorem w_leatlaw50_ChainKeeps (N : Nat) (x : RT [.mix 26 120 Li10 [.int .u32], .row 38 Li5]) : uncR [.mix 26 120 Li10 [.int .u32], .row 38 Li5] (leatlaw50_ChainKeeps N) x = evFn (e_leatlaw50_ChainKeeps N) 13 4 (encA 0 [.mix 26 120 Li10 [.int .u32], .row 38 Li5] x).1 (encA 0 [.mix 26 120 Li10 [.int .u32], .row 38 Li5] x).2 (decR [.sc .bool]) := by kernel_rfl
end Go.Proofs.YtgjmfljogaanfaaGreat.W
