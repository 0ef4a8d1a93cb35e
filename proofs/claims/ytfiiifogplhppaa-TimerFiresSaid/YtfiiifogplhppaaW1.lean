/- The functions of the seat, as the evaluator tells them, each with its contract. Printed by genW.py. -/
import Derived.Test.YtfiiifogplhppaaEvP
import Derived.Test.YtfiiifogplhppaaRows
namespace Go.Proofs.Ytfiiifogplhppaa.W
open Go.Ev Go.RowKit
theorem facts : Facts Try.prog := ⟨by kernel_rfl, names_of (by kernel_rfl)⟩
def o0 : List (Nat × FC) := []
theorem ok0 (N : Nat) : OrcOK Try.prog o0 N := orc_nil
def f44 (N : Nat) (a0 : Int) (a1 : Int) (a2 : Int) : Option Int :=
  some (if (if a2 < a0 then a2 else a0) > a1 then (if a2 < a0 then a2 else a0) else a1)
def s44 (_ : Nat) : List (Nat × LC) := []
noncomputable def e44 (N : Nat) : Env := mkEnv Try.prog o0 (s44 N) N
theorem q44 (N : Nat) : LoopsFor (e44 N) Try.prog 44 0 := ⟨by kernel_rfl, fun j hj => match j, hj with
  | _ + 0, h => absurd h (by omega)⟩
def c44 : FC := mkF [.sc (.int .i64), .sc (.int .i64), .sc (.int .i64)] [.sc (.int .i64)] f44
theorem t44 (N : Nat) : FCOK Try.prog N 44 c44 := fun_ok facts (ok0 N) (by kernel_rfl) (by kernel_rfl) (q44 N) (fun t => by kernel_rfl)
def o44 : List (Nat × FC) := (44, c44) :: o0
theorem ok44 (N : Nat) : OrcOK Try.prog o44 N := orc_cons (t44 N) (ok0 N)
def f43 (N : Nat) (a0 : (Int × (Int × (Int × Int)))) : Option (Int × (Int × (Int × Int))) :=
  (f44 N a0.1 1 1125899906842624).bind fun r0 =>
  (f44 N a0.2.1 r0 1125899906842624).bind fun r1 =>
  some (r0, (r1, ((if (if 32 < a0.2.2.1 then 32 else a0.2.2.1) > 0 then (if 32 < a0.2.2.1 then 32 else a0.2.2.1) else 0), a0.2.2.2)))
def s43 (_ : Nat) : List (Nat × LC) := []
noncomputable def e43 (N : Nat) : Env := mkEnv Try.prog o44 (s43 N) N
theorem q43 (N : Nat) : LoopsFor (e43 N) Try.prog 43 0 := ⟨by kernel_rfl, fun j hj => match j, hj with
  | _ + 0, h => absurd h (by omega)⟩
def c43 : FC := mkF [.agg [.int .i64, .int .i64, .int .i64, .int .i64]] [.agg [.int .i64, .int .i64, .int .i64, .int .i64]] f43
theorem t43 (N : Nat) : FCOK Try.prog N 43 c43 := fun_ok facts (ok44 N) (by kernel_rfl) (by kernel_rfl) (q43 N) (fun t => by kernel_rfl)
def o43 : List (Nat × FC) := (43, c43) :: o44
theorem ok43 (N : Nat) : OrcOK Try.prog o43 N := orc_cons (t43 N) (ok44 N)
def f45 (N : Nat) (a0 : (Int × (Int × (Int × Int)))) : Option (Int × (Int × (Int × Int))) :=
  some ((if 1125899906842624 < (if 1 > a0.1 then 1 else a0.1) then 1125899906842624 else (if 1 > a0.1 then 1 else a0.1)), ((if 1125899906842624 < (if (if 1125899906842624 < (if 1 > a0.1 then 1 else a0.1) then 1125899906842624 else (if 1 > a0.1 then 1 else a0.1)) > a0.2.1 then (if 1125899906842624 < (if 1 > a0.1 then 1 else a0.1) then 1125899906842624 else (if 1 > a0.1 then 1 else a0.1)) else a0.2.1) then 1125899906842624 else (if (if 1125899906842624 < (if 1 > a0.1 then 1 else a0.1) then 1125899906842624 else (if 1 > a0.1 then 1 else a0.1)) > a0.2.1 then (if 1125899906842624 < (if 1 > a0.1 then 1 else a0.1) then 1125899906842624 else (if 1 > a0.1 then 1 else a0.1)) else a0.2.1)), ((if 32 < (if 0 > a0.2.2.1 then 0 else a0.2.2.1) then 32 else (if 0 > a0.2.2.1 then 0 else a0.2.2.1)), a0.2.2.2)))
def s45 (_ : Nat) : List (Nat × LC) := []
noncomputable def e45 (N : Nat) : Env := mkEnv Try.prog o43 (s45 N) N
theorem q45 (N : Nat) : LoopsFor (e45 N) Try.prog 45 0 := ⟨by kernel_rfl, fun j hj => match j, hj with
  | _ + 0, h => absurd h (by omega)⟩
def c45 : FC := mkF [.agg [.int .i64, .int .i64, .int .i64, .int .i64]] [.agg [.int .i64, .int .i64, .int .i64, .int .i64]] f45
theorem t45 (N : Nat) : FCOK Try.prog N 45 c45 := fun_ok facts (ok43 N) (by kernel_rfl) (by kernel_rfl) (q45 N) (fun t => by kernel_rfl)
def o45 : List (Nat × FC) := (45, c45) :: o43
theorem ok45 (N : Nat) : OrcOK Try.prog o45 N := orc_cons (t45 N) (ok43 N)
def f46 (N : Nat) (a0 : Int) : Option Int :=
  some (if 1152921504606846976 < (if 0 > a0 then 0 else a0) then 1152921504606846976 else (if 0 > a0 then 0 else a0))
def s46 (_ : Nat) : List (Nat × LC) := []
noncomputable def e46 (N : Nat) : Env := mkEnv Try.prog o45 (s46 N) N
theorem q46 (N : Nat) : LoopsFor (e46 N) Try.prog 46 0 := ⟨by kernel_rfl, fun j hj => match j, hj with
  | _ + 0, h => absurd h (by omega)⟩
def c46 : FC := mkF [.sc (.int .i64)] [.sc (.int .i64)] f46
theorem t46 (N : Nat) : FCOK Try.prog N 46 c46 := fun_ok facts (ok45 N) (by kernel_rfl) (by kernel_rfl) (q46 N) (fun t => by kernel_rfl)
def o46 : List (Nat × FC) := (46, c46) :: o45
theorem ok46 (N : Nat) : OrcOK Try.prog o46 N := orc_cons (t46 N) (ok45 N)
def f18 (N : Nat) (a0 : (Int × (Int × (Int × Int)))) : Option Int :=
  (f43 N a0).bind fun r0 =>
  bif (!(decide (r0.2.2.1 < 0))) then
    bif (decide ((Int.fdiv r0.2.1 (2 ^ (min (r0.2.2.1).toNat 64))) < r0.1)) then
      some r0.2.1
    else bif (!(decide (r0.2.2.1 < 0))) then
      some (IntKind.wrap .i64 (r0.1 * 2 ^ (min (r0.2.2.1).toNat 64)))
    else none
  else none
def s18 (_ : Nat) : List (Nat × LC) := []
noncomputable def e18 (N : Nat) : Env := mkEnv Try.prog o46 (s18 N) N
theorem q18 (N : Nat) : LoopsFor (e18 N) Try.prog 18 0 := ⟨by kernel_rfl, fun j hj => match j, hj with
  | _ + 0, h => absurd h (by omega)⟩
def c18 : FC := mkF [.agg [.int .i64, .int .i64, .int .i64, .int .i64]] [.sc (.int .i64)] f18
theorem t18 (N : Nat) : FCOK Try.prog N 18 c18 := fun_ok facts (ok46 N) (by kernel_rfl) (by kernel_rfl) (q18 N) (fun t => by kernel_rfl)
def o18 : List (Nat × FC) := (18, c18) :: o46
theorem ok18 (N : Nat) : OrcOK Try.prog o18 N := orc_cons (t18 N) (ok46 N)
def f17 (N : Nat) (a0 : (Int × (Int × (Int × Int)))) (a1 : Int) : Option (Int × (Int × (Int × Int))) :=
  (f43 N a0).bind fun r0 =>
  (f44 N a1 0 1152921504606846976).bind fun r1 =>
  (f18 N r0).bind fun r2 =>
  some (r0.1, (r0.2.1, (r0.2.2.1, (IntKind.wrap .i64 (r1 + r2)))))
def s17 (_ : Nat) : List (Nat × LC) := []
noncomputable def e17 (N : Nat) : Env := mkEnv Try.prog o18 (s17 N) N
theorem q17 (N : Nat) : LoopsFor (e17 N) Try.prog 17 0 := ⟨by kernel_rfl, fun j hj => match j, hj with
  | _ + 0, h => absurd h (by omega)⟩
def c17 : FC := mkF [.agg [.int .i64, .int .i64, .int .i64, .int .i64], .sc (.int .i64)] [.agg [.int .i64, .int .i64, .int .i64, .int .i64]] f17
theorem t17 (N : Nat) : FCOK Try.prog N 17 c17 := fun_ok facts (ok18 N) (by kernel_rfl) (by kernel_rfl) (q17 N) (fun t => by kernel_rfl)
def o17 : List (Nat × FC) := (17, c17) :: o18
theorem ok17 (N : Nat) : OrcOK Try.prog o17 N := orc_cons (t17 N) (ok18 N)
def L47_4 (N : Nat) (F : ((Int × (Int × Unit)) × ((Int × (Int × (Int × (Int × Unit)))) × Unit)) → Option ((Int × Unit) × ((Int × (Int × (Int × (Int × Unit)))) × Unit))) (x : ((Int × (Int × Unit)) × ((Int × (Int × (Int × (Int × Unit)))) × Unit))) : Option ((Int × Unit) × ((Int × (Int × (Int × (Int × Unit)))) × Unit)) :=
  bif ((decide (x.1.2.1 < x.2.1.2.2.1)) == true) then
    bif (decide (x.1.1 < x.2.1.2.1)) then
      F (((IntKind.wrap .i64 (x.1.1 * 2)), ((IntKind.wrap .i64 (x.1.2.1 + 1)), ())), ((x.2.1.1, (x.2.1.2.1, (x.2.1.2.2.1, (x.2.1.2.2.2.1, ())))), ()))
    else some ((x.1.1, ()), ((x.2.1.1, (x.2.1.2.1, (x.2.1.2.2.1, (x.2.1.2.2.2.1, ())))), ()))
  else some ((x.1.1, ()), ((x.2.1.1, (x.2.1.2.1, (x.2.1.2.2.1, (x.2.1.2.2.2.1, ())))), ()))
def f47 (N : Nat) (a0 : (Int × (Int × (Int × Int)))) : Option Int :=
  (f45 N a0).bind fun r0 =>
  (iter (L47_4 N) N ((r0.1, (0, ())), ((r0.1, (r0.2.1, (r0.2.2.1, (r0.2.2.2, ())))), ()))).bind fun r1 =>
  some (if r1.2.1.2.1 < r1.1.1 then r1.2.1.2.1 else r1.1.1)
def p47_4 : List Pat := [.any, .ptr 0 0, .any, .sc (.int .i64), .sc (.int .i64), .any, .any, .any, .any, .any, .any, .any, .any, .any, .any, .any, .any, .any, .any, .any, .any, .any, .any, .any, .any, .any, .any]
def h47_4 : List HPat := [.cells [.sc (.int .i64), .sc (.int .i64), .sc (.int .i64), .sc (.int .i64)]]
def x47_4 : List XP := [⟨.exit 0, [.any, .ptr 0 0, .any, .sc (.int .i64), .any, .any, .any, .any, .any, .any, .any, .any, .any, .any, .any, .any, .any, .any, .any, .any, .any, .any, .any, .any, .any, .any, .any], [.cells [.sc (.int .i64), .sc (.int .i64), .sc (.int .i64), .sc (.int .i64)]]⟩]
def lc47_4 (N : Nat) : LC := mkLC p47_4 h47_4 x47_4 (L47_4 N)
def s47 (N : Nat) : List (Nat × LC) := [(4, lc47_4 N)]
noncomputable def e47 (N : Nat) : Env := mkEnv Try.prog o17 (s47 N) N
theorem k47_4 (N : Nat) : LCOK (e47 N) 12 (loopAt Try.prog 47 0) (lc47_4 N) := mkLC_ok (by kernel_rfl) (by kernel_rfl) (fun F x => by kernel_rfl)
theorem q47 (N : Nat) : LoopsFor (e47 N) Try.prog 47 1 := ⟨by kernel_rfl, fun j hj => match j, hj with
  | 0, _ => ⟨lc47_4 N, by kernel_rfl, k47_4 N⟩
  | _ + 1, h => absurd h (by omega)⟩
def c47 : FC := mkF [.agg [.int .i64, .int .i64, .int .i64, .int .i64]] [.sc (.int .i64)] f47
theorem t47 (N : Nat) : FCOK Try.prog N 47 c47 := fun_ok facts (ok17 N) (by kernel_rfl) (by kernel_rfl) (q47 N) (fun t => by kernel_rfl)
def o47 : List (Nat × FC) := (47, c47) :: o17
theorem ok47 (N : Nat) : OrcOK Try.prog o47 N := orc_cons (t47 N) (ok17 N)
def f14 (N : Nat) (a0 : (Int × (Int × (Int × Int)))) (a1 : Int) : Option ((Int × (Int × (Int × Int))) × Bool) :=
  (f43 N a0).bind fun r0 =>
  bif ((decide (r0.2.2.2 < 0)) == false) then
    (f44 N a1 0 1152921504606846976).bind fun r1 =>
    bif (decide (r1 < r0.2.2.2)) then
      some (r0, false)
    else (f17 N (r0.1, (r0.2.1, ((if 32 < (IntKind.wrap .i64 (r0.2.2.1 + 1)) then 32 else (IntKind.wrap .i64 (r0.2.2.1 + 1))), r0.2.2.2))) a1).bind fun r2 =>
    some (r2, true)
  else some (r0, false)
def s14 (_ : Nat) : List (Nat × LC) := []
noncomputable def e14 (N : Nat) : Env := mkEnv Try.prog o47 (s14 N) N
theorem q14 (N : Nat) : LoopsFor (e14 N) Try.prog 14 0 := ⟨by kernel_rfl, fun j hj => match j, hj with
  | _ + 0, h => absurd h (by omega)⟩
def c14 : FC := mkF [.agg [.int .i64, .int .i64, .int .i64, .int .i64], .sc (.int .i64)] [.agg [.int .i64, .int .i64, .int .i64, .int .i64], .sc (.bool)] f14
theorem t14 (N : Nat) : FCOK Try.prog N 14 c14 := fun_ok facts (ok47 N) (by kernel_rfl) (by kernel_rfl) (q14 N) (fun t => by kernel_rfl)
def o14 : List (Nat × FC) := (14, c14) :: o47
theorem ok14 (N : Nat) : OrcOK Try.prog o14 N := orc_cons (t14 N) (ok47 N)
def f15 (N : Nat) (a0 : (Int × (Int × (Int × Int)))) (a1 : Int) : Option ((Int × (Int × (Int × Int))) × Bool) :=
  (f45 N a0).bind fun r0 =>
  bif ((decide (r0.2.2.2 < 0)) == false) then
    (f46 N a1).bind fun r1 =>
    bif (decide (r1 < r0.2.2.2)) then
      some (r0, false)
    else bif (decide (r0.2.2.1 < 32)) then
      (f46 N a1).bind fun r2 =>
      (f47 N (r0.1, (r0.2.1, ((IntKind.wrap .i64 (r0.2.2.1 + 1)), r0.2.2.2)))).bind fun r3 =>
      some ((r0.1, (r0.2.1, ((IntKind.wrap .i64 (r0.2.2.1 + 1)), (IntKind.wrap .i64 (r2 + r3))))), true)
    else (f46 N a1).bind fun r4 =>
    (f47 N r0).bind fun r5 =>
    some ((r0.1, (r0.2.1, (r0.2.2.1, (IntKind.wrap .i64 (r4 + r5))))), true)
  else some (r0, false)
def s15 (_ : Nat) : List (Nat × LC) := []
noncomputable def e15 (N : Nat) : Env := mkEnv Try.prog o14 (s15 N) N
theorem q15 (N : Nat) : LoopsFor (e15 N) Try.prog 15 0 := ⟨by kernel_rfl, fun j hj => match j, hj with
  | _ + 0, h => absurd h (by omega)⟩
def c15 : FC := mkF [.agg [.int .i64, .int .i64, .int .i64, .int .i64], .sc (.int .i64)] [.agg [.int .i64, .int .i64, .int .i64, .int .i64], .sc (.bool)] f15
theorem t15 (N : Nat) : FCOK Try.prog N 15 c15 := fun_ok facts (ok14 N) (by kernel_rfl) (by kernel_rfl) (q15 N) (fun t => by kernel_rfl)
def o15 : List (Nat × FC) := (15, c15) :: o14
theorem ok15 (N : Nat) : OrcOK Try.prog o15 N := orc_cons (t15 N) (ok14 N)
def f3 (N : Nat) (a0 : (Int × (Int × (Int × Int)))) (a1 : Int) : Option Bool :=
  (f14 N a0 a1).bind fun r0 =>
  (f15 N a0 a1).bind fun r1 =>
  bif (((r0.1.1 == r1.1.1) && ((r0.1.2.1 == r1.1.2.1) && ((r0.1.2.2.1 == r1.1.2.2.1) && ((r0.1.2.2.2 == r1.1.2.2.2) && true)))) == true) then
    bif ((r0.2 == r1.2) == true) then
      (f17 N (10, (35, (0, 0))) 0).bind fun r2 =>
      (f14 N r2 10).bind fun r3 =>
      (f14 N r3.1 30).bind fun r4 =>
      bif (r3.2 == true) then
        bif ((r3.1.2.2.2 == 30) == true) then
          bif (r4.2 == true) then
            some (r4.1.2.2.2 == 65)
          else some false
        else some false
      else some false
    else some false
  else some false
def s3 (_ : Nat) : List (Nat × LC) := []
noncomputable def e3 (N : Nat) : Env := mkEnv Try.prog o15 (s3 N) N
theorem q3 (N : Nat) : LoopsFor (e3 N) Try.prog 3 0 := ⟨by kernel_rfl, fun j hj => match j, hj with
  | _ + 0, h => absurd h (by omega)⟩
theorem w3 (N : Nat) (x : RT [.agg [.int .i64, .int .i64, .int .i64, .int .i64], .sc (.int .i64)]) : uncR [.agg [.int .i64, .int .i64, .int .i64, .int .i64], .sc (.int .i64)] (f3 N) x = evFn (e3 N) 13 3 (encA 0 [.agg [.int .i64, .int .i64, .int .i64, .int .i64], .sc (.int .i64)] x).1 (encA 0 [.agg [.int .i64, .int .i64, .int .i64, .int .i64], .sc (.int .i64)] x).2 (decR [.sc .bool]) := by kernel_rfl
end Go.Proofs.Ytfiiifogplhppaa.W
