/- The functions of the seat, as the evaluator tells them, each with its contract. Printed by genW.py. -/
import Derived.Test.YtfiiifogplhppaaEvP
import Derived.Test.YtfiiifogplhppaaRows
namespace Go.Proofs.Ytfiiifogplhppaa.W
open Go.Ev Go.RowKit
theorem facts : Facts Try.prog := ⟨by kernel_rfl, names_of (by kernel_rfl)⟩
def o0 : List (Nat × FC) := []
theorem ok0 (N : Nat) : OrcOK Try.prog o0 N := orc_nil
def f44 (_N : Nat) (a0 : Int) (a1 : Int) (a2 : Int) : Option Int :=
  some (if (if a2 < a0 then a2 else a0) > a1 then (if a2 < a0 then a2 else a0) else a1)
def s44 (_ : Nat) : List (Nat × LC) := []
noncomputable def e44 (N : Nat) : Env := mkEnv Try.prog o0 (s44 N) N
theorem q44 (N : Nat) : LoopsFor (e44 N) Try.prog 44 0 := ⟨by kernel_rfl, fun j hj => match j, hj with
  | _ + 0, h => absurd h (by omega)⟩
def c44 : FC := mkF [.sc (.int .i64), .sc (.int .i64), .sc (.int .i64)] [.sc (.int .i64)] f44
theorem t44 (N : Nat) : FCOK Try.prog N 44 c44 := fun_ok facts (ok0 N) (by kernel_rfl) (by kernel_rfl) (q44 N) (fun t => by kernel_rfl)
def o44 : List (Nat × FC) := (44, c44) :: o0
theorem ok44 (N : Nat) : OrcOK Try.prog o44 N := orc_cons (t44 N) (ok0 N)
def f43 (N : Nat) (a0 : (Int × (Int × (Int × Int)))) : Option (Int × (Int × (Int × Int))) :=
  (f44 N a0.1 1 1125899906842624).bind fun r0 =>
  (f44 N a0.2.1 r0 1125899906842624).bind fun r1 =>
  some (r0, (r1, ((if (if 32 < a0.2.2.1 then 32 else a0.2.2.1) > 0 then (if 32 < a0.2.2.1 then 32 else a0.2.2.1) else 0), a0.2.2.2)))
def s43 (_ : Nat) : List (Nat × LC) := []
noncomputable def e43 (N : Nat) : Env := mkEnv Try.prog o44 (s43 N) N
theorem q43 (N : Nat) : LoopsFor (e43 N) Try.prog 43 0 := ⟨by kernel_rfl, fun j hj => match j, hj with
  | _ + 0, h => absurd h (by omega)⟩
def c43 : FC := mkF [.agg [.int .i64, .int .i64, .int .i64, .int .i64]] [.agg [.int .i64, .int .i64, .int .i64, .int .i64]] f43
theorem t43 (N : Nat) : FCOK Try.prog N 43 c43 := fun_ok facts (ok44 N) (by kernel_rfl) (by kernel_rfl) (q43 N) (fun t => by kernel_rfl)
def o43 : List (Nat × FC) := (43, c43) :: o44
theorem ok43 (N : Nat) : OrcOK Try.prog o43 N := orc_cons (t43 N) (ok44 N)
def f18 (N : Nat) (a0 : (Int × (Int × (Int × Int)))) : Option Int :=
  (f43 N a0).bind fun r0 =>
  bif (!(decide (r0.2.2.1 < 0))) then
    bif (decide ((Int.fdiv r0.2.1 (2 ^ (min (r0.2.2.1).toNat 64))) < r0.1)) then
      some r0.2.1
    else bif (!(decide (r0.2.2.1 < 0))) then
      some (IntKind.wrap .i64 (r0.1 * 2 ^ (min (r0.2.2.1).toNat 64)))
    else none
  else none
def s18 (_ : Nat) : List (Nat × LC) := []
noncomputable def e18 (N : Nat) : Env := mkEnv Try.prog o43 (s18 N) N
theorem q18 (N : Nat) : LoopsFor (e18 N) Try.prog 18 0 := ⟨by kernel_rfl, fun j hj => match j, hj with
  | _ + 0, h => absurd h (by omega)⟩
def c18 : FC := mkF [.agg [.int .i64, .int .i64, .int .i64, .int .i64]] [.sc (.int .i64)] f18
theorem t18 (N : Nat) : FCOK Try.prog N 18 c18 := fun_ok facts (ok43 N) (by kernel_rfl) (by kernel_rfl) (q18 N) (fun t => by kernel_rfl)
def o18 : List (Nat × FC) := (18, c18) :: o43
theorem ok18 (N : Nat) : OrcOK Try.prog o18 N := orc_cons (t18 N) (ok43 N)
def f17 (N : Nat) (a0 : (Int × (Int × (Int × Int)))) (a1 : Int) : Option (Int × (Int × (Int × Int))) :=
  (f43 N a0).bind fun r0 =>
  (f44 N a1 0 1152921504606846976).bind fun r1 =>
  (f18 N r0).bind fun r2 =>
  some (r0.1, (r0.2.1, (r0.2.2.1, (IntKind.wrap .i64 (r1 + r2)))))
def s17 (_ : Nat) : List (Nat × LC) := []
noncomputable def e17 (N : Nat) : Env := mkEnv Try.prog o18 (s17 N) N
theorem q17 (N : Nat) : LoopsFor (e17 N) Try.prog 17 0 := ⟨by kernel_rfl, fun j hj => match j, hj with
  | _ + 0, h => absurd h (by omega)⟩
def c17 : FC := mkF [.agg [.int .i64, .int .i64, .int .i64, .int .i64], .sc (.int .i64)] [.agg [.int .i64, .int .i64, .int .i64, .int .i64]] f17
theorem t17 (N : Nat) : FCOK Try.prog N 17 c17 := fun_ok facts (ok18 N) (by kernel_rfl) (by kernel_rfl) (q17 N) (fun t => by kernel_rfl)
def o17 : List (Nat × FC) := (17, c17) :: o18
theorem ok17 (N : Nat) : OrcOK Try.prog o17 N := orc_cons (t17 N) (ok18 N)
def f14 (N : Nat) (a0 : (Int × (Int × (Int × Int)))) (a1 : Int) : Option ((Int × (Int × (Int × Int))) × Bool) :=
  (f43 N a0).bind fun r0 =>
  bif ((decide (r0.2.2.2 < 0)) == false) then
    (f44 N a1 0 1152921504606846976).bind fun r1 =>
    bif (decide (r1 < r0.2.2.2)) then
      some (r0, false)
    else (f17 N (r0.1, (r0.2.1, ((if 32 < (IntKind.wrap .i64 (r0.2.2.1 + 1)) then 32 else (IntKind.wrap .i64 (r0.2.2.1 + 1))), r0.2.2.2))) a1).bind fun r2 =>
    some (r2, true)
  else some (r0, false)
def s14 (_ : Nat) : List (Nat × LC) := []
noncomputable def e14 (N : Nat) : Env := mkEnv Try.prog o17 (s14 N) N
theorem q14 (N : Nat) : LoopsFor (e14 N) Try.prog 14 0 := ⟨by kernel_rfl, fun j hj => match j, hj with
  | _ + 0, h => absurd h (by omega)⟩
def c14 : FC := mkF [.agg [.int .i64, .int .i64, .int .i64, .int .i64], .sc (.int .i64)] [.agg [.int .i64, .int .i64, .int .i64, .int .i64], .sc (.bool)] f14
theorem t14 (N : Nat) : FCOK Try.prog N 14 c14 := fun_ok facts (ok17 N) (by kernel_rfl) (by kernel_rfl) (q14 N) (fun t => by kernel_rfl)
def o14 : List (Nat × FC) := (14, c14) :: o17
theorem ok14 (N : Nat) : OrcOK Try.prog o14 N := orc_cons (t14 N) (ok17 N)
def f45 (_N : Nat) (a0 : (Int × (Int × (Int × Int)))) : Option (Int × (Int × (Int × Int))) :=
  some ((if 1125899906842624 < (if 1 > a0.1 then 1 else a0.1) then 1125899906842624 else (if 1 > a0.1 then 1 else a0.1)), ((if 1125899906842624 < (if (if 1125899906842624 < (if 1 > a0.1 then 1 else a0.1) then 1125899906842624 else (if 1 > a0.1 then 1 else a0.1)) > a0.2.1 then (if 1125899906842624 < (if 1 > a0.1 then 1 else a0.1) then 1125899906842624 else (if 1 > a0.1 then 1 else a0.1)) else a0.2.1) then 1125899906842624 else (if (if 1125899906842624 < (if 1 > a0.1 then 1 else a0.1) then 1125899906842624 else (if 1 > a0.1 then 1 else a0.1)) > a0.2.1 then (if 1125899906842624 < (if 1 > a0.1 then 1 else a0.1) then 1125899906842624 else (if 1 > a0.1 then 1 else a0.1)) else a0.2.1)), ((if 32 < (if 0 > a0.2.2.1 then 0 else a0.2.2.1) then 32 else (if 0 > a0.2.2.1 then 0 else a0.2.2.1)), a0.2.2.2)))
def s45 (_ : Nat) : List (Nat × LC) := []
noncomputable def e45 (N : Nat) : Env := mkEnv Try.prog o14 (s45 N) N
theorem q45 (N : Nat) : LoopsFor (e45 N) Try.prog 45 0 := ⟨by kernel_rfl, fun j hj => match j, hj with
  | _ + 0, h => absurd h (by omega)⟩
def c45 : FC := mkF [.agg [.int .i64, .int .i64, .int .i64, .int .i64]] [.agg [.int .i64, .int .i64, .int .i64, .int .i64]] f45
theorem t45 (N : Nat) : FCOK Try.prog N 45 c45 := fun_ok facts (ok14 N) (by kernel_rfl) (by kernel_rfl) (q45 N) (fun t => by kernel_rfl)
def o45 : List (Nat × FC) := (45, c45) :: o14
theorem ok45 (N : Nat) : OrcOK Try.prog o45 N := orc_cons (t45 N) (ok14 N)
def f46 (_N : Nat) (a0 : Int) : Option Int :=
  some (if 1152921504606846976 < (if 0 > a0 then 0 else a0) then 1152921504606846976 else (if 0 > a0 then 0 else a0))
def s46 (_ : Nat) : List (Nat × LC) := []
noncomputable def e46 (N : Nat) : Env := mkEnv Try.prog o45 (s46 N) N
theorem q46 (N : Nat) : LoopsFor (e46 N) Try.prog 46 0 := ⟨by kernel_rfl, fun j hj => match j, hj with
  | _ + 0, h => absurd h (by omega)⟩
def c46 : FC := mkF [.sc (.int .i64)] [.sc (.int .i64)] f46
theorem t46 (N : Nat) : FCOK Try.prog N 46 c46 := fun_ok facts (ok45 N) (by kernel_rfl) (by kernel_rfl) (q46 N) (fun t => by kernel_rfl)
def o46 : List (Nat × FC) := (46, c46) :: o45
theorem ok46 (N : Nat) : OrcOK Try.prog o46 N := orc_cons (t46 N) (ok45 N)
def L47_4 (_N : Nat) (F : ((Int × (Int × Unit)) × ((Int × (Int × (Int × (Int × Unit)))) × Unit)) → Option ((Int × Unit) × ((Int × (Int × (Int × (Int × Unit)))) × Unit))) (x : ((Int × (Int × Unit)) × ((Int × (Int × (Int × (Int × Unit)))) × Unit))) : Option ((Int × Unit) × ((Int × (Int × (Int × (Int × Unit)))) × Unit)) :=
  bif ((decide (x.1.2.1 < x.2.1.2.2.1)) == true) then
    bif (decide (x.1.1 < x.2.1.2.1)) then
      F (((IntKind.wrap .i64 (x.1.1 * 2)), ((IntKind.wrap .i64 (x.1.2.1 + 1)), ())), ((x.2.1.1, (x.2.1.2.1, (x.2.1.2.2.1, (x.2.1.2.2.2.1, ())))), ()))
    else some ((x.1.1, ()), ((x.2.1.1, (x.2.1.2.1, (x.2.1.2.2.1, (x.2.1.2.2.2.1, ())))), ()))
  else some ((x.1.1, ()), ((x.2.1.1, (x.2.1.2.1, (x.2.1.2.2.1, (x.2.1.2.2.2.1, ())))), ()))
def f47 (N : Nat) (a0 : (Int × (Int × (Int × Int)))) : Option Int :=
  (f45 N a0).bind fun r0 =>
  (iter (L47_4 N) N ((r0.1, (0, ())), ((r0.1, (r0.2.1, (r0.2.2.1, (r0.2.2.2, ())))), ()))).bind fun r1 =>
  some (if r1.2.1.2.1 < r1.1.1 then r1.2.1.2.1 else r1.1.1)
def p47_4 : List Pat := [.any, .ptr 0 0, .any, .sc (.int .i64), .sc (.int .i64), .any, .any, .any, .any, .any, .any, .any, .any, .any, .any, .any, .any, .any, .any, .any, .any, .any, .any, .any, .any, .any, .any]
def h47_4 : List HPat := [.cells [.sc (.int .i64), .sc (.int .i64), .sc (.int .i64), .sc (.int .i64)]]
def x47_4 : List XP := [⟨.exit 0, [.any, .ptr 0 0, .any, .sc (.int .i64), .any, .any, .any, .any, .any, .any, .any, .any, .any, .any, .any, .any, .any, .any, .any, .any, .any, .any, .any, .any, .any, .any, .any], [.cells [.sc (.int .i64), .sc (.int .i64), .sc (.int .i64), .sc (.int .i64)]]⟩]
def lc47_4 (N : Nat) : LC := mkLC p47_4 h47_4 x47_4 (L47_4 N)
def s47 (N : Nat) : List (Nat × LC) := [(4, lc47_4 N)]
noncomputable def e47 (N : Nat) : Env := mkEnv Try.prog o46 (s47 N) N
theorem k47_4 (N : Nat) : LCOK (e47 N) 12 (loopAt Try.prog 47 0) (lc47_4 N) := mkLC_ok (by kernel_rfl) (by kernel_rfl) (fun F x => by kernel_rfl)
theorem q47 (N : Nat) : LoopsFor (e47 N) Try.prog 47 1 := ⟨by kernel_rfl, fun j hj => match j, hj with
  | 0, _ => ⟨lc47_4 N, by kernel_rfl, k47_4 N⟩
  | _ + 1, h => absurd h (by omega)⟩
def c47 : FC := mkF [.agg [.int .i64, .int .i64, .int .i64, .int .i64]] [.sc (.int .i64)] f47
theorem t47 (N : Nat) : FCOK Try.prog N 47 c47 := fun_ok facts (ok46 N) (by kernel_rfl) (by kernel_rfl) (q47 N) (fun t => by kernel_rfl)
def o47 : List (Nat × FC) := (47, c47) :: o46
theorem ok47 (N : Nat) : OrcOK Try.prog o47 N := orc_cons (t47 N) (ok46 N)
def f15 (N : Nat) (a0 : (Int × (Int × (Int × Int)))) (a1 : Int) : Option ((Int × (Int × (Int × Int))) × Bool) :=
  (f45 N a0).bind fun r0 =>
  bif ((decide (r0.2.2.2 < 0)) == false) then
    (f46 N a1).bind fun r1 =>
    bif (decide (r1 < r0.2.2.2)) then
      some (r0, false)
    else bif (decide (r0.2.2.1 < 32)) then
      (f46 N a1).bind fun r2 =>
      (f47 N (r0.1, (r0.2.1, ((IntKind.wrap .i64 (r0.2.2.1 + 1)), r0.2.2.2)))).bind fun r3 =>
      some ((r0.1, (r0.2.1, ((IntKind.wrap .i64 (r0.2.2.1 + 1)), (IntKind.wrap .i64 (r2 + r3))))), true)
    else (f46 N a1).bind fun r4 =>
    (f47 N r0).bind fun r5 =>
    some ((r0.1, (r0.2.1, (r0.2.2.1, (IntKind.wrap .i64 (r4 + r5))))), true)
  else some (r0, false)
def s15 (_ : Nat) : List (Nat × LC) := []
noncomputable def e15 (N : Nat) : Env := mkEnv Try.prog o47 (s15 N) N
theorem q15 (N : Nat) : LoopsFor (e15 N) Try.prog 15 0 := ⟨by kernel_rfl, fun j hj => match j, hj with
  | _ + 0, h => absurd h (by omega)⟩
def c15 : FC := mkF [.agg [.int .i64, .int .i64, .int .i64, .int .i64], .sc (.int .i64)] [.agg [.int .i64, .int .i64, .int .i64, .int .i64], .sc (.bool)] f15
theorem t15 (N : Nat) : FCOK Try.prog N 15 c15 := fun_ok facts (ok47 N) (by kernel_rfl) (by kernel_rfl) (q15 N) (fun t => by kernel_rfl)
def o15 : List (Nat × FC) := (15, c15) :: o47
theorem ok15 (N : Nat) : OrcOK Try.prog o15 N := orc_cons (t15 N) (ok47 N)
def f16 (N : Nat) : Option Bool :=
  (f17 N (10, (35, (0, 0))) 0).bind fun r0 =>
  (f14 N r0 10).bind fun r1 =>
  (f14 N r1.1 30).bind fun r2 =>
  bif (r1.2 == true) then
    bif ((r1.1.2.2.2 == 30) == true) then
      bif (r2.2 == true) then
        some (r2.1.2.2.2 == 65)
      else some false
    else some false
  else some false
def s16 (_ : Nat) : List (Nat × LC) := []
noncomputable def e16 (N : Nat) : Env := mkEnv Try.prog o15 (s16 N) N
theorem q16 (N : Nat) : LoopsFor (e16 N) Try.prog 16 0 := ⟨by kernel_rfl, fun j hj => match j, hj with
  | _ + 0, h => absurd h (by omega)⟩
def c16 : FC := mkF [] [.sc (.bool)] f16
theorem t16 (N : Nat) : FCOK Try.prog N 16 c16 := fun_ok facts (ok15 N) (by kernel_rfl) (by kernel_rfl) (q16 N) (fun t => by kernel_rfl)
def o16 : List (Nat × FC) := (16, c16) :: o15
theorem ok16 (N : Nat) : OrcOK Try.prog o16 N := orc_cons (t16 N) (ok15 N)
def f3 (N : Nat) (a0 : (Int × (Int × (Int × Int)))) (a1 : Int) : Option Bool :=
  (f14 N a0 a1).bind fun r0 =>
  (f15 N a0 a1).bind fun r1 =>
  bif (((r0.1.1 == r1.1.1) && ((r0.1.2.1 == r1.1.2.1) && ((r0.1.2.2.1 == r1.1.2.2.1) && ((r0.1.2.2.2 == r1.1.2.2.2) && true)))) == true) then
    bif ((r0.2 == r1.2) == true) then
      (f16 N).bind fun r2 =>
      some r2
    else some false
  else some false
def s3 (_ : Nat) : List (Nat × LC) := []
noncomputable def e3 (N : Nat) : Env := mkEnv Try.prog o16 (s3 N) N
theorem q3 (N : Nat) : LoopsFor (e3 N) Try.prog 3 0 := ⟨by kernel_rfl, fun j hj => match j, hj with
  | _ + 0, h => absurd h (by omega)⟩
theorem okL3 (N : Nat) : OrcOK Try.prog o16 N := ok16 N
theorem w3 (N : Nat) (x : RT [.agg [.int .i64, .int .i64, .int .i64, .int .i64], .sc (.int .i64)]) : uncR [.agg [.int .i64, .int .i64, .int .i64, .int .i64], .sc (.int .i64)] (f3 N) x = evFn (e3 N) 13 3 (encA 0 [.agg [.int .i64, .int .i64, .int .i64, .int .i64], .sc (.int .i64)] x).1 (encA 0 [.agg [.int .i64, .int .i64, .int .i64, .int .i64], .sc (.int .i64)] x).2 (decR [.sc .bool]) := by kernel_rfl
def f19 (N : Nat) (a0 : (Int × (Int × (Int × Int)))) : Option (Int × (Int × (Int × Int))) :=
  (f43 N a0).bind fun r0 =>
  some (r0.1, (r0.2.1, (r0.2.2.1, (-1))))
def s19 (_ : Nat) : List (Nat × LC) := []
noncomputable def e19 (N : Nat) : Env := mkEnv Try.prog o16 (s19 N) N
theorem q19 (N : Nat) : LoopsFor (e19 N) Try.prog 19 0 := ⟨by kernel_rfl, fun j hj => match j, hj with
  | _ + 0, h => absurd h (by omega)⟩
def c19 : FC := mkF [.agg [.int .i64, .int .i64, .int .i64, .int .i64]] [.agg [.int .i64, .int .i64, .int .i64, .int .i64]] f19
theorem t19 (N : Nat) : FCOK Try.prog N 19 c19 := fun_ok facts (ok16 N) (by kernel_rfl) (by kernel_rfl) (q19 N) (fun t => by kernel_rfl)
def o19 : List (Nat × FC) := (19, c19) :: o16
theorem ok19 (N : Nat) : OrcOK Try.prog o19 N := orc_cons (t19 N) (ok16 N)
def L4_3 (N : Nat) (F : ((Int × Unit) × ((Int × (Int × (Int × (Int × Unit)))) × Unit)) → Option (((Bool × Unit) × Unit) ⊕ (Unit × ((Int × (Int × (Int × (Int × Unit)))) × Unit)))) (x : ((Int × Unit) × ((Int × (Int × (Int × (Int × Unit)))) × Unit))) : Option (((Bool × Unit) × Unit) ⊕ (Unit × ((Int × (Int × (Int × (Int × Unit)))) × Unit))) :=
  bif (decide (x.1.1 < 40)) then
    (f18 N (x.2.1.1, (x.2.1.2.1, (x.2.1.2.2.1, x.2.1.2.2.2.1)))).bind fun r0 =>
    bif ((decide (r0 < x.2.1.1)) == false) then
      bif (decide (x.2.1.2.1 < r0)) then
        some (.inl ((false, ()), ()))
      else (f14 N (x.2.1.1, (x.2.1.2.1, (x.2.1.2.2.1, x.2.1.2.2.2.1))) (IntKind.wrap .i64 (x.2.1.2.2.2.1 - 1))).bind fun r1 =>
      bif r1.2 then
        some (.inl ((false, ()), ()))
      else (f14 N (x.2.1.1, (x.2.1.2.1, (x.2.1.2.2.1, x.2.1.2.2.2.1))) x.2.1.2.2.2.1).bind fun r2 =>
      bif ((!r2.2) == false) then
        (f18 N r2.1).bind fun r3 =>
        bif ((decide (r3 < r0)) == false) then
          (f18 N r2.1).bind fun r4 =>
          bif (!((IntKind.wrap .i64 (r2.1.2.2.2 - x.2.1.2.2.2.1)) == r4)) then
            some (.inl ((false, ()), ()))
          else F (((IntKind.wrap .i64 (x.1.1 + 1)), ()), ((r2.1.1, (r2.1.2.1, (r2.1.2.2.1, (r2.1.2.2.2, ())))), ()))
        else some (.inl ((false, ()), ()))
      else some (.inl ((false, ()), ()))
    else some (.inl ((false, ()), ()))
  else some (.inr ((), ((x.2.1.1, (x.2.1.2.1, (x.2.1.2.2.1, (x.2.1.2.2.2.1, ())))), ())))
def f4 (N : Nat) (a0 : Int) (a1 : Int) (a2 : Int) : Option Bool :=
  (f17 N (a0, (a1, (0, 0))) (IntKind.wrap .i64 a2)).bind fun r0 =>
  (iter (L4_3 N) N ((0, ()), ((r0.1, (r0.2.1, (r0.2.2.1, (r0.2.2.2, ())))), ()))).bind fun r1 =>
  match r1 with
  | .inl r2 =>
    some r2.1.1
  | .inr r3 =>
    (f19 N (r3.2.1.1, (r3.2.1.2.1, (r3.2.1.2.2.1, r3.2.1.2.2.2.1)))).bind fun r4 =>
    (f14 N r4 1152921504606846976).bind fun r5 =>
    bif ((!r5.2) == true) then
      (f16 N).bind fun r6 =>
      some r6
    else some false
def p4_3 : List Pat := [.any, .any, .any, .any, .any, .any, .any, .ptr 0 0, .any, .any, .any, .any, .any, .any, .any, .any, .any, .any, .any, .any, .any, .sc (.int .i64), .any, .any, .any, .any, .any, .any, .any, .any, .any, .any, .any, .any, .any, .any, .any, .any, .any, .any, .any, .any, .any, .any, .any, .any, .any, .any, .any, .any, .any, .any, .any, .any, .any, .any, .any, .any, .any, .any, .any, .any, .any, .any, .any, .any, .any, .any, .any, .any, .any, .any, .any, .any, .any, .any, .any, .any, .any, .any, .any, .any]
def h4_3 : List HPat := [.cells [.sc (.int .i64), .sc (.int .i64), .sc (.int .i64), .sc (.int .i64)]]
def x4_3 : List XP := [⟨.ret, [.any, .any, .any, .any, .any, .any, .sc (.bool), .any, .any, .any, .any, .any, .any, .any, .any, .any, .any, .any, .any, .any, .any, .any, .any, .any, .any, .any, .any, .any, .any, .any, .any, .any, .any, .any, .any, .any, .any, .any, .any, .any, .any, .any, .any, .any, .any, .any, .any, .any, .any, .any, .any, .any, .any, .any, .any, .any, .any, .any, .any, .any, .any, .any, .any, .any, .any, .any, .any, .any, .any, .any, .any, .any, .any, .any, .any, .any, .any, .any, .any, .any, .any, .any], []⟩, ⟨.exit 0, [.any, .any, .any, .any, .any, .any, .any, .ptr 0 0, .any, .any, .any, .any, .any, .any, .any, .any, .any, .any, .any, .any, .any, .any, .any, .any, .any, .any, .any, .any, .any, .any, .any, .any, .any, .any, .any, .any, .any, .any, .any, .any, .any, .any, .any, .any, .any, .any, .any, .any, .any, .any, .any, .any, .any, .any, .any, .any, .any, .any, .any, .any, .any, .any, .any, .any, .any, .any, .any, .any, .any, .any, .any, .any, .any, .any, .any, .any, .any, .any, .any, .any, .any, .any], [.cells [.sc (.int .i64), .sc (.int .i64), .sc (.int .i64), .sc (.int .i64)]]⟩]
def lc4_3 (N : Nat) : LC := mkLC p4_3 h4_3 x4_3 (L4_3 N)
def s4 (N : Nat) : List (Nat × LC) := [(3, lc4_3 N)]
noncomputable def e4 (N : Nat) : Env := mkEnv Try.prog o19 (s4 N) N
theorem k4_3 (N : Nat) : LCOK (e4 N) 12 (loopAt Try.prog 4 0) (lc4_3 N) := mkLC_ok (by kernel_rfl) (by kernel_rfl) (fun F x => by kernel_rfl)
theorem q4 (N : Nat) : LoopsFor (e4 N) Try.prog 4 1 := ⟨by kernel_rfl, fun j hj => match j, hj with
  | 0, _ => ⟨lc4_3 N, by kernel_rfl, k4_3 N⟩
  | _ + 1, h => absurd h (by omega)⟩
theorem okL4 (N : Nat) : OrcOK Try.prog o19 N := ok19 N
theorem w4 (N : Nat) (x : RT [.sc (.int .i64), .sc (.int .i64), .sc (.int .u32)]) : uncR [.sc (.int .i64), .sc (.int .i64), .sc (.int .u32)] (f4 N) x = evFn (e4 N) 13 4 (encA 0 [.sc (.int .i64), .sc (.int .i64), .sc (.int .u32)] x).1 (encA 0 [.sc (.int .i64), .sc (.int .i64), .sc (.int .u32)] x).2 (decR [.sc .bool]) := by kernel_rfl
def f48 (N : Nat) (a0 : Int) : Option Int :=
  (f44 N a0 0 65536).bind fun r0 =>
  some r0
def s48 (_ : Nat) : List (Nat × LC) := []
noncomputable def e48 (N : Nat) : Env := mkEnv Try.prog o19 (s48 N) N
theorem q48 (N : Nat) : LoopsFor (e48 N) Try.prog 48 0 := ⟨by kernel_rfl, fun j hj => match j, hj with
  | _ + 0, h => absurd h (by omega)⟩
def c48 : FC := mkF [.sc (.int .i64)] [.sc (.int .i64)] f48
theorem t48 (N : Nat) : FCOK Try.prog N 48 c48 := fun_ok facts (ok19 N) (by kernel_rfl) (by kernel_rfl) (q48 N) (fun t => by kernel_rfl)
def o48 : List (Nat × FC) := (48, c48) :: o19
theorem ok48 (N : Nat) : OrcOK Try.prog o48 N := orc_cons (t48 N) (ok19 N)
def f49 (N : Nat) (a0 : Int) : Option Int :=
  (f44 N a0 0 1099511627776).bind fun r0 =>
  some r0
def s49 (_ : Nat) : List (Nat × LC) := []
noncomputable def e49 (N : Nat) : Env := mkEnv Try.prog o48 (s49 N) N
theorem q49 (N : Nat) : LoopsFor (e49 N) Try.prog 49 0 := ⟨by kernel_rfl, fun j hj => match j, hj with
  | _ + 0, h => absurd h (by omega)⟩
def c49 : FC := mkF [.agg [.int .i64]] [.sc (.int .i64)] f49
theorem t49 (N : Nat) : FCOK Try.prog N 49 c49 := fun_ok facts (ok48 N) (by kernel_rfl) (by kernel_rfl) (q49 N) (fun t => by kernel_rfl)
def o49 : List (Nat × FC) := (49, c49) :: o48
theorem ok49 (N : Nat) : OrcOK Try.prog o49 N := orc_cons (t49 N) (ok48 N)
def f20 (N : Nat) (a0 : Int) (a1 : Int) (a2 : Int) : Option Int :=
  (f48 N a1).bind fun r0 =>
  (f48 N a2).bind fun r1 =>
  bif ((r0 == 0) == true) then
    bif (r1 == 0) then
      some 0
    else bif ((r0 == 0) == false) then
      bif ((decide ((0 : Int) < r1)) == true) then
        (f49 N a0).bind fun r2 =>
        bif (decide ((IntKind.wrap .i64 (15 * r1)) ≤ r2)) then
          some 2
        else some 1
      else some 1
    else some 2
  else bif ((r0 == 0) == false) then
    bif ((decide ((0 : Int) < r1)) == true) then
      (f49 N a0).bind fun r3 =>
      bif (decide ((IntKind.wrap .i64 (15 * r1)) ≤ r3)) then
        some 2
      else some 1
    else some 1
  else some 2
def s20 (_ : Nat) : List (Nat × LC) := []
noncomputable def e20 (N : Nat) : Env := mkEnv Try.prog o49 (s20 N) N
theorem q20 (N : Nat) : LoopsFor (e20 N) Try.prog 20 0 := ⟨by kernel_rfl, fun j hj => match j, hj with
  | _ + 0, h => absurd h (by omega)⟩
def c20 : FC := mkF [.agg [.int .i64], .sc (.int .i64), .sc (.int .i64)] [.sc (.int .i64)] f20
theorem t20 (N : Nat) : FCOK Try.prog N 20 c20 := fun_ok facts (ok49 N) (by kernel_rfl) (by kernel_rfl) (q20 N) (fun t => by kernel_rfl)
def o20 : List (Nat × FC) := (20, c20) :: o49
theorem ok20 (N : Nat) : OrcOK Try.prog o20 N := orc_cons (t20 N) (ok49 N)
def f50 (_N : Nat) (a0 : Int) (a1 : Int) : Option Int :=
  some (if a1 < (if 0 > a0 then 0 else a0) then a1 else (if 0 > a0 then 0 else a0))
def s50 (_ : Nat) : List (Nat × LC) := []
noncomputable def e50 (N : Nat) : Env := mkEnv Try.prog o20 (s50 N) N
theorem q50 (N : Nat) : LoopsFor (e50 N) Try.prog 50 0 := ⟨by kernel_rfl, fun j hj => match j, hj with
  | _ + 0, h => absurd h (by omega)⟩
def c50 : FC := mkF [.sc (.int .i64), .sc (.int .i64)] [.sc (.int .i64)] f50
theorem t50 (N : Nat) : FCOK Try.prog N 50 c50 := fun_ok facts (ok20 N) (by kernel_rfl) (by kernel_rfl) (q50 N) (fun t => by kernel_rfl)
def o50 : List (Nat × FC) := (50, c50) :: o20
theorem ok50 (N : Nat) : OrcOK Try.prog o50 N := orc_cons (t50 N) (ok20 N)
def f21 (N : Nat) (a0 : Int) (a1 : Int) (a2 : Int) : Option Int :=
  (f50 N a1 65536).bind fun r0 =>
  (f50 N a2 65536).bind fun r1 =>
  bif ((r0 == 0) == true) then
    bif (r1 == 0) then
      some 0
    else bif (r0 == 0) then
      some 2
    else bif ((decide ((0 : Int) < r1)) == true) then
      (f50 N a0 1099511627776).bind fun r2 =>
      bif (decide ((IntKind.wrap .i64 (15 * r1)) ≤ r2)) then
        some 2
      else some 1
    else some 1
  else bif (r0 == 0) then
    some 2
  else bif ((decide ((0 : Int) < r1)) == true) then
    (f50 N a0 1099511627776).bind fun r3 =>
    bif (decide ((IntKind.wrap .i64 (15 * r1)) ≤ r3)) then
      some 2
    else some 1
  else some 1
def s21 (_ : Nat) : List (Nat × LC) := []
noncomputable def e21 (N : Nat) : Env := mkEnv Try.prog o50 (s21 N) N
theorem q21 (N : Nat) : LoopsFor (e21 N) Try.prog 21 0 := ⟨by kernel_rfl, fun j hj => match j, hj with
  | _ + 0, h => absurd h (by omega)⟩
def c21 : FC := mkF [.agg [.int .i64], .sc (.int .i64), .sc (.int .i64)] [.sc (.int .i64)] f21
theorem t21 (N : Nat) : FCOK Try.prog N 21 c21 := fun_ok facts (ok50 N) (by kernel_rfl) (by kernel_rfl) (q21 N) (fun t => by kernel_rfl)
def o21 : List (Nat × FC) := (21, c21) :: o50
theorem ok21 (N : Nat) : OrcOK Try.prog o21 N := orc_cons (t21 N) (ok50 N)
def f22 (N : Nat) (a0 : Int) (a1 : Int) (a2 : Int) (a3 : Bool) : Option Int :=
  (f48 N a2).bind fun r0 =>
  bif (a1 == 1) then
    (f49 N a0).bind fun r1 =>
    bif (!a3) then
      some 0
    else some (if 1099511627776 < (IntKind.wrap .i64 (r1 + r0)) then 1099511627776 else (IntKind.wrap .i64 (r1 + r0)))
  else bif (a1 == 2) then
    (f49 N a0).bind fun r2 =>
    bif (!a3) then
      some 0
    else some (if 0 > (IntKind.wrap .i64 (r2 - (IntKind.wrap .i64 (15 * r0)))) then 0 else (IntKind.wrap .i64 (r2 - (IntKind.wrap .i64 (15 * r0)))))
  else some a0
def s22 (_ : Nat) : List (Nat × LC) := []
noncomputable def e22 (N : Nat) : Env := mkEnv Try.prog o21 (s22 N) N
theorem q22 (N : Nat) : LoopsFor (e22 N) Try.prog 22 0 := ⟨by kernel_rfl, fun j hj => match j, hj with
  | _ + 0, h => absurd h (by omega)⟩
def c22 : FC := mkF [.agg [.int .i64], .sc (.int .i64), .sc (.int .i64), .sc (.bool)] [.agg [.int .i64]] f22
theorem t22 (N : Nat) : FCOK Try.prog N 22 c22 := fun_ok facts (ok21 N) (by kernel_rfl) (by kernel_rfl) (q22 N) (fun t => by kernel_rfl)
def o22 : List (Nat × FC) := (22, c22) :: o21
theorem ok22 (N : Nat) : OrcOK Try.prog o22 N := orc_cons (t22 N) (ok21 N)
def f23 (N : Nat) (a0 : Int) (a1 : Int) (a2 : Int) (a3 : Bool) : Option Int :=
  bif ((!(a1 == 1)) == true) then
    bif (!(a1 == 2)) then
      some a0
    else bif (!a3) then
      some 0
    else (f50 N a2 65536).bind fun r0 =>
    bif (a1 == 1) then
      (f50 N a0 1099511627776).bind fun r1 =>
      (f50 N (IntKind.wrap .i64 (r1 + r0)) 1099511627776).bind fun r2 =>
      some r2
    else (f50 N a0 1099511627776).bind fun r3 =>
    (f50 N (IntKind.wrap .i64 (r3 - (IntKind.wrap .i64 (15 * r0)))) 1099511627776).bind fun r4 =>
    some r4
  else bif (!a3) then
    some 0
  else (f50 N a2 65536).bind fun r5 =>
  bif (a1 == 1) then
    (f50 N a0 1099511627776).bind fun r6 =>
    (f50 N (IntKind.wrap .i64 (r6 + r5)) 1099511627776).bind fun r7 =>
    some r7
  else (f50 N a0 1099511627776).bind fun r8 =>
  (f50 N (IntKind.wrap .i64 (r8 - (IntKind.wrap .i64 (15 * r5)))) 1099511627776).bind fun r9 =>
  some r9
def s23 (_ : Nat) : List (Nat × LC) := []
noncomputable def e23 (N : Nat) : Env := mkEnv Try.prog o22 (s23 N) N
theorem q23 (N : Nat) : LoopsFor (e23 N) Try.prog 23 0 := ⟨by kernel_rfl, fun j hj => match j, hj with
  | _ + 0, h => absurd h (by omega)⟩
def c23 : FC := mkF [.agg [.int .i64], .sc (.int .i64), .sc (.int .i64), .sc (.bool)] [.agg [.int .i64]] f23
theorem t23 (N : Nat) : FCOK Try.prog N 23 c23 := fun_ok facts (ok22 N) (by kernel_rfl) (by kernel_rfl) (q23 N) (fun t => by kernel_rfl)
def o23 : List (Nat × FC) := (23, c23) :: o22
theorem ok23 (N : Nat) : OrcOK Try.prog o23 N := orc_cons (t23 N) (ok22 N)
def L24_3 (N : Nat) (F : ((Int × Unit) × ((Int × Unit) × Unit)) → Option (((Bool × Unit) × Unit) ⊕ (Unit × ((Int × Unit) × Unit)))) (x : ((Int × Unit) × ((Int × Unit) × Unit))) : Option (((Bool × Unit) × Unit) ⊕ (Unit × ((Int × Unit) × Unit))) :=
  bif (decide (x.1.1 < 15)) then
    (f20 N x.2.1.1 1000 1000).bind fun r0 =>
    bif (!(r0 == 1)) then
      some (.inl ((false, ()), ()))
    else (f22 N x.2.1.1 1 1000 true).bind fun r1 =>
    F (((IntKind.wrap .i64 (x.1.1 + 1)), ()), ((r1, ()), ()))
  else some (.inr ((), ((x.2.1.1, ()), ())))
def f24 (N : Nat) : Option Bool :=
  (iter (L24_3 N) N ((0, ()), ((0, ()), ()))).bind fun r0 =>
  match r0 with
  | .inl r1 =>
    some r1.1.1
  | .inr r2 =>
    (f20 N r2.2.1.1 1000 1000).bind fun r3 =>
    bif ((r3 == 2) == true) then
      (f22 N r2.2.1.1 2 1000 true).bind fun r4 =>
      some (r4 == 0)
    else some false
def p24_3 : List Pat := [.any, .ptr 0 0, .any, .sc (.int .i64), .any, .any, .any, .any, .any, .any, .any, .any, .any, .any, .any, .any, .any, .any, .any, .any]
def h24_3 : List HPat := [.cells [.sc (.int .i64)]]
def x24_3 : List XP := [⟨.ret, [.sc (.bool), .any, .any, .any, .any, .any, .any, .any, .any, .any, .any, .any, .any, .any, .any, .any, .any, .any, .any, .any], []⟩, ⟨.exit 0, [.any, .ptr 0 0, .any, .any, .any, .any, .any, .any, .any, .any, .any, .any, .any, .any, .any, .any, .any, .any, .any, .any], [.cells [.sc (.int .i64)]]⟩]
def lc24_3 (N : Nat) : LC := mkLC p24_3 h24_3 x24_3 (L24_3 N)
def s24 (N : Nat) : List (Nat × LC) := [(3, lc24_3 N)]
noncomputable def e24 (N : Nat) : Env := mkEnv Try.prog o23 (s24 N) N
theorem k24_3 (N : Nat) : LCOK (e24 N) 12 (loopAt Try.prog 24 0) (lc24_3 N) := mkLC_ok (by kernel_rfl) (by kernel_rfl) (fun F x => by kernel_rfl)
theorem q24 (N : Nat) : LoopsFor (e24 N) Try.prog 24 1 := ⟨by kernel_rfl, fun j hj => match j, hj with
  | 0, _ => ⟨lc24_3 N, by kernel_rfl, k24_3 N⟩
  | _ + 1, h => absurd h (by omega)⟩
def c24 : FC := mkF [] [.sc (.bool)] f24
theorem t24 (N : Nat) : FCOK Try.prog N 24 c24 := fun_ok facts (ok23 N) (by kernel_rfl) (by kernel_rfl) (q24 N) (fun t => by kernel_rfl)
def o24 : List (Nat × FC) := (24, c24) :: o23
theorem ok24 (N : Nat) : OrcOK Try.prog o24 N := orc_cons (t24 N) (ok23 N)
def f5 (N : Nat) (a0 : Int) (a1 : (Int × (Int × Int))) (a2 : Bool) : Option Bool :=
  (f20 N a0 a1.1 a1.2.1).bind fun r0 =>
  (f21 N a0 a1.1 a1.2.1).bind fun r1 =>
  bif ((r0 == r1) == true) then
    (f22 N a0 (Int.tmod a1.2.2 4) a1.1 a2).bind fun r2 =>
    (f23 N a0 (Int.tmod a1.2.2 4) a1.1 a2).bind fun r3 =>
    bif (((r2 == r3) && true) == true) then
      (f24 N).bind fun r4 =>
      some r4
    else some false
  else some false
def s5 (_ : Nat) : List (Nat × LC) := []
noncomputable def e5 (N : Nat) : Env := mkEnv Try.prog o24 (s5 N) N
theorem q5 (N : Nat) : LoopsFor (e5 N) Try.prog 5 0 := ⟨by kernel_rfl, fun j hj => match j, hj with
  | _ + 0, h => absurd h (by omega)⟩
theorem okL5 (N : Nat) : OrcOK Try.prog o24 N := ok24 N
theorem w5 (N : Nat) (x : RT [.agg [.int .i64], .agg [.int .i64, .int .i64, .int .i64], .sc (.bool)]) : uncR [.agg [.int .i64], .agg [.int .i64, .int .i64, .int .i64], .sc (.bool)] (f5 N) x = evFn (e5 N) 13 5 (encA 0 [.agg [.int .i64], .agg [.int .i64, .int .i64, .int .i64], .sc (.bool)] x).1 (encA 0 [.agg [.int .i64], .agg [.int .i64, .int .i64, .int .i64], .sc (.bool)] x).2 (decR [.sc .bool]) := by kernel_rfl
def L6_5 (N : Nat) (F : ((Int × (Int × Unit)) × ((List (Int × Int)) × ((List Int) × ((Int × Unit) × ((List Int) × ((List Int) × Unit)))))) → Option (((Bool × Unit) × Unit) ⊕ (Unit × ((List Int) × ((List Int) × Unit))))) (x : ((Int × (Int × Unit)) × ((List (Int × Int)) × ((List Int) × ((Int × Unit) × ((List Int) × ((List Int) × Unit))))))) : Option (((Bool × Unit) × Unit) ⊕ (Unit × ((List Int) × ((List Int) × Unit)))) :=
  bif ((decide (x.1.2.1 < (((x.2.1).length : Nat) : Int))) == true) then
    bif (decide (x.1.2.1 < 120)) then
      bif (decide (x.1.1 < (((x.2.2.1).length : Nat) : Int))) then
        bif ((decide ((0 : Int) ≤ x.1.1)) && (decide (x.1.1 < (((x.2.2.1).length : Nat) : Int)))) then
          bif ((decide ((0 : Int) ≤ x.1.2.1)) && (decide (x.1.2.1 < (((x.2.1).length : Nat) : Int)))) then
            bif ((decide ((0 : Int) ≤ x.1.2.1)) && (decide (x.1.2.1 < (((x.2.1).length : Nat) : Int)))) then
              (f20 N x.2.2.2.1.1 (IntKind.wrap .i64 ((IntKind.wrap .i64 (x.2.1.getD (x.1.2.1).toNat (0, 0)).1) * (IntKind.wrap .i64 (Int.tmod (x.2.1.getD (x.1.2.1).toNat (0, 0)).2 2)))) (IntKind.wrap .i64 ((IntKind.wrap .i64 (x.2.2.1.getD (x.1.1).toNat 0)) + 1))).bind fun r0 =>
              bif (r0 == 1) then
                bif ((IntKind.wrap .i64 ((IntKind.wrap .i64 (x.2.1.getD (x.1.2.1).toNat (0, 0)).1) * (IntKind.wrap .i64 (Int.tmod (x.2.1.getD (x.1.2.1).toNat (0, 0)).2 2)))) == 0) then
                  some (.inl ((false, ()), ()))
                else bif (decide ((((x.2.2.2.2.1).length + (([(IntKind.wrap .i64 ((IntKind.wrap .i64 (x.2.1.getD (x.1.2.1).toNat (0, 0)).1) * (IntKind.wrap .i64 (Int.tmod (x.2.1.getD (x.1.2.1).toNat (0, 0)).2 2))))] : List Int)).length) * 8) ≤ 140737488355328)) then
                  bif (decide ((((x.2.2.2.2.2.1).length + (([0] : List Int)).length) * 8) ≤ 140737488355328)) then
                    (f22 N x.2.2.2.1.1 r0 (IntKind.wrap .i64 ((IntKind.wrap .i64 (x.2.1.getD (x.1.2.1).toNat (0, 0)).1) * (IntKind.wrap .i64 (Int.tmod (x.2.1.getD (x.1.2.1).toNat (0, 0)).2 2)))) true).bind fun r1 =>
                    F ((x.1.1, ((IntKind.wrap .i64 (x.1.2.1 + 1)), ())), (x.2.1, (x.2.2.1, ((r1, ()), ((x.2.2.2.2.1 ++ ([(IntKind.wrap .i64 ((IntKind.wrap .i64 (x.2.1.getD (x.1.2.1).toNat (0, 0)).1) * (IntKind.wrap .i64 (Int.tmod (x.2.1.getD (x.1.2.1).toNat (0, 0)).2 2))))] : List Int)), ((x.2.2.2.2.2.1 ++ ([0] : List Int)), ()))))))
                  else none
                else none
              else bif (r0 == 2) then
                bif (decide ((((x.2.2.2.2.1).length + (([0] : List Int)).length) * 8) ≤ 140737488355328)) then
                  bif (decide ((((x.2.2.2.2.2.1).length + (([(IntKind.wrap .i64 ((IntKind.wrap .i64 (x.2.2.1.getD (x.1.1).toNat 0)) + 1))] : List Int)).length) * 8) ≤ 140737488355328)) then
                    (f22 N x.2.2.2.1.1 r0 (IntKind.wrap .i64 ((IntKind.wrap .i64 (x.2.2.1.getD (x.1.1).toNat 0)) + 1)) true).bind fun r2 =>
                    F (((IntKind.wrap .i64 (x.1.1 + 1)), ((IntKind.wrap .i64 (x.1.2.1 + 1)), ())), (x.2.1, (x.2.2.1, ((r2, ()), ((x.2.2.2.2.1 ++ ([0] : List Int)), ((x.2.2.2.2.2.1 ++ ([(IntKind.wrap .i64 ((IntKind.wrap .i64 (x.2.2.1.getD (x.1.1).toNat 0)) + 1))] : List Int)), ()))))))
                  else none
                else none
              else some (.inl ((false, ()), ()))
            else none
          else none
        else none
      else bif ((decide ((0 : Int) ≤ x.1.2.1)) && (decide (x.1.2.1 < (((x.2.1).length : Nat) : Int)))) then
        bif ((decide ((0 : Int) ≤ x.1.2.1)) && (decide (x.1.2.1 < (((x.2.1).length : Nat) : Int)))) then
          (f20 N x.2.2.2.1.1 (IntKind.wrap .i64 ((IntKind.wrap .i64 (x.2.1.getD (x.1.2.1).toNat (0, 0)).1) * (IntKind.wrap .i64 (Int.tmod (x.2.1.getD (x.1.2.1).toNat (0, 0)).2 2)))) 1500).bind fun r3 =>
          bif (r3 == 1) then
            bif ((IntKind.wrap .i64 ((IntKind.wrap .i64 (x.2.1.getD (x.1.2.1).toNat (0, 0)).1) * (IntKind.wrap .i64 (Int.tmod (x.2.1.getD (x.1.2.1).toNat (0, 0)).2 2)))) == 0) then
              some (.inl ((false, ()), ()))
            else bif (decide ((((x.2.2.2.2.1).length + (([(IntKind.wrap .i64 ((IntKind.wrap .i64 (x.2.1.getD (x.1.2.1).toNat (0, 0)).1) * (IntKind.wrap .i64 (Int.tmod (x.2.1.getD (x.1.2.1).toNat (0, 0)).2 2))))] : List Int)).length) * 8) ≤ 140737488355328)) then
              bif (decide ((((x.2.2.2.2.2.1).length + (([0] : List Int)).length) * 8) ≤ 140737488355328)) then
                (f22 N x.2.2.2.1.1 r3 (IntKind.wrap .i64 ((IntKind.wrap .i64 (x.2.1.getD (x.1.2.1).toNat (0, 0)).1) * (IntKind.wrap .i64 (Int.tmod (x.2.1.getD (x.1.2.1).toNat (0, 0)).2 2)))) true).bind fun r4 =>
                F ((x.1.1, ((IntKind.wrap .i64 (x.1.2.1 + 1)), ())), (x.2.1, (x.2.2.1, ((r4, ()), ((x.2.2.2.2.1 ++ ([(IntKind.wrap .i64 ((IntKind.wrap .i64 (x.2.1.getD (x.1.2.1).toNat (0, 0)).1) * (IntKind.wrap .i64 (Int.tmod (x.2.1.getD (x.1.2.1).toNat (0, 0)).2 2))))] : List Int)), ((x.2.2.2.2.2.1 ++ ([0] : List Int)), ()))))))
              else none
            else none
          else bif (r3 == 2) then
            bif (decide ((((x.2.2.2.2.1).length + (([0] : List Int)).length) * 8) ≤ 140737488355328)) then
              bif (decide ((((x.2.2.2.2.2.1).length + (([1500] : List Int)).length) * 8) ≤ 140737488355328)) then
                (f22 N x.2.2.2.1.1 r3 1500 true).bind fun r5 =>
                F (((IntKind.wrap .i64 (x.1.1 + 1)), ((IntKind.wrap .i64 (x.1.2.1 + 1)), ())), (x.2.1, (x.2.2.1, ((r5, ()), ((x.2.2.2.2.1 ++ ([0] : List Int)), ((x.2.2.2.2.2.1 ++ ([1500] : List Int)), ()))))))
              else none
            else none
          else some (.inl ((false, ()), ()))
        else none
      else none
    else some (.inr ((), (x.2.2.2.2.1, (x.2.2.2.2.2.1, ()))))
  else some (.inr ((), (x.2.2.2.2.1, (x.2.2.2.2.2.1, ()))))
def L6_28 (_N : Nat) (F : ((Int × (Int × (Int × (Int × (Int × Unit))))) × ((List Int) × ((List Int) × Unit))) → Option (((Bool × Unit) × Unit) ⊕ ((Int × (Int × Unit)) × ((List Int) × ((List Int) × Unit))))) (x : ((Int × (Int × (Int × (Int × (Int × Unit))))) × ((List Int) × ((List Int) × Unit)))) : Option (((Bool × Unit) × Unit) ⊕ ((Int × (Int × Unit)) × ((List Int) × ((List Int) × Unit)))) :=
  bif (decide (x.1.2.2.1 < (((x.2.1).length : Nat) : Int))) then
    bif ((decide ((0 : Int) ≤ x.1.2.2.1)) && (decide (x.1.2.2.1 < (((x.2.1).length : Nat) : Int)))) then
      bif ((decide ((0 : Int) ≤ x.1.2.2.1)) && (decide (x.1.2.2.1 < (((x.2.2.1).length : Nat) : Int)))) then
        bif (decide ((IntKind.wrap .i64 ((IntKind.wrap .i64 (16 * (IntKind.wrap .i64 (x.1.2.1 + (x.2.2.1.getD (x.1.2.2.1).toNat 0))))) + 1048576)) < (IntKind.wrap .i64 ((IntKind.wrap .i64 (x.1.1 + (x.2.1.getD (x.1.2.2.1).toNat 0))) + (IntKind.wrap .i64 (x.1.2.1 + (x.2.2.1.getD (x.1.2.2.1).toNat 0))))))) then
          some (.inl ((false, ()), ()))
        else F (((IntKind.wrap .i64 (x.1.1 + (x.2.1.getD (x.1.2.2.1).toNat 0))), ((IntKind.wrap .i64 (x.1.2.1 + (x.2.2.1.getD (x.1.2.2.1).toNat 0))), ((IntKind.wrap .i64 (x.1.2.2.1 + 1)), (x.1.2.2.2.1, (x.1.2.2.2.2.1, ()))))), (x.2.1, (x.2.2.1, ())))
      else none
    else none
  else some (.inr ((x.1.2.2.2.1, (x.1.2.2.2.2.1, ())), (x.2.1, (x.2.2.1, ()))))
def L6_24 (N : Nat) (F : ((Int × (Int × Unit)) × ((List Int) × ((List Int) × Unit))) → Option (((Bool × Unit) × Unit) ⊕ (Unit × Unit))) (x : ((Int × (Int × Unit)) × ((List Int) × ((List Int) × Unit)))) : Option (((Bool × Unit) × Unit) ⊕ (Unit × Unit)) :=
  bif (decide (x.1.2.1 < x.1.1)) then
    (iter (L6_28 N) N ((0, (0, (x.1.2.1, (x.1.1, (x.1.2.1, ()))))), (x.2.1, (x.2.2.1, ())))).bind fun r0 =>
    match r0 with
    | .inl r1 =>
      some (.inl ((r1.1.1, ()), ()))
    | .inr r2 =>
      F ((r2.1.1, ((IntKind.wrap .i64 (r2.1.2.1 + 1)), ())), (r2.2.1, (r2.2.2.1, ())))
  else some (.inr ((), ()))
def f6 (N : Nat) (a0 : (List (Int × Int))) (a1 : (List Int)) : Option Bool :=
  (iter (L6_5 N) N ((0, (0, ())), (a0, (a1, ((0, ()), (([] : List Int), (([] : List Int), ()))))))).bind fun r0 =>
  match r0 with
  | .inl r1 =>
    some r1.1.1
  | .inr r2 =>
    (iter (L6_24 N) N (((((r2.2.1).length : Nat) : Int), (0, ())), (r2.2.1, (r2.2.2.1, ())))).bind fun r3 =>
    match r3 with
    | .inl r4 =>
      some r4.1.1
    | .inr _ =>
      (f24 N).bind fun r6 =>
      some r6
def p6_5 : List Pat := [.sl 0, .sl 1, .any, .any, .any, .ptr 2 0, .sl 3, .sl 4, .sc (.int .i64), .sc (.int .i64), .any, .any, .any, .any, .any, .any, .any, .any, .any, .any, .any, .any, .any, .any, .any, .any, .any, .any, .any, .any, .any, .any, .any, .any, .any, .any, .any, .any, .any, .any, .any, .any, .any, .any, .any, .any, .any, .any, .any, .any, .any, .any, .any, .any, .any, .any, .any, .any, .any, .any, .any, .any, .any, .any, .any, .any, .any, .any, .any, .any, .any, .any, .any, .any, .any, .any, .any, .any, .any, .any, .any, .any, .any, .any, .any, .any, .any, .any, .any, .any, .any, .any, .any, .any, .any, .any, .any, .any, .any, .any, .any, .any, .any, .any, .any, .any, .any, .any, .any, .any, .any, .any, .any, .any, .any, .any, .any, .any, .any, .any]
def h6_5 : List HPat := [.ext 43 [.int .u16, .int .u16], .ext 42 [.int .u16], .cells [.sc (.int .i64)], .rows 2 [.int .i64], .rows 2 [.int .i64]]
def x6_5 : List XP := [⟨.ret, [.any, .any, .any, .any, .sc (.bool), .any, .any, .any, .any, .any, .any, .any, .any, .any, .any, .any, .any, .any, .any, .any, .any, .any, .any, .any, .any, .any, .any, .any, .any, .any, .any, .any, .any, .any, .any, .any, .any, .any, .any, .any, .any, .any, .any, .any, .any, .any, .any, .any, .any, .any, .any, .any, .any, .any, .any, .any, .any, .any, .any, .any, .any, .any, .any, .any, .any, .any, .any, .any, .any, .any, .any, .any, .any, .any, .any, .any, .any, .any, .any, .any, .any, .any, .any, .any, .any, .any, .any, .any, .any, .any, .any, .any, .any, .any, .any, .any, .any, .any, .any, .any, .any, .any, .any, .any, .any, .any, .any, .any, .any, .any, .any, .any, .any, .any, .any, .any, .any, .any, .any, .any], []⟩, ⟨.exit 0, [.any, .any, .any, .any, .any, .any, .sl 0, .sl 1, .any, .any, .any, .any, .any, .any, .any, .any, .any, .any, .any, .any, .any, .any, .any, .any, .any, .any, .any, .any, .any, .any, .any, .any, .any, .any, .any, .any, .any, .any, .any, .any, .any, .any, .any, .any, .any, .any, .any, .any, .any, .any, .any, .any, .any, .any, .any, .any, .any, .any, .any, .any, .any, .any, .any, .any, .any, .any, .any, .any, .any, .any, .any, .any, .any, .any, .any, .any, .any, .any, .any, .any, .any, .any, .any, .any, .any, .any, .any, .any, .any, .any, .any, .any, .any, .any, .any, .any, .any, .any, .any, .any, .any, .any, .any, .any, .any, .any, .any, .any, .any, .any, .any, .any, .any, .any, .any, .any, .any, .any, .any, .any], [.rows 2 [.int .i64], .rows 2 [.int .i64]]⟩]
def lc6_5 (N : Nat) : LC := mkLC p6_5 h6_5 x6_5 (L6_5 N)
def p6_28 : List Pat := [.any, .any, .any, .any, .any, .any, .sl 0, .sl 1, .any, .any, .any, .any, .any, .any, .sc (.int .i64), .sc (.int .i64), .sc (.int .i64), .any, .any, .any, .any, .any, .any, .any, .any, .any, .any, .any, .any, .any, .any, .any, .any, .any, .any, .any, .any, .any, .any, .any, .any, .any, .any, .any, .any, .any, .any, .any, .any, .any, .any, .any, .any, .any, .any, .any, .any, .any, .any, .any, .any, .any, .any, .any, .any, .any, .any, .any, .any, .any, .any, .any, .any, .any, .any, .any, .any, .any, .any, .any, .any, .any, .any, .any, .any, .any, .any, .any, .sc (.int .i64), .sc (.int .i64), .any, .any, .any, .any, .any, .any, .any, .any, .any, .any, .any, .any, .any, .any, .any, .any, .any, .any, .any, .any, .any, .any, .any, .any, .any, .any, .any, .any, .any, .any]
def h6_28 : List HPat := [.rows 2 [.int .i64], .rows 2 [.int .i64]]
def x6_28 : List XP := [⟨.ret, [.any, .any, .any, .any, .sc (.bool), .any, .any, .any, .any, .any, .any, .any, .any, .any, .any, .any, .any, .any, .any, .any, .any, .any, .any, .any, .any, .any, .any, .any, .any, .any, .any, .any, .any, .any, .any, .any, .any, .any, .any, .any, .any, .any, .any, .any, .any, .any, .any, .any, .any, .any, .any, .any, .any, .any, .any, .any, .any, .any, .any, .any, .any, .any, .any, .any, .any, .any, .any, .any, .any, .any, .any, .any, .any, .any, .any, .any, .any, .any, .any, .any, .any, .any, .any, .any, .any, .any, .any, .any, .any, .any, .any, .any, .any, .any, .any, .any, .any, .any, .any, .any, .any, .any, .any, .any, .any, .any, .any, .any, .any, .any, .any, .any, .any, .any, .any, .any, .any, .any, .any, .any], []⟩, ⟨.exit 5, [.any, .any, .any, .any, .any, .any, .sl 0, .sl 1, .any, .any, .any, .any, .any, .any, .any, .any, .any, .any, .any, .any, .any, .any, .any, .any, .any, .any, .any, .any, .any, .any, .any, .any, .any, .any, .any, .any, .any, .any, .any, .any, .any, .any, .any, .any, .any, .any, .any, .any, .any, .any, .any, .any, .any, .any, .any, .any, .any, .any, .any, .any, .any, .any, .any, .any, .any, .any, .any, .any, .any, .any, .any, .any, .any, .any, .any, .any, .any, .any, .any, .any, .any, .any, .any, .any, .any, .any, .any, .any, .sc (.int .i64), .sc (.int .i64), .any, .any, .any, .any, .any, .any, .any, .any, .any, .any, .any, .any, .any, .any, .any, .any, .any, .any, .any, .any, .any, .any, .any, .any, .any, .any, .any, .any, .any, .any], [.rows 2 [.int .i64], .rows 2 [.int .i64]]⟩]
def lc6_28 (N : Nat) : LC := mkLC p6_28 h6_28 x6_28 (L6_28 N)
def p6_24 : List Pat := [.any, .any, .any, .any, .any, .any, .sl 0, .sl 1, .any, .any, .any, .any, .any, .any, .any, .any, .any, .any, .any, .any, .any, .any, .any, .any, .any, .any, .any, .any, .any, .any, .any, .any, .any, .any, .any, .any, .any, .any, .any, .any, .any, .any, .any, .any, .any, .any, .any, .any, .any, .any, .any, .any, .any, .any, .any, .any, .any, .any, .any, .any, .any, .any, .any, .any, .any, .any, .any, .any, .any, .any, .any, .any, .any, .any, .any, .any, .any, .any, .any, .any, .any, .any, .any, .any, .any, .any, .any, .any, .sc (.int .i64), .sc (.int .i64), .any, .any, .any, .any, .any, .any, .any, .any, .any, .any, .any, .any, .any, .any, .any, .any, .any, .any, .any, .any, .any, .any, .any, .any, .any, .any, .any, .any, .any, .any]
def h6_24 : List HPat := [.rows 2 [.int .i64], .rows 2 [.int .i64]]
def x6_24 : List XP := [⟨.ret, [.any, .any, .any, .any, .sc (.bool), .any, .any, .any, .any, .any, .any, .any, .any, .any, .any, .any, .any, .any, .any, .any, .any, .any, .any, .any, .any, .any, .any, .any, .any, .any, .any, .any, .any, .any, .any, .any, .any, .any, .any, .any, .any, .any, .any, .any, .any, .any, .any, .any, .any, .any, .any, .any, .any, .any, .any, .any, .any, .any, .any, .any, .any, .any, .any, .any, .any, .any, .any, .any, .any, .any, .any, .any, .any, .any, .any, .any, .any, .any, .any, .any, .any, .any, .any, .any, .any, .any, .any, .any, .any, .any, .any, .any, .any, .any, .any, .any, .any, .any, .any, .any, .any, .any, .any, .any, .any, .any, .any, .any, .any, .any, .any, .any, .any, .any, .any, .any, .any, .any, .any, .any], []⟩, ⟨.exit 3, [.any, .any, .any, .any, .any, .any, .any, .any, .any, .any, .any, .any, .any, .any, .any, .any, .any, .any, .any, .any, .any, .any, .any, .any, .any, .any, .any, .any, .any, .any, .any, .any, .any, .any, .any, .any, .any, .any, .any, .any, .any, .any, .any, .any, .any, .any, .any, .any, .any, .any, .any, .any, .any, .any, .any, .any, .any, .any, .any, .any, .any, .any, .any, .any, .any, .any, .any, .any, .any, .any, .any, .any, .any, .any, .any, .any, .any, .any, .any, .any, .any, .any, .any, .any, .any, .any, .any, .any, .any, .any, .any, .any, .any, .any, .any, .any, .any, .any, .any, .any, .any, .any, .any, .any, .any, .any, .any, .any, .any, .any, .any, .any, .any, .any, .any, .any, .any, .any, .any, .any], []⟩]
def lc6_24 (N : Nat) : LC := mkLC p6_24 h6_24 x6_24 (L6_24 N)
def s6 (N : Nat) : List (Nat × LC) := [(5, lc6_5 N), (28, lc6_28 N), (24, lc6_24 N)]
noncomputable def e6 (N : Nat) : Env := mkEnv Try.prog o24 (s6 N) N
theorem k6_5 (N : Nat) : LCOK (e6 N) 12 (loopAt Try.prog 6 0) (lc6_5 N) := mkLC_ok (by kernel_rfl) (by kernel_rfl) (fun F x => by kernel_rfl)
theorem k6_28 (N : Nat) : LCOK (e6 N) 12 (loopAt Try.prog 6 2) (lc6_28 N) := mkLC_ok (by kernel_rfl) (by kernel_rfl) (fun F x => by kernel_rfl)
theorem k6_24 (N : Nat) : LCOK (e6 N) 12 (loopAt Try.prog 6 1) (lc6_24 N) := mkLC_ok (by kernel_rfl) (by kernel_rfl) (fun F x => by kernel_rfl)
theorem q6 (N : Nat) : LoopsFor (e6 N) Try.prog 6 3 := ⟨by kernel_rfl, fun j hj => match j, hj with
  | 0, _ => ⟨lc6_5 N, by kernel_rfl, k6_5 N⟩
  | 1, _ => ⟨lc6_24 N, by kernel_rfl, k6_24 N⟩
  | 2, _ => ⟨lc6_28 N, by kernel_rfl, k6_28 N⟩
  | _ + 3, h => absurd h (by omega)⟩
theorem okL6 (N : Nat) : OrcOK Try.prog o24 N := ok24 N
theorem w6 (N : Nat) (x : RT [.row 43 [.int .u16, .int .u16], .row 42 [.int .u16]]) : uncR [.row 43 [.int .u16, .int .u16], .row 42 [.int .u16]] (f6 N) x = evFn (e6 N) 13 6 (encA 0 [.row 43 [.int .u16, .int .u16], .row 42 [.int .u16]] x).1 (encA 0 [.row 43 [.int .u16, .int .u16], .row 42 [.int .u16]] x).2 (decR [.sc .bool]) := by kernel_rfl
def f51 (N : Nat) (a0 : Int) : Option Int :=
  (f44 N a0 0 67108864).bind fun r0 =>
  some r0
def s51 (_ : Nat) : List (Nat × LC) := []
noncomputable def e51 (N : Nat) : Env := mkEnv Try.prog o24 (s51 N) N
theorem q51 (N : Nat) : LoopsFor (e51 N) Try.prog 51 0 := ⟨by kernel_rfl, fun j hj => match j, hj with
  | _ + 0, h => absurd h (by omega)⟩
def c51 : FC := mkF [.sc (.int .i64)] [.sc (.int .i64)] f51
theorem t51 (N : Nat) : FCOK Try.prog N 51 c51 := fun_ok facts (ok24 N) (by kernel_rfl) (by kernel_rfl) (q51 N) (fun t => by kernel_rfl)
def o51 : List (Nat × FC) := (51, c51) :: o24
theorem ok51 (N : Nat) : OrcOK Try.prog o51 N := orc_cons (t51 N) (ok24 N)
def f80 (_N : Nat) (a0 : Int) (a1 : Int) : Option (Int × Int) :=
  some ((IntKind.wrap .u64 ((IntKind.wrap .u64 ((IntKind.wrap .u64 ((Int.fdiv a0 4294967296) * (Int.fdiv a1 4294967296))) + (Int.fdiv (IntKind.wrap .u64 ((IntKind.wrap .u64 ((Int.fdiv a0 4294967296) * (bits .and .u64 a1 4294967295))) + (Int.fdiv (IntKind.wrap .u64 ((bits .and .u64 a0 4294967295) * (bits .and .u64 a1 4294967295))) 4294967296))) 4294967296))) + (Int.fdiv (IntKind.wrap .u64 ((bits .and .u64 (IntKind.wrap .u64 ((IntKind.wrap .u64 ((Int.fdiv a0 4294967296) * (bits .and .u64 a1 4294967295))) + (Int.fdiv (IntKind.wrap .u64 ((bits .and .u64 a0 4294967295) * (bits .and .u64 a1 4294967295))) 4294967296))) 4294967295) + (IntKind.wrap .u64 ((bits .and .u64 a0 4294967295) * (Int.fdiv a1 4294967296))))) 4294967296))), (IntKind.wrap .u64 (a0 * a1)))
def s80 (_ : Nat) : List (Nat × LC) := []
noncomputable def e80 (N : Nat) : Env := mkEnv Try.prog o51 (s80 N) N
theorem q80 (N : Nat) : LoopsFor (e80 N) Try.prog 80 0 := ⟨by kernel_rfl, fun j hj => match j, hj with
  | _ + 0, h => absurd h (by omega)⟩
def c80 : FC := mkF [.sc (.int .u64), .sc (.int .u64)] [.sc (.int .u64), .sc (.int .u64)] f80
theorem t80 (N : Nat) : FCOK Try.prog N 80 c80 := fun_ok facts (ok51 N) (by kernel_rfl) (by kernel_rfl) (q80 N) (fun t => by kernel_rfl)
def o80 : List (Nat × FC) := (80, c80) :: o51
theorem ok80 (N : Nat) : OrcOK Try.prog o80 N := orc_cons (t80 N) (ok51 N)
def f75 (N : Nat) (a0 : Int) (a1 : Int) : Option (Int × Int) :=
  (f80 N a0 a1).bind fun r0 =>
  some r0
def s75 (_ : Nat) : List (Nat × LC) := []
noncomputable def e75 (N : Nat) : Env := mkEnv Try.prog o80 (s75 N) N
theorem q75 (N : Nat) : LoopsFor (e75 N) Try.prog 75 0 := ⟨by kernel_rfl, fun j hj => match j, hj with
  | _ + 0, h => absurd h (by omega)⟩
def c75 : FC := mkF [.sc (.int .u64), .sc (.int .u64)] [.agg [.int .u64, .int .u64]] f75
theorem t75 (N : Nat) : FCOK Try.prog N 75 c75 := fun_ok facts (ok80 N) (by kernel_rfl) (by kernel_rfl) (q75 N) (fun t => by kernel_rfl)
def o75 : List (Nat × FC) := (75, c75) :: o80
theorem ok75 (N : Nat) : OrcOK Try.prog o75 N := orc_cons (t75 N) (ok80 N)
def tab0 : ByteArray := bytesL [0, 1, 2, 2, 3, 3, 3, 3, 4, 4, 4, 4, 4, 4, 4, 4, 5, 5, 5, 5, 5, 5, 5, 5, 5, 5, 5, 5, 5, 5, 5, 5, 6, 6, 6, 6, 6, 6, 6, 6, 6, 6, 6, 6, 6, 6, 6, 6, 6, 6, 6, 6, 6, 6, 6, 6, 6, 6, 6, 6, 6, 6, 6, 6, 7, 7, 7, 7, 7, 7, 7, 7, 7, 7, 7, 7, 7, 7, 7, 7, 7, 7, 7, 7, 7, 7, 7, 7, 7, 7, 7, 7, 7, 7, 7, 7, 7, 7, 7, 7, 7, 7, 7, 7, 7, 7, 7, 7, 7, 7, 7, 7, 7, 7, 7, 7, 7, 7, 7, 7, 7, 7, 7, 7, 7, 7, 7, 7, 8, 8, 8, 8, 8, 8, 8, 8, 8, 8, 8, 8, 8, 8, 8, 8, 8, 8, 8, 8, 8, 8, 8, 8, 8, 8, 8, 8, 8, 8, 8, 8, 8, 8, 8, 8, 8, 8, 8, 8, 8, 8, 8, 8, 8, 8, 8, 8, 8, 8, 8, 8, 8, 8, 8, 8, 8, 8, 8, 8, 8, 8, 8, 8, 8, 8, 8, 8, 8, 8, 8, 8, 8, 8, 8, 8, 8, 8, 8, 8, 8, 8, 8, 8, 8, 8, 8, 8, 8, 8, 8, 8, 8, 8, 8, 8, 8, 8, 8, 8, 8, 8, 8, 8, 8, 8, 8, 8, 8, 8, 8, 8, 8, 8, 8, 8, 8, 8, 8, 8, 8, 8, 8, 8, 8, 8, 8, 8]
def f92 (_N : Nat) (a0 : Int) : Option Int :=
  bif (decide ((4294967296 : Int) ≤ a0)) then
    bif (decide ((65536 : Int) ≤ (Int.fdiv a0 4294967296))) then
      bif (decide ((256 : Int) ≤ (Int.fdiv (Int.fdiv a0 4294967296) 65536))) then
        bif ((decide ((0 : Int) ≤ (IntKind.wrap .u8 (Int.fdiv (Int.fdiv (Int.fdiv a0 4294967296) 65536) 256)))) && (decide ((IntKind.wrap .u8 (Int.fdiv (Int.fdiv (Int.fdiv a0 4294967296) 65536) 256)) < (((tab0).size : Nat) : Int)))) then
          some (IntKind.wrap .i64 (56 + (IntKind.wrap .i64 (byteAt tab0 (IntKind.wrap .u8 (Int.fdiv (Int.fdiv (Int.fdiv a0 4294967296) 65536) 256))))))
        else none
      else bif ((decide ((0 : Int) ≤ (IntKind.wrap .u8 (Int.fdiv (Int.fdiv a0 4294967296) 65536)))) && (decide ((IntKind.wrap .u8 (Int.fdiv (Int.fdiv a0 4294967296) 65536)) < (((tab0).size : Nat) : Int)))) then
        some (IntKind.wrap .i64 (48 + (IntKind.wrap .i64 (byteAt tab0 (IntKind.wrap .u8 (Int.fdiv (Int.fdiv a0 4294967296) 65536))))))
      else none
    else bif (decide ((256 : Int) ≤ (Int.fdiv a0 4294967296))) then
      bif ((decide ((0 : Int) ≤ (IntKind.wrap .u8 (Int.fdiv (Int.fdiv a0 4294967296) 256)))) && (decide ((IntKind.wrap .u8 (Int.fdiv (Int.fdiv a0 4294967296) 256)) < (((tab0).size : Nat) : Int)))) then
        some (IntKind.wrap .i64 (40 + (IntKind.wrap .i64 (byteAt tab0 (IntKind.wrap .u8 (Int.fdiv (Int.fdiv a0 4294967296) 256))))))
      else none
    else bif ((decide ((0 : Int) ≤ (IntKind.wrap .u8 (Int.fdiv a0 4294967296)))) && (decide ((IntKind.wrap .u8 (Int.fdiv a0 4294967296)) < (((tab0).size : Nat) : Int)))) then
      some (IntKind.wrap .i64 (32 + (IntKind.wrap .i64 (byteAt tab0 (IntKind.wrap .u8 (Int.fdiv a0 4294967296))))))
    else none
  else bif (decide ((65536 : Int) ≤ a0)) then
    bif (decide ((256 : Int) ≤ (Int.fdiv a0 65536))) then
      bif ((decide ((0 : Int) ≤ (IntKind.wrap .u8 (Int.fdiv (Int.fdiv a0 65536) 256)))) && (decide ((IntKind.wrap .u8 (Int.fdiv (Int.fdiv a0 65536) 256)) < (((tab0).size : Nat) : Int)))) then
        some (IntKind.wrap .i64 (24 + (IntKind.wrap .i64 (byteAt tab0 (IntKind.wrap .u8 (Int.fdiv (Int.fdiv a0 65536) 256))))))
      else none
    else bif ((decide ((0 : Int) ≤ (IntKind.wrap .u8 (Int.fdiv a0 65536)))) && (decide ((IntKind.wrap .u8 (Int.fdiv a0 65536)) < (((tab0).size : Nat) : Int)))) then
      some (IntKind.wrap .i64 (16 + (IntKind.wrap .i64 (byteAt tab0 (IntKind.wrap .u8 (Int.fdiv a0 65536))))))
    else none
  else bif (decide ((256 : Int) ≤ a0)) then
    bif ((decide ((0 : Int) ≤ (IntKind.wrap .u8 (Int.fdiv a0 256)))) && (decide ((IntKind.wrap .u8 (Int.fdiv a0 256)) < (((tab0).size : Nat) : Int)))) then
      some (IntKind.wrap .i64 (8 + (IntKind.wrap .i64 (byteAt tab0 (IntKind.wrap .u8 (Int.fdiv a0 256))))))
    else none
  else bif ((decide ((0 : Int) ≤ (IntKind.wrap .u8 a0))) && (decide ((IntKind.wrap .u8 a0) < (((tab0).size : Nat) : Int)))) then
    some (IntKind.wrap .i64 (0 + (IntKind.wrap .i64 (byteAt tab0 (IntKind.wrap .u8 a0)))))
  else none
def s92 (_ : Nat) : List (Nat × LC) := []
noncomputable def e92 (N : Nat) : Env := mkEnv Try.prog o75 (s92 N) N
theorem q92 (N : Nat) : LoopsFor (e92 N) Try.prog 92 0 := ⟨by kernel_rfl, fun j hj => match j, hj with
  | _ + 0, h => absurd h (by omega)⟩
def c92 : FC := mkF [.sc (.int .u64)] [.sc (.int .i64)] f92
theorem t92 (N : Nat) : FCOK Try.prog N 92 c92 := fun_ok facts (ok75 N) (by kernel_rfl) (by kernel_rfl) (q92 N) (fun t => by kernel_rfl)
def o92 : List (Nat × FC) := (92, c92) :: o75
theorem ok92 (N : Nat) : OrcOK Try.prog o92 N := orc_cons (t92 N) (ok75 N)
def f89 (N : Nat) (a0 : Int) : Option Int :=
  (f92 N a0).bind fun r0 =>
  some (IntKind.wrap .i64 (64 - r0))
def s89 (_ : Nat) : List (Nat × LC) := []
noncomputable def e89 (N : Nat) : Env := mkEnv Try.prog o92 (s89 N) N
theorem q89 (N : Nat) : LoopsFor (e89 N) Try.prog 89 0 := ⟨by kernel_rfl, fun j hj => match j, hj with
  | _ + 0, h => absurd h (by omega)⟩
def c89 : FC := mkF [.sc (.int .u64)] [.sc (.int .i64)] f89
theorem t89 (N : Nat) : FCOK Try.prog N 89 c89 := fun_ok facts (ok92 N) (by kernel_rfl) (by kernel_rfl) (q89 N) (fun t => by kernel_rfl)
def o89 : List (Nat × FC) := (89, c89) :: o92
theorem ok89 (N : Nat) : OrcOK Try.prog o89 N := orc_cons (t89 N) (ok92 N)
def L79_17 (_N : Nat) (F : ((Int × (Int × (Int × (Int × (Int × (Int × (Int × (Int × (Int × Unit))))))))) × Unit) → Option ((Int × (Int × (Int × (Int × (Int × (Int × (Int × (Int × Unit)))))))) × Unit)) (x : ((Int × (Int × (Int × (Int × (Int × (Int × (Int × (Int × (Int × Unit))))))))) × Unit)) : Option ((Int × (Int × (Int × (Int × (Int × (Int × (Int × (Int × Unit)))))))) × Unit) :=
  bif ((decide ((4294967296 : Int) ≤ x.1.2.2.2.2.2.2.2.1)) == false) then
    bif (decide ((IntKind.wrap .u64 ((IntKind.wrap .u64 (4294967296 * x.1.2.2.2.2.2.2.2.2.1)) + x.1.2.2.2.2.2.1)) < (IntKind.wrap .u64 (x.1.2.2.2.2.2.2.2.1 * x.1.2.2.2.1)))) then
      bif (decide ((4294967296 : Int) ≤ (IntKind.wrap .u64 (x.1.2.2.2.2.2.2.2.2.1 + x.1.2.2.1)))) then
        some ((x.1.1, (x.1.2.1, (x.1.2.2.1, (x.1.2.2.2.1, (x.1.2.2.2.2.1, (x.1.2.2.2.2.2.1, (x.1.2.2.2.2.2.2.1, ((IntKind.wrap .u64 (x.1.2.2.2.2.2.2.2.1 - 1)), ())))))))), ())
      else F ((x.1.1, (x.1.2.1, (x.1.2.2.1, (x.1.2.2.2.1, (x.1.2.2.2.2.1, (x.1.2.2.2.2.2.1, (x.1.2.2.2.2.2.2.1, ((IntKind.wrap .u64 (x.1.2.2.2.2.2.2.2.1 - 1)), ((IntKind.wrap .u64 (x.1.2.2.2.2.2.2.2.2.1 + x.1.2.2.1)), ()))))))))), ())
    else some ((x.1.1, (x.1.2.1, (x.1.2.2.1, (x.1.2.2.2.1, (x.1.2.2.2.2.1, (x.1.2.2.2.2.2.1, (x.1.2.2.2.2.2.2.1, (x.1.2.2.2.2.2.2.2.1, ())))))))), ())
  else bif (decide ((4294967296 : Int) ≤ (IntKind.wrap .u64 (x.1.2.2.2.2.2.2.2.2.1 + x.1.2.2.1)))) then
    some ((x.1.1, (x.1.2.1, (x.1.2.2.1, (x.1.2.2.2.1, (x.1.2.2.2.2.1, (x.1.2.2.2.2.2.1, (x.1.2.2.2.2.2.2.1, ((IntKind.wrap .u64 (x.1.2.2.2.2.2.2.2.1 - 1)), ())))))))), ())
  else F ((x.1.1, (x.1.2.1, (x.1.2.2.1, (x.1.2.2.2.1, (x.1.2.2.2.2.1, (x.1.2.2.2.2.2.1, (x.1.2.2.2.2.2.2.1, ((IntKind.wrap .u64 (x.1.2.2.2.2.2.2.2.1 - 1)), ((IntKind.wrap .u64 (x.1.2.2.2.2.2.2.2.2.1 + x.1.2.2.1)), ()))))))))), ())
def L79_24 (_N : Nat) (F : ((Int × (Int × (Int × (Int × (Int × (Int × (Int × (Int × (Int × Unit))))))))) × Unit) → Option ((Int × (Int × (Int × (Int × (Int × (Int × Unit)))))) × Unit)) (x : ((Int × (Int × (Int × (Int × (Int × (Int × (Int × (Int × (Int × Unit))))))))) × Unit)) : Option ((Int × (Int × (Int × (Int × (Int × (Int × Unit)))))) × Unit) :=
  bif ((decide ((4294967296 : Int) ≤ x.1.2.2.2.2.2.2.2.2.1)) == false) then
    bif (decide ((IntKind.wrap .u64 ((IntKind.wrap .u64 (4294967296 * x.1.2.2.2.2.2.2.1)) + x.1.2.2.2.2.1)) < (IntKind.wrap .u64 (x.1.2.2.2.2.2.2.2.2.1 * x.1.2.2.2.1)))) then
      bif (decide ((4294967296 : Int) ≤ (IntKind.wrap .u64 (x.1.2.2.2.2.2.2.1 + x.1.2.2.1)))) then
        some ((x.1.1, (x.1.2.1, (x.1.2.2.2.2.1, (x.1.2.2.2.2.2.1, (x.1.2.2.2.2.2.2.2.1, ((IntKind.wrap .u64 (x.1.2.2.2.2.2.2.2.2.1 - 1)), ())))))), ())
      else F ((x.1.1, (x.1.2.1, (x.1.2.2.1, (x.1.2.2.2.1, (x.1.2.2.2.2.1, (x.1.2.2.2.2.2.1, ((IntKind.wrap .u64 (x.1.2.2.2.2.2.2.1 + x.1.2.2.1)), (x.1.2.2.2.2.2.2.2.1, ((IntKind.wrap .u64 (x.1.2.2.2.2.2.2.2.2.1 - 1)), ()))))))))), ())
    else some ((x.1.1, (x.1.2.1, (x.1.2.2.2.2.1, (x.1.2.2.2.2.2.1, (x.1.2.2.2.2.2.2.2.1, (x.1.2.2.2.2.2.2.2.2.1, ())))))), ())
  else bif (decide ((4294967296 : Int) ≤ (IntKind.wrap .u64 (x.1.2.2.2.2.2.2.1 + x.1.2.2.1)))) then
    some ((x.1.1, (x.1.2.1, (x.1.2.2.2.2.1, (x.1.2.2.2.2.2.1, (x.1.2.2.2.2.2.2.2.1, ((IntKind.wrap .u64 (x.1.2.2.2.2.2.2.2.2.1 - 1)), ())))))), ())
  else F ((x.1.1, (x.1.2.1, (x.1.2.2.1, (x.1.2.2.2.1, (x.1.2.2.2.2.1, (x.1.2.2.2.2.2.1, ((IntKind.wrap .u64 (x.1.2.2.2.2.2.2.1 + x.1.2.2.1)), (x.1.2.2.2.2.2.2.2.1, ((IntKind.wrap .u64 (x.1.2.2.2.2.2.2.2.2.1 - 1)), ()))))))))), ())
def f79 (N : Nat) (a0 : Int) (a1 : Int) (a2 : Int) : Option (Int × Int) :=
  bif (a2 == 0) then
    none
  else bif (decide (a2 ≤ a0)) then
    none
  else bif (a0 == 0) then
    bif (!(decide (a2 = 0))) then
      bif (!(decide (a2 = 0))) then
        some ((IntKind.wrap .u64 (Int.tdiv a1 a2)), (Int.tmod a1 a2))
      else none
    else none
  else (f89 N a2).bind fun r0 =>
  bif (!(decide ((IntKind.wrap .u64 r0) < 0))) then
    bif (!(decide ((IntKind.wrap .u64 r0) < 0))) then
      bif (!(decide ((IntKind.wrap .u64 (64 - (IntKind.wrap .u64 r0))) < 0))) then
        bif (!(decide ((IntKind.wrap .u64 r0) < 0))) then
          bif (!(decide ((Int.fdiv (IntKind.wrap .u64 (a2 * 2 ^ (min ((IntKind.wrap .u64 r0)).toNat 64))) 4294967296) = 0))) then
            (iter (L79_17 N) N (((IntKind.wrap .u64 (a2 * 2 ^ (min ((IntKind.wrap .u64 r0)).toNat 64))), ((IntKind.wrap .u64 r0), ((Int.fdiv (IntKind.wrap .u64 (a2 * 2 ^ (min ((IntKind.wrap .u64 r0)).toNat 64))) 4294967296), ((bits .and .u64 (IntKind.wrap .u64 (a2 * 2 ^ (min ((IntKind.wrap .u64 r0)).toNat 64))) 4294967295), ((bits .or .u64 (IntKind.wrap .u64 (a0 * 2 ^ (min ((IntKind.wrap .u64 r0)).toNat 64))) (Int.fdiv a1 (2 ^ (min ((IntKind.wrap .u64 (64 - (IntKind.wrap .u64 r0)))).toNat 64)))), ((Int.fdiv (IntKind.wrap .u64 (a1 * 2 ^ (min ((IntKind.wrap .u64 r0)).toNat 64))) 4294967296), ((bits .and .u64 (IntKind.wrap .u64 (a1 * 2 ^ (min ((IntKind.wrap .u64 r0)).toNat 64))) 4294967295), ((IntKind.wrap .u64 (Int.tdiv (bits .or .u64 (IntKind.wrap .u64 (a0 * 2 ^ (min ((IntKind.wrap .u64 r0)).toNat 64))) (Int.fdiv a1 (2 ^ (min ((IntKind.wrap .u64 (64 - (IntKind.wrap .u64 r0)))).toNat 64)))) (Int.fdiv (IntKind.wrap .u64 (a2 * 2 ^ (min ((IntKind.wrap .u64 r0)).toNat 64))) 4294967296))), ((IntKind.wrap .u64 ((bits .or .u64 (IntKind.wrap .u64 (a0 * 2 ^ (min ((IntKind.wrap .u64 r0)).toNat 64))) (Int.fdiv a1 (2 ^ (min ((IntKind.wrap .u64 (64 - (IntKind.wrap .u64 r0)))).toNat 64)))) - (IntKind.wrap .u64 ((IntKind.wrap .u64 (Int.tdiv (bits .or .u64 (IntKind.wrap .u64 (a0 * 2 ^ (min ((IntKind.wrap .u64 r0)).toNat 64))) (Int.fdiv a1 (2 ^ (min ((IntKind.wrap .u64 (64 - (IntKind.wrap .u64 r0)))).toNat 64)))) (Int.fdiv (IntKind.wrap .u64 (a2 * 2 ^ (min ((IntKind.wrap .u64 r0)).toNat 64))) 4294967296))) * (Int.fdiv (IntKind.wrap .u64 (a2 * 2 ^ (min ((IntKind.wrap .u64 r0)).toNat 64))) 4294967296))))), ()))))))))), ())).bind fun r1 =>
            bif (!(decide (r1.1.2.2.1 = 0))) then
              (iter (L79_24 N) N ((r1.1.1, (r1.1.2.1, (r1.1.2.2.1, (r1.1.2.2.2.1, (r1.1.2.2.2.2.2.2.1, (r1.1.2.2.2.2.2.2.2.1, ((IntKind.wrap .u64 ((IntKind.wrap .u64 ((IntKind.wrap .u64 ((IntKind.wrap .u64 (r1.1.2.2.2.2.1 * 4294967296)) + r1.1.2.2.2.2.2.1)) - (IntKind.wrap .u64 (r1.1.2.2.2.2.2.2.2.1 * r1.1.1)))) - (IntKind.wrap .u64 ((IntKind.wrap .u64 (Int.tdiv (IntKind.wrap .u64 ((IntKind.wrap .u64 ((IntKind.wrap .u64 (r1.1.2.2.2.2.1 * 4294967296)) + r1.1.2.2.2.2.2.1)) - (IntKind.wrap .u64 (r1.1.2.2.2.2.2.2.2.1 * r1.1.1)))) r1.1.2.2.1)) * r1.1.2.2.1)))), ((IntKind.wrap .u64 ((IntKind.wrap .u64 ((IntKind.wrap .u64 (r1.1.2.2.2.2.1 * 4294967296)) + r1.1.2.2.2.2.2.1)) - (IntKind.wrap .u64 (r1.1.2.2.2.2.2.2.2.1 * r1.1.1)))), ((IntKind.wrap .u64 (Int.tdiv (IntKind.wrap .u64 ((IntKind.wrap .u64 ((IntKind.wrap .u64 (r1.1.2.2.2.2.1 * 4294967296)) + r1.1.2.2.2.2.2.1)) - (IntKind.wrap .u64 (r1.1.2.2.2.2.2.2.2.1 * r1.1.1)))) r1.1.2.2.1)), ()))))))))), ())).bind fun r2 =>
              bif (!(decide (r2.1.2.1 < 0))) then
                some ((IntKind.wrap .u64 ((IntKind.wrap .u64 (r2.1.2.2.2.1 * 4294967296)) + r2.1.2.2.2.2.2.1)), (Int.fdiv (IntKind.wrap .u64 ((IntKind.wrap .u64 ((IntKind.wrap .u64 (r2.1.2.2.2.2.1 * 4294967296)) + r2.1.2.2.1)) - (IntKind.wrap .u64 (r2.1.2.2.2.2.2.1 * r2.1.1)))) (2 ^ (min (r2.1.2.1).toNat 64))))
              else none
            else none
          else none
        else none
      else none
    else none
  else none
def p79_17 : List Pat := [.any, .any, .sc (.int .u64), .any, .any, .any, .any, .any, .sc (.int .u64), .sc (.int .u64), .sc (.int .u64), .sc (.int .u64), .any, .sc (.int .u64), .sc (.int .u64), .sc (.int .u64), .sc (.int .u64), .any, .any, .any, .any, .any, .any, .any, .any, .any, .any, .any, .any, .any, .any, .any, .any, .any, .any, .any, .any, .any, .any, .any, .any, .any, .any, .any, .any, .any, .any, .any, .any, .any, .any, .any, .any, .any, .any, .any, .any, .any, .any, .any, .any, .any, .any, .any, .any, .any, .any, .any, .any, .any, .any, .any, .any, .any, .any, .any, .any, .any, .any, .any, .any, .any, .any, .any, .any, .any, .any, .any, .any, .any, .any, .any, .any, .any, .any, .any, .any, .any, .any, .any, .any, .any, .any, .any, .any, .any, .any, .any, .any, .any, .any, .any, .any, .any, .any, .any, .any, .any, .any, .any, .any, .any, .any, .any, .any, .any, .any, .any, .any, .any, .any, .any, .any, .any, .any]
def h79_17 : List HPat := []
def x79_17 : List XP := [⟨.exit 0, [.any, .any, .sc (.int .u64), .any, .any, .any, .any, .any, .sc (.int .u64), .sc (.int .u64), .sc (.int .u64), .sc (.int .u64), .any, .sc (.int .u64), .sc (.int .u64), .sc (.int .u64), .any, .any, .any, .any, .any, .any, .any, .any, .any, .any, .any, .any, .any, .any, .any, .any, .any, .any, .any, .any, .any, .any, .any, .any, .any, .any, .any, .any, .any, .any, .any, .any, .any, .any, .any, .any, .any, .any, .any, .any, .any, .any, .any, .any, .any, .any, .any, .any, .any, .any, .any, .any, .any, .any, .any, .any, .any, .any, .any, .any, .any, .any, .any, .any, .any, .any, .any, .any, .any, .any, .any, .any, .any, .any, .any, .any, .any, .any, .any, .any, .any, .any, .any, .any, .any, .any, .any, .any, .any, .any, .any, .any, .any, .any, .any, .any, .any, .any, .any, .any, .any, .any, .any, .any, .any, .any, .any, .any, .any, .any, .any, .any, .any, .any, .any, .any, .any, .any, .any], []⟩]
def lc79_17 (N : Nat) : LC := mkLC p79_17 h79_17 x79_17 (L79_17 N)
def p79_24 : List Pat := [.any, .any, .sc (.int .u64), .any, .any, .any, .any, .any, .sc (.int .u64), .sc (.int .u64), .sc (.int .u64), .any, .any, .any, .sc (.int .u64), .sc (.int .u64), .sc (.int .u64), .sc (.int .u64), .sc (.int .u64), .any, .any, .any, .any, .any, .any, .any, .any, .any, .any, .any, .any, .any, .any, .any, .any, .any, .any, .any, .any, .any, .any, .any, .any, .any, .any, .any, .any, .any, .any, .any, .any, .any, .any, .any, .any, .any, .any, .any, .any, .any, .any, .any, .any, .any, .any, .any, .any, .any, .any, .any, .any, .any, .any, .any, .any, .any, .any, .any, .any, .any, .any, .any, .any, .any, .any, .any, .any, .any, .any, .any, .any, .any, .any, .any, .any, .any, .any, .any, .any, .any, .any, .any, .any, .any, .any, .any, .any, .any, .any, .any, .any, .any, .any, .any, .any, .any, .any, .any, .any, .any, .any, .any, .any, .any, .any, .any, .any, .any, .any, .any, .any, .any, .any, .any, .any]
def h79_24 : List HPat := []
def x79_24 : List XP := [⟨.exit 2, [.any, .any, .sc (.int .u64), .any, .any, .any, .any, .any, .sc (.int .u64), .any, .any, .any, .any, .any, .sc (.int .u64), .sc (.int .u64), .any, .sc (.int .u64), .sc (.int .u64), .any, .any, .any, .any, .any, .any, .any, .any, .any, .any, .any, .any, .any, .any, .any, .any, .any, .any, .any, .any, .any, .any, .any, .any, .any, .any, .any, .any, .any, .any, .any, .any, .any, .any, .any, .any, .any, .any, .any, .any, .any, .any, .any, .any, .any, .any, .any, .any, .any, .any, .any, .any, .any, .any, .any, .any, .any, .any, .any, .any, .any, .any, .any, .any, .any, .any, .any, .any, .any, .any, .any, .any, .any, .any, .any, .any, .any, .any, .any, .any, .any, .any, .any, .any, .any, .any, .any, .any, .any, .any, .any, .any, .any, .any, .any, .any, .any, .any, .any, .any, .any, .any, .any, .any, .any, .any, .any, .any, .any, .any, .any, .any, .any, .any, .any, .any], []⟩]
def lc79_24 (N : Nat) : LC := mkLC p79_24 h79_24 x79_24 (L79_24 N)
def s79 (N : Nat) : List (Nat × LC) := [(17, lc79_17 N), (24, lc79_24 N)]
noncomputable def e79 (N : Nat) : Env := mkEnv Try.prog o89 (s79 N) N
theorem k79_17 (N : Nat) : LCOK (e79 N) 12 (loopAt Try.prog 79 0) (lc79_17 N) := mkLC_ok (by kernel_rfl) (by kernel_rfl) (fun F x => by kernel_rfl)
theorem k79_24 (N : Nat) : LCOK (e79 N) 12 (loopAt Try.prog 79 1) (lc79_24 N) := mkLC_ok (by kernel_rfl) (by kernel_rfl) (fun F x => by kernel_rfl)
theorem q79 (N : Nat) : LoopsFor (e79 N) Try.prog 79 2 := ⟨by kernel_rfl, fun j hj => match j, hj with
  | 0, _ => ⟨lc79_17 N, by kernel_rfl, k79_17 N⟩
  | 1, _ => ⟨lc79_24 N, by kernel_rfl, k79_24 N⟩
  | _ + 2, h => absurd h (by omega)⟩
def c79 : FC := mkF [.sc (.int .u64), .sc (.int .u64), .sc (.int .u64)] [.sc (.int .u64), .sc (.int .u64)] f79
theorem t79 (N : Nat) : FCOK Try.prog N 79 c79 := fun_ok facts (ok89 N) (by kernel_rfl) (by kernel_rfl) (q79 N) (fun t => by kernel_rfl)
def o79 : List (Nat × FC) := (79, c79) :: o89
theorem ok79 (N : Nat) : OrcOK Try.prog o79 N := orc_cons (t79 N) (ok89 N)
def f74 (N : Nat) (a0 : (Int × Int)) (a1 : Int) : Option ((Int × Int) × Int) :=
  bif (a1 == 0) then
    some ((0, 0), 0)
  else bif (!(decide (a1 = 0))) then
    bif (!(decide (a1 = 0))) then
      (f79 N (Int.tmod a0.1 a1) a0.2 a1).bind fun r0 =>
      some (((IntKind.wrap .u64 (Int.tdiv a0.1 a1)), r0.1), r0.2)
    else none
  else none
def s74 (_ : Nat) : List (Nat × LC) := []
noncomputable def e74 (N : Nat) : Env := mkEnv Try.prog o79 (s74 N) N
theorem q74 (N : Nat) : LoopsFor (e74 N) Try.prog 74 0 := ⟨by kernel_rfl, fun j hj => match j, hj with
  | _ + 0, h => absurd h (by omega)⟩
def c74 : FC := mkF [.agg [.int .u64, .int .u64], .sc (.int .u64)] [.agg [.int .u64, .int .u64], .sc (.int .u64)] f74
theorem t74 (N : Nat) : FCOK Try.prog N 74 c74 := fun_ok facts (ok79 N) (by kernel_rfl) (by kernel_rfl) (q74 N) (fun t => by kernel_rfl)
def o74 : List (Nat × FC) := (74, c74) :: o79
theorem ok74 (N : Nat) : OrcOK Try.prog o74 N := orc_cons (t74 N) (ok79 N)
def f66 (N : Nat) (a0 : Int) (a1 : Int) (a2 : Int) : Option ((Int × Int) × (Bool × Int)) :=
  bif ((decide (a0 < 0)) == false) then
    bif ((decide (a1 < 0)) == false) then
      bif (decide (a2 ≤ 0)) then
        some ((0, 0), (false, 1))
      else (f75 N (IntKind.wrap .u64 a0) (IntKind.wrap .u64 a1)).bind fun r0 =>
      (f74 N r0 (IntKind.wrap .u64 a2)).bind fun r1 =>
      some (r1.1, ((decide ((0 : Int) < r1.2)), 0))
    else some ((0, 0), (false, 1))
  else some ((0, 0), (false, 1))
def s66 (_ : Nat) : List (Nat × LC) := []
noncomputable def e66 (N : Nat) : Env := mkEnv Try.prog o74 (s66 N) N
theorem q66 (N : Nat) : LoopsFor (e66 N) Try.prog 66 0 := ⟨by kernel_rfl, fun j hj => match j, hj with
  | _ + 0, h => absurd h (by omega)⟩
def c66 : FC := mkF [.sc (.int .i64), .sc (.int .i64), .sc (.int .i64)] [.agg [.int .u64, .int .u64], .sc (.bool), .sc (.int .i64)] f66
theorem t66 (N : Nat) : FCOK Try.prog N 66 c66 := fun_ok facts (ok74 N) (by kernel_rfl) (by kernel_rfl) (q66 N) (fun t => by kernel_rfl)
def o66 : List (Nat × FC) := (66, c66) :: o74
theorem ok66 (N : Nat) : OrcOK Try.prog o66 N := orc_cons (t66 N) (ok74 N)
def f90 (_N : Nat) (a0 : Int) : Option Bool :=
  some (!(a0 == a0))
def s90 (_ : Nat) : List (Nat × LC) := []
noncomputable def e90 (N : Nat) : Env := mkEnv Try.prog o66 (s90 N) N
theorem q90 (N : Nat) : LoopsFor (e90 N) Try.prog 90 0 := ⟨by kernel_rfl, fun j hj => match j, hj with
  | _ + 0, h => absurd h (by omega)⟩
def c90 : FC := mkF [.sc (.int .u64)] [.sc (.bool)] f90
theorem t90 (N : Nat) : FCOK Try.prog N 90 c90 := fun_ok facts (ok66 N) (by kernel_rfl) (by kernel_rfl) (q90 N) (fun t => by kernel_rfl)
def o90 : List (Nat × FC) := (90, c90) :: o66
theorem ok90 (N : Nat) : OrcOK Try.prog o90 N := orc_cons (t90 N) (ok66 N)
def f82 (N : Nat) (a0 : Int) (a1 : Int) : Option Int :=
  (f90 N a0).bind fun r0 =>
  (f90 N a1).bind fun r1 =>
  bif r0 then
    bif r1 then
      some 0
    else some (-1)
  else bif r1 then
    some 1
  else bif (decide (a0 < a1)) then
    some (-1)
  else bif (decide (a1 < a0)) then
    some 1
  else some 0
def s82 (_ : Nat) : List (Nat × LC) := []
noncomputable def e82 (N : Nat) : Env := mkEnv Try.prog o90 (s82 N) N
theorem q82 (N : Nat) : LoopsFor (e82 N) Try.prog 82 0 := ⟨by kernel_rfl, fun j hj => match j, hj with
  | _ + 0, h => absurd h (by omega)⟩
def c82 : FC := mkF [.sc (.int .u64), .sc (.int .u64)] [.sc (.int .i64)] f82
theorem t82 (N : Nat) : FCOK Try.prog N 82 c82 := fun_ok facts (ok90 N) (by kernel_rfl) (by kernel_rfl) (q82 N) (fun t => by kernel_rfl)
def o82 : List (Nat × FC) := (82, c82) :: o90
theorem ok82 (N : Nat) : OrcOK Try.prog o82 N := orc_cons (t82 N) (ok90 N)
def L81_3 (_N : Nat) (F : ((Int × (Int × (Int × Unit))) × ((List Int) × Unit)) → Option (((Int × Unit) × Unit) ⊕ ((Int × Unit) × Unit))) (x : ((Int × (Int × (Int × Unit))) × ((List Int) × Unit))) : Option (((Int × Unit) × Unit) ⊕ ((Int × Unit) × Unit)) :=
  bif (decide (x.1.2.2.1 < x.1.2.1)) then
    bif ((decide ((0 : Int) ≤ x.1.2.2.1)) && (decide (x.1.2.2.1 < (((x.2.1).length : Nat) : Int)))) then
      bif (!((x.2.1.getD (x.1.2.2.1).toNat 0) == x.1.1)) then
        some (.inl (((x.2.1.getD (x.1.2.2.1).toNat 0), ()), ()))
      else F ((x.1.1, (x.1.2.1, ((IntKind.wrap .i64 (x.1.2.2.1 + 1)), ()))), (x.2.1, ()))
    else none
  else some (.inr ((x.1.1, ()), ()))
def f81 (N : Nat) (a0 : (List Int)) : Option Int :=
  (iter (L81_3 N) N ((0, ((((a0).length : Nat) : Int), (0, ()))), (a0, ()))).bind fun r0 =>
  match r0 with
  | .inl r1 =>
    some r1.1.1
  | .inr r2 =>
    some r2.1.1
def p81_3 : List Pat := [.any, .any, .any, .sc (.int .i64), .any, .any, .sl 0, .sc (.int .i64), .sc (.int .i64), .any, .any, .any, .any, .any, .any, .any, .any, .any]
def h81_3 : List HPat := [.ext 3 [.int .i64]]
def x81_3 : List XP := [⟨.ret, [.any, .any, .sc (.int .i64), .any, .any, .any, .any, .any, .any, .any, .any, .any, .any, .any, .any, .any, .any, .any], []⟩, ⟨.exit 0, [.any, .any, .any, .sc (.int .i64), .any, .any, .any, .any, .any, .any, .any, .any, .any, .any, .any, .any, .any, .any], []⟩]
def lc81_3 (N : Nat) : LC := mkLC p81_3 h81_3 x81_3 (L81_3 N)
def s81 (N : Nat) : List (Nat × LC) := [(3, lc81_3 N)]
noncomputable def e81 (N : Nat) : Env := mkEnv Try.prog o82 (s81 N) N
theorem k81_3 (N : Nat) : LCOK (e81 N) 12 (loopAt Try.prog 81 0) (lc81_3 N) := mkLC_ok (by kernel_rfl) (by kernel_rfl) (fun F x => by kernel_rfl)
theorem q81 (N : Nat) : LoopsFor (e81 N) Try.prog 81 1 := ⟨by kernel_rfl, fun j hj => match j, hj with
  | 0, _ => ⟨lc81_3 N, by kernel_rfl, k81_3 N⟩
  | _ + 1, h => absurd h (by omega)⟩
def c81 : FC := mkF [.row 3 [.int .i64]] [.sc (.int .i64)] f81
theorem t81 (N : Nat) : FCOK Try.prog N 81 c81 := fun_ok facts (ok82 N) (by kernel_rfl) (by kernel_rfl) (q81 N) (fun t => by kernel_rfl)
def o81 : List (Nat × FC) := (81, c81) :: o82
theorem ok81 (N : Nat) : OrcOK Try.prog o81 N := orc_cons (t81 N) (ok82 N)
def f76 (N : Nat) (a0 : (Int × Int)) (a1 : (Int × Int)) : Option Int :=
  bif ((a0.1 == a1.1) && ((a0.2 == a1.2) && true)) then
    some 0
  else (f82 N a0.1 a1.1).bind fun r0 =>
  (f82 N a0.2 a1.2).bind fun r1 =>
  (f81 N ([r0, r1] : List Int)).bind fun r2 =>
  some r2
def s76 (_ : Nat) : List (Nat × LC) := []
noncomputable def e76 (N : Nat) : Env := mkEnv Try.prog o81 (s76 N) N
theorem q76 (N : Nat) : LoopsFor (e76 N) Try.prog 76 0 := ⟨by kernel_rfl, fun j hj => match j, hj with
  | _ + 0, h => absurd h (by omega)⟩
def c76 : FC := mkF [.agg [.int .u64, .int .u64], .agg [.int .u64, .int .u64]] [.sc (.int .i64)] f76
theorem t76 (N : Nat) : FCOK Try.prog N 76 c76 := fun_ok facts (ok81 N) (by kernel_rfl) (by kernel_rfl) (q76 N) (fun t => by kernel_rfl)
def o76 : List (Nat × FC) := (76, c76) :: o81
theorem ok76 (N : Nat) : OrcOK Try.prog o76 N := orc_cons (t76 N) (ok81 N)
def f67 (N : Nat) (a0 : (Int × Int)) (a1 : Int) : Option (Int × Int) :=
  bif (!(a1 == 0)) then
    some (0, a1)
  else (f76 N a0 (0, 9223372036854775807)).bind fun r0 =>
  bif (decide ((0 : Int) < r0)) then
    some (0, 8)
  else some ((IntKind.wrap .i64 a0.2), 0)
def s67 (_ : Nat) : List (Nat × LC) := []
noncomputable def e67 (N : Nat) : Env := mkEnv Try.prog o76 (s67 N) N
theorem q67 (N : Nat) : LoopsFor (e67 N) Try.prog 67 0 := ⟨by kernel_rfl, fun j hj => match j, hj with
  | _ + 0, h => absurd h (by omega)⟩
def c67 : FC := mkF [.agg [.int .u64, .int .u64], .sc (.int .i64)] [.sc (.int .i64), .sc (.int .i64)] f67
theorem t67 (N : Nat) : FCOK Try.prog N 67 c67 := fun_ok facts (ok76 N) (by kernel_rfl) (by kernel_rfl) (q67 N) (fun t => by kernel_rfl)
def o67 : List (Nat × FC) := (67, c67) :: o76
theorem ok67 (N : Nat) : OrcOK Try.prog o67 N := orc_cons (t67 N) (ok76 N)
def f52 (N : Nat) (a0 : Int) (a1 : Int) (a2 : Int) : Option (Int × Int) :=
  (f66 N a0 a1 a2).bind fun r0 =>
  (f67 N r0.1 r0.2.2).bind fun r1 =>
  some r1
def s52 (_ : Nat) : List (Nat × LC) := []
noncomputable def e52 (N : Nat) : Env := mkEnv Try.prog o67 (s52 N) N
theorem q52 (N : Nat) : LoopsFor (e52 N) Try.prog 52 0 := ⟨by kernel_rfl, fun j hj => match j, hj with
  | _ + 0, h => absurd h (by omega)⟩
def c52 : FC := mkF [.sc (.int .i64), .sc (.int .i64), .sc (.int .i64)] [.sc (.int .i64), .sc (.int .i64)] f52
theorem t52 (N : Nat) : FCOK Try.prog N 52 c52 := fun_ok facts (ok67 N) (by kernel_rfl) (by kernel_rfl) (q52 N) (fun t => by kernel_rfl)
def o52 : List (Nat × FC) := (52, c52) :: o67
theorem ok52 (N : Nat) : OrcOK Try.prog o52 N := orc_cons (t52 N) (ok67 N)
def f25 (N : Nat) (a0 : Int) (a1 : Int) (a2 : Int) : Option Int :=
  (f51 N a0).bind fun r0 =>
  (f51 N a1).bind fun r1 =>
  (f51 N a2).bind fun r2 =>
  bif (decide (r0 < r1)) then
    some 0
  else bif (decide (r2 ≤ r0)) then
    some 4294967296
  else (f52 N 4294967296 (IntKind.wrap .i64 (r0 - r1)) (IntKind.wrap .i64 (r2 - r1))).bind fun r3 =>
  some r3.1
def s25 (_ : Nat) : List (Nat × LC) := []
noncomputable def e25 (N : Nat) : Env := mkEnv Try.prog o52 (s25 N) N
theorem q25 (N : Nat) : LoopsFor (e25 N) Try.prog 25 0 := ⟨by kernel_rfl, fun j hj => match j, hj with
  | _ + 0, h => absurd h (by omega)⟩
def c25 : FC := mkF [.sc (.int .i64), .sc (.int .i64), .sc (.int .i64)] [.sc (.int .i64)] f25
theorem t25 (N : Nat) : FCOK Try.prog N 25 c25 := fun_ok facts (ok52 N) (by kernel_rfl) (by kernel_rfl) (q25 N) (fun t => by kernel_rfl)
def o25 : List (Nat × FC) := (25, c25) :: o52
theorem ok25 (N : Nat) : OrcOK Try.prog o25 N := orc_cons (t25 N) (ok52 N)
def f26 (N : Nat) : Option Bool :=
  (f25 N 1500 1000 2000).bind fun r0 =>
  some (r0 == 2147483648)
def s26 (_ : Nat) : List (Nat × LC) := []
noncomputable def e26 (N : Nat) : Env := mkEnv Try.prog o25 (s26 N) N
theorem q26 (N : Nat) : LoopsFor (e26 N) Try.prog 26 0 := ⟨by kernel_rfl, fun j hj => match j, hj with
  | _ + 0, h => absurd h (by omega)⟩
def c26 : FC := mkF [] [.sc (.bool)] f26
theorem t26 (N : Nat) : FCOK Try.prog N 26 c26 := fun_ok facts (ok25 N) (by kernel_rfl) (by kernel_rfl) (q26 N) (fun t => by kernel_rfl)
def o26 : List (Nat × FC) := (26, c26) :: o25
theorem ok26 (N : Nat) : OrcOK Try.prog o26 N := orc_cons (t26 N) (ok25 N)
def f7 (N : Nat) (a0 : (Int × Int)) (a1 : Int) (a2 : Int) : Option Bool :=
  (f25 N (if a0.2 < a0.1 then a0.2 else a0.1) a1 a2).bind fun r0 =>
  (f25 N (if a0.2 > a0.1 then a0.2 else a0.1) a1 a2).bind fun r1 =>
  bif ((decide (r0 < 0)) == false) then
    bif ((decide (r1 < r0)) == false) then
      bif (decide ((4294967296 : Int) < r1)) then
        some false
      else (f25 N a0.1 a1 a1).bind fun r2 =>
      bif (((r2 == 4294967296) == (decide ((if 67108864 < (if 0 > a1 then 0 else a1) then 67108864 else (if 0 > a1 then 0 else a1)) ≤ (if 67108864 < (if 0 > a0.1 then 0 else a0.1) then 67108864 else (if 0 > a0.1 then 0 else a0.1))))) == true) then
        bif ((r2 == 0) == false) then
          bif ((r2 == 4294967296) == true) then
            (f26 N).bind fun r3 =>
            some r3
          else some false
        else (f26 N).bind fun r4 =>
        some r4
      else some false
    else some false
  else some false
def s7 (_ : Nat) : List (Nat × LC) := []
noncomputable def e7 (N : Nat) : Env := mkEnv Try.prog o26 (s7 N) N
theorem q7 (N : Nat) : LoopsFor (e7 N) Try.prog 7 0 := ⟨by kernel_rfl, fun j hj => match j, hj with
  | _ + 0, h => absurd h (by omega)⟩
theorem okL7 (N : Nat) : OrcOK Try.prog o26 N := ok26 N
theorem w7 (N : Nat) (x : RT [.agg [.int .i64, .int .i64], .sc (.int .i64), .sc (.int .i64)]) : uncR [.agg [.int .i64, .int .i64], .sc (.int .i64), .sc (.int .i64)] (f7 N) x = evFn (e7 N) 13 7 (encA 0 [.agg [.int .i64, .int .i64], .sc (.int .i64), .sc (.int .i64)] x).1 (encA 0 [.agg [.int .i64, .int .i64], .sc (.int .i64), .sc (.int .i64)] x).2 (decR [.sc .bool]) := by kernel_rfl
def f53 (_N : Nat) (a0 : Int) : Option Int :=
  some (if 67108864 < (if 0 > a0 then 0 else a0) then 67108864 else (if 0 > a0 then 0 else a0))
def s53 (_ : Nat) : List (Nat × LC) := []
noncomputable def e53 (N : Nat) : Env := mkEnv Try.prog o26 (s53 N) N
theorem q53 (N : Nat) : LoopsFor (e53 N) Try.prog 53 0 := ⟨by kernel_rfl, fun j hj => match j, hj with
  | _ + 0, h => absurd h (by omega)⟩
def c53 : FC := mkF [.sc (.int .i64)] [.sc (.int .i64)] f53
theorem t53 (N : Nat) : FCOK Try.prog N 53 c53 := fun_ok facts (ok26 N) (by kernel_rfl) (by kernel_rfl) (q53 N) (fun t => by kernel_rfl)
def o53 : List (Nat × FC) := (53, c53) :: o26
theorem ok53 (N : Nat) : OrcOK Try.prog o53 N := orc_cons (t53 N) (ok26 N)
def f27 (N : Nat) (a0 : Int) (a1 : Int) (a2 : Int) : Option Int :=
  (f53 N a0).bind fun r0 =>
  (f53 N a1).bind fun r1 =>
  (f53 N a2).bind fun r2 =>
  bif (decide (r0 < r1)) then
    some 0
  else bif (decide (r2 ≤ r0)) then
    some 4294967296
  else bif (!(decide ((IntKind.wrap .i64 (r2 - r1)) = 0))) then
    some (IntKind.wrap .i64 (Int.tdiv (IntKind.wrap .i64 ((IntKind.wrap .i64 (r0 - r1)) * 4294967296)) (IntKind.wrap .i64 (r2 - r1))))
  else none
def s27 (_ : Nat) : List (Nat × LC) := []
noncomputable def e27 (N : Nat) : Env := mkEnv Try.prog o53 (s27 N) N
theorem q27 (N : Nat) : LoopsFor (e27 N) Try.prog 27 0 := ⟨by kernel_rfl, fun j hj => match j, hj with
  | _ + 0, h => absurd h (by omega)⟩
def c27 : FC := mkF [.sc (.int .i64), .sc (.int .i64), .sc (.int .i64)] [.sc (.int .i64)] f27
theorem t27 (N : Nat) : FCOK Try.prog N 27 c27 := fun_ok facts (ok53 N) (by kernel_rfl) (by kernel_rfl) (q27 N) (fun t => by kernel_rfl)
def o27 : List (Nat × FC) := (27, c27) :: o53
theorem ok27 (N : Nat) : OrcOK Try.prog o27 N := orc_cons (t27 N) (ok53 N)
def f28 (N : Nat) (a0 : Int) (a1 : (Int × (Int × (Int × (Int × (Int × (Int × (Int × Int)))))))) (a2 : Int) : Option Int :=
  (f25 N a0 a1.2.2.2.2.2.2.1 a1.2.2.2.2.2.2.2).bind fun r0 =>
  (f44 N a2 0 4294967296).bind fun r1 =>
  some (if r1 > r0 then r1 else r0)
def s28 (_ : Nat) : List (Nat × LC) := []
noncomputable def e28 (N : Nat) : Env := mkEnv Try.prog o27 (s28 N) N
theorem q28 (N : Nat) : LoopsFor (e28 N) Try.prog 28 0 := ⟨by kernel_rfl, fun j hj => match j, hj with
  | _ + 0, h => absurd h (by omega)⟩
def c28 : FC := mkF [.sc (.int .i64), .agg [.int .i64, .int .i64, .int .i64, .int .i64, .int .i64, .int .i64, .int .i64, .int .i64], .sc (.int .i64)] [.sc (.int .i64)] f28
theorem t28 (N : Nat) : FCOK Try.prog N 28 c28 := fun_ok facts (ok27 N) (by kernel_rfl) (by kernel_rfl) (q28 N) (fun t => by kernel_rfl)
def o28 : List (Nat × FC) := (28, c28) :: o27
theorem ok28 (N : Nat) : OrcOK Try.prog o28 N := orc_cons (t28 N) (ok27 N)
def f29 (N : Nat) (a0 : Int) (a1 : (Int × (Int × (Int × (Int × (Int × (Int × (Int × Int)))))))) (a2 : Int) : Option Int :=
  (f27 N a0 a1.2.2.2.2.2.2.1 a1.2.2.2.2.2.2.2).bind fun r0 =>
  bif (decide ((if 4294967296 < (if 0 > a2 then 0 else a2) then 4294967296 else (if 0 > a2 then 0 else a2)) < r0)) then
    some r0
  else some (if 4294967296 < (if 0 > a2 then 0 else a2) then 4294967296 else (if 0 > a2 then 0 else a2))
def s29 (_ : Nat) : List (Nat × LC) := []
noncomputable def e29 (N : Nat) : Env := mkEnv Try.prog o28 (s29 N) N
theorem q29 (N : Nat) : LoopsFor (e29 N) Try.prog 29 0 := ⟨by kernel_rfl, fun j hj => match j, hj with
  | _ + 0, h => absurd h (by omega)⟩
def c29 : FC := mkF [.sc (.int .i64), .agg [.int .i64, .int .i64, .int .i64, .int .i64, .int .i64, .int .i64, .int .i64, .int .i64], .sc (.int .i64)] [.sc (.int .i64)] f29
theorem t29 (N : Nat) : FCOK Try.prog N 29 c29 := fun_ok facts (ok28 N) (by kernel_rfl) (by kernel_rfl) (q29 N) (fun t => by kernel_rfl)
def o29 : List (Nat × FC) := (29, c29) :: o28
theorem ok29 (N : Nat) : OrcOK Try.prog o29 N := orc_cons (t29 N) (ok28 N)
def f8 (N : Nat) (a0 : Int) (a1 : (Int × (Int × (Int × (Int × (Int × (Int × (Int × Int)))))))) (a2 : Int) : Option Bool :=
  (f25 N a0 a1.2.2.2.2.2.2.1 a1.2.2.2.2.2.2.2).bind fun r0 =>
  (f27 N a0 a1.2.2.2.2.2.2.1 a1.2.2.2.2.2.2.2).bind fun r1 =>
  bif ((r0 == r1) == true) then
    (f28 N a0 a1 a2).bind fun r2 =>
    (f29 N a0 a1 a2).bind fun r3 =>
    bif ((r2 == r3) == true) then
      (f26 N).bind fun r4 =>
      some r4
    else some false
  else some false
def s8 (_ : Nat) : List (Nat × LC) := []
noncomputable def e8 (N : Nat) : Env := mkEnv Try.prog o29 (s8 N) N
theorem q8 (N : Nat) : LoopsFor (e8 N) Try.prog 8 0 := ⟨by kernel_rfl, fun j hj => match j, hj with
  | _ + 0, h => absurd h (by omega)⟩
theorem okL8 (N : Nat) : OrcOK Try.prog o29 N := ok29 N
theorem w8 (N : Nat) (x : RT [.sc (.int .i64), .agg [.int .i64, .int .i64, .int .i64, .int .i64, .int .i64, .int .i64, .int .i64, .int .i64], .sc (.int .i64)]) : uncR [.sc (.int .i64), .agg [.int .i64, .int .i64, .int .i64, .int .i64, .int .i64, .int .i64, .int .i64, .int .i64], .sc (.int .i64)] (f8 N) x = evFn (e8 N) 13 8 (encA 0 [.sc (.int .i64), .agg [.int .i64, .int .i64, .int .i64, .int .i64, .int .i64, .int .i64, .int .i64, .int .i64], .sc (.int .i64)] x).1 (encA 0 [.sc (.int .i64), .agg [.int .i64, .int .i64, .int .i64, .int .i64, .int .i64, .int .i64, .int .i64, .int .i64], .sc (.int .i64)] x).2 (decR [.sc .bool]) := by kernel_rfl
def f68 (N : Nat) (a0 : Int) (a1 : Int) : Option Int :=
  (f44 N a0 0 a1).bind fun r0 =>
  some r0
def s68 (_ : Nat) : List (Nat × LC) := []
noncomputable def e68 (N : Nat) : Env := mkEnv Try.prog o29 (s68 N) N
theorem q68 (N : Nat) : LoopsFor (e68 N) Try.prog 68 0 := ⟨by kernel_rfl, fun j hj => match j, hj with
  | _ + 0, h => absurd h (by omega)⟩
def c68 : FC := mkF [.sc (.int .i64), .sc (.int .i64)] [.sc (.int .i64)] f68
theorem t68 (N : Nat) : FCOK Try.prog N 68 c68 := fun_ok facts (ok29 N) (by kernel_rfl) (by kernel_rfl) (q68 N) (fun t => by kernel_rfl)
def o68 : List (Nat × FC) := (68, c68) :: o29
theorem ok68 (N : Nat) : OrcOK Try.prog o68 N := orc_cons (t68 N) (ok29 N)
def f54 (N : Nat) (a0 : Int) (a1 : Int) : Option (Int × Int) :=
  (f68 N a0 4294967296).bind fun r0 =>
  (f68 N a1 65536).bind fun r1 =>
  some (r0, r1)
def s54 (_ : Nat) : List (Nat × LC) := []
noncomputable def e54 (N : Nat) : Env := mkEnv Try.prog o68 (s54 N) N
theorem q54 (N : Nat) : LoopsFor (e54 N) Try.prog 54 0 := ⟨by kernel_rfl, fun j hj => match j, hj with
  | _ + 0, h => absurd h (by omega)⟩
def c54 : FC := mkF [.sc (.int .i64), .sc (.int .i64)] [.sc (.int .i64), .sc (.int .i64)] f54
theorem t54 (N : Nat) : FCOK Try.prog N 54 c54 := fun_ok facts (ok68 N) (by kernel_rfl) (by kernel_rfl) (q54 N) (fun t => by kernel_rfl)
def o54 : List (Nat × FC) := (54, c54) :: o68
theorem ok54 (N : Nat) : OrcOK Try.prog o54 N := orc_cons (t54 N) (ok68 N)
def f30 (N : Nat) (a0 : Int) : Option Int :=
  (f54 N a0 0).bind fun r0 =>
  (f52 N r0.1 r0.1 4294967296).bind fun r1 =>
  some r1.1
def s30 (_ : Nat) : List (Nat × LC) := []
noncomputable def e30 (N : Nat) : Env := mkEnv Try.prog o54 (s30 N) N
theorem q30 (N : Nat) : LoopsFor (e30 N) Try.prog 30 0 := ⟨by kernel_rfl, fun j hj => match j, hj with
  | _ + 0, h => absurd h (by omega)⟩
def c30 : FC := mkF [.sc (.int .i64)] [.sc (.int .i64)] f30
theorem t30 (N : Nat) : FCOK Try.prog N 30 c30 := fun_ok facts (ok54 N) (by kernel_rfl) (by kernel_rfl) (q30 N) (fun t => by kernel_rfl)
def o30 : List (Nat × FC) := (30, c30) :: o54
theorem ok30 (N : Nat) : OrcOK Try.prog o30 N := orc_cons (t30 N) (ok54 N)
def f31 (N : Nat) (a0 : Int) (a1 : Int) : Option Int :=
  (f54 N a0 a1).bind fun r0 =>
  some (if 4294967296 < (IntKind.wrap .i64 (r0.1 * r0.2)) then 4294967296 else (IntKind.wrap .i64 (r0.1 * r0.2)))
def s31 (_ : Nat) : List (Nat × LC) := []
noncomputable def e31 (N : Nat) : Env := mkEnv Try.prog o30 (s31 N) N
theorem q31 (N : Nat) : LoopsFor (e31 N) Try.prog 31 0 := ⟨by kernel_rfl, fun j hj => match j, hj with
  | _ + 0, h => absurd h (by omega)⟩
def c31 : FC := mkF [.sc (.int .i64), .sc (.int .i64)] [.sc (.int .i64)] f31
theorem t31 (N : Nat) : FCOK Try.prog N 31 c31 := fun_ok facts (ok30 N) (by kernel_rfl) (by kernel_rfl) (q31 N) (fun t => by kernel_rfl)
def o31 : List (Nat × FC) := (31, c31) :: o30
theorem ok31 (N : Nat) : OrcOK Try.prog o31 N := orc_cons (t31 N) (ok30 N)
def f37 (_N : Nat) (a0 : Int) (a1 : Int) : Option Bool :=
  some (decide ((IntKind.wrap .i64 a0) < a1))
def s37 (_ : Nat) : List (Nat × LC) := []
noncomputable def e37 (N : Nat) : Env := mkEnv Try.prog o31 (s37 N) N
theorem q37 (N : Nat) : LoopsFor (e37 N) Try.prog 37 0 := ⟨by kernel_rfl, fun j hj => match j, hj with
  | _ + 0, h => absurd h (by omega)⟩
def c37 : FC := mkF [.sc (.int .u32), .sc (.int .i64)] [.sc (.bool)] f37
theorem t37 (N : Nat) : FCOK Try.prog N 37 c37 := fun_ok facts (ok31 N) (by kernel_rfl) (by kernel_rfl) (q37 N) (fun t => by kernel_rfl)
def o37 : List (Nat × FC) := (37, c37) :: o31
theorem ok37 (N : Nat) : OrcOK Try.prog o37 N := orc_cons (t37 N) (ok31 N)
def f32 (N : Nat) : Option Bool :=
  (f30 N 2147483648).bind fun r0 =>
  bif ((r0 == 1073741824) == true) then
    (f31 N 2147483648 2).bind fun r1 =>
    bif ((r1 == 4294967296) == true) then
      (f37 N 5 6).bind fun r2 =>
      some r2
    else some false
  else some false
def s32 (_ : Nat) : List (Nat × LC) := []
noncomputable def e32 (N : Nat) : Env := mkEnv Try.prog o37 (s32 N) N
theorem q32 (N : Nat) : LoopsFor (e32 N) Try.prog 32 0 := ⟨by kernel_rfl, fun j hj => match j, hj with
  | _ + 0, h => absurd h (by omega)⟩
def c32 : FC := mkF [] [.sc (.bool)] f32
theorem t32 (N : Nat) : FCOK Try.prog N 32 c32 := fun_ok facts (ok37 N) (by kernel_rfl) (by kernel_rfl) (q32 N) (fun t => by kernel_rfl)
def o32 : List (Nat × FC) := (32, c32) :: o37
theorem ok32 (N : Nat) : OrcOK Try.prog o32 N := orc_cons (t32 N) (ok37 N)
def f9 (N : Nat) (a0 : (Int × Int)) (a1 : (Int × Int)) : Option Bool :=
  (f30 N (if a0.2 < a0.1 then a0.2 else a0.1)).bind fun r0 =>
  (f30 N (if a0.2 > a0.1 then a0.2 else a0.1)).bind fun r1 =>
  bif ((decide (r0 ≤ r1)) == true) then
    (f31 N (if a0.2 < a0.1 then a0.2 else a0.1) (if a1.2 < a1.1 then a1.2 else a1.1)).bind fun r2 =>
    (f31 N (if a0.2 > a0.1 then a0.2 else a0.1) (if a1.2 < a1.1 then a1.2 else a1.1)).bind fun r3 =>
    bif ((decide (r2 ≤ r3)) == true) then
      (f31 N (if a0.2 < a0.1 then a0.2 else a0.1) (if a1.2 < a1.1 then a1.2 else a1.1)).bind fun r4 =>
      (f31 N (if a0.2 < a0.1 then a0.2 else a0.1) (if a1.2 > a1.1 then a1.2 else a1.1)).bind fun r5 =>
      bif ((decide (r4 ≤ r5)) == true) then
        (f30 N (if a0.2 < a0.1 then a0.2 else a0.1)).bind fun r6 =>
        bif ((decide ((0 : Int) ≤ r6)) == true) then
          (f31 N (if a0.2 < a0.1 then a0.2 else a0.1) (if a1.2 < a1.1 then a1.2 else a1.1)).bind fun r7 =>
          bif ((decide ((0 : Int) ≤ r7)) == true) then
            (f30 N (if a0.2 > a0.1 then a0.2 else a0.1)).bind fun r8 =>
            bif ((decide (r8 ≤ 4294967296)) == true) then
              (f31 N (if a0.2 > a0.1 then a0.2 else a0.1) (if a1.2 > a1.1 then a1.2 else a1.1)).bind fun r9 =>
              bif ((decide (r9 ≤ 4294967296)) == true) then
                (f32 N).bind fun r10 =>
                some r10
              else some false
            else some false
          else some false
        else some false
      else some false
    else some false
  else some false
def s9 (_ : Nat) : List (Nat × LC) := []
noncomputable def e9 (N : Nat) : Env := mkEnv Try.prog o32 (s9 N) N
theorem q9 (N : Nat) : LoopsFor (e9 N) Try.prog 9 0 := ⟨by kernel_rfl, fun j hj => match j, hj with
  | _ + 0, h => absurd h (by omega)⟩
theorem okL9 (N : Nat) : OrcOK Try.prog o32 N := ok32 N
theorem w9 (N : Nat) (x : RT [.agg [.int .i64, .int .i64], .agg [.int .i64, .int .i64]]) : uncR [.agg [.int .i64, .int .i64], .agg [.int .i64, .int .i64]] (f9 N) x = evFn (e9 N) 13 9 (encA 0 [.agg [.int .i64, .int .i64], .agg [.int .i64, .int .i64]] x).1 (encA 0 [.agg [.int .i64, .int .i64], .agg [.int .i64, .int .i64]] x).2 (decR [.sc .bool]) := by kernel_rfl
def f10 (N : Nat) (a0 : Int) : Option Bool :=
  (f31 N (IntKind.wrap .i64 (Int.tdiv (IntKind.wrap .i64 a0) 2)) 2).bind fun r0 =>
  bif (((IntKind.wrap .i64 (Int.tdiv r0 2)) == (IntKind.wrap .i64 (Int.tdiv (IntKind.wrap .i64 a0) 2))) == true) then
    (f30 N (IntKind.wrap .i64 (Int.tdiv (IntKind.wrap .i64 a0) 2))).bind fun r1 =>
    (f30 N (IntKind.wrap .i64 (Int.tdiv r0 2))).bind fun r2 =>
    bif ((r1 == r2) == true) then
      (f30 N (IntKind.wrap .i64 (Int.tdiv (IntKind.wrap .i64 a0) 2))).bind fun r3 =>
      bif ((decide (r3 ≤ (IntKind.wrap .i64 (Int.tdiv r0 2)))) == true) then
        (f30 N (IntKind.wrap .i64 (Int.tdiv (IntKind.wrap .i64 a0) 2))).bind fun r4 =>
        bif ((decide ((IntKind.wrap .i64 ((Int.fdiv (IntKind.wrap .i64 (Int.tdiv (IntKind.wrap .i64 a0) 2)) 65536) * (Int.fdiv (IntKind.wrap .i64 (Int.tdiv (IntKind.wrap .i64 a0) 2)) 65536))) ≤ r4)) == true) then
          (f32 N).bind fun r5 =>
          some r5
        else some false
      else some false
    else some false
  else some false
def s10 (_ : Nat) : List (Nat × LC) := []
noncomputable def e10 (N : Nat) : Env := mkEnv Try.prog o32 (s10 N) N
theorem q10 (N : Nat) : LoopsFor (e10 N) Try.prog 10 0 := ⟨by kernel_rfl, fun j hj => match j, hj with
  | _ + 0, h => absurd h (by omega)⟩
theorem okL10 (N : Nat) : OrcOK Try.prog o32 N := ok32 N
theorem w10 (N : Nat) (x : RT [.sc (.int .u32)]) : uncR [.sc (.int .u32)] (f10 N) x = evFn (e10 N) 13 10 (encA 0 [.sc (.int .u32)] x).1 (encA 0 [.sc (.int .u32)] x).2 (decR [.sc .bool]) := by kernel_rfl
def f55 (_N : Nat) (a0 : Int) (a1 : Int) : Option Int :=
  some (if a1 < (if 0 > a0 then 0 else a0) then a1 else (if 0 > a0 then 0 else a0))
def s55 (_ : Nat) : List (Nat × LC) := []
noncomputable def e55 (N : Nat) : Env := mkEnv Try.prog o32 (s55 N) N
theorem q55 (N : Nat) : LoopsFor (e55 N) Try.prog 55 0 := ⟨by kernel_rfl, fun j hj => match j, hj with
  | _ + 0, h => absurd h (by omega)⟩
def c55 : FC := mkF [.sc (.int .i64), .sc (.int .i64)] [.sc (.int .i64)] f55
theorem t55 (N : Nat) : FCOK Try.prog N 55 c55 := fun_ok facts (ok32 N) (by kernel_rfl) (by kernel_rfl) (q55 N) (fun t => by kernel_rfl)
def o55 : List (Nat × FC) := (55, c55) :: o32
theorem ok55 (N : Nat) : OrcOK Try.prog o55 N := orc_cons (t55 N) (ok32 N)
def f33 (N : Nat) (a0 : Int) : Option Int :=
  (f55 N a0 4294967296).bind fun r0 =>
  bif (r0 == 4294967296) then
    some 4294967296
  else some (IntKind.wrap .i64 (IntKind.wrap .u64 (Int.tdiv (IntKind.wrap .u64 ((IntKind.wrap .u64 r0) * (IntKind.wrap .u64 r0))) 4294967296)))
def s33 (_ : Nat) : List (Nat × LC) := []
noncomputable def e33 (N : Nat) : Env := mkEnv Try.prog o55 (s33 N) N
theorem q33 (N : Nat) : LoopsFor (e33 N) Try.prog 33 0 := ⟨by kernel_rfl, fun j hj => match j, hj with
  | _ + 0, h => absurd h (by omega)⟩
def c33 : FC := mkF [.sc (.int .i64)] [.sc (.int .i64)] f33
theorem t33 (N : Nat) : FCOK Try.prog N 33 c33 := fun_ok facts (ok55 N) (by kernel_rfl) (by kernel_rfl) (q33 N) (fun t => by kernel_rfl)
def o33 : List (Nat × FC) := (33, c33) :: o55
theorem ok33 (N : Nat) : OrcOK Try.prog o33 N := orc_cons (t33 N) (ok55 N)
def f34 (N : Nat) (a0 : Int) (a1 : Int) : Option Int :=
  (f55 N a0 4294967296).bind fun r0 =>
  (f55 N a1 65536).bind fun r1 =>
  some (if 4294967296 < (IntKind.wrap .i64 (r0 * r1)) then 4294967296 else (IntKind.wrap .i64 (r0 * r1)))
def s34 (_ : Nat) : List (Nat × LC) := []
noncomputable def e34 (N : Nat) : Env := mkEnv Try.prog o33 (s34 N) N
theorem q34 (N : Nat) : LoopsFor (e34 N) Try.prog 34 0 := ⟨by kernel_rfl, fun j hj => match j, hj with
  | _ + 0, h => absurd h (by omega)⟩
def c34 : FC := mkF [.sc (.int .i64), .sc (.int .i64)] [.sc (.int .i64)] f34
theorem t34 (N : Nat) : FCOK Try.prog N 34 c34 := fun_ok facts (ok33 N) (by kernel_rfl) (by kernel_rfl) (q34 N) (fun t => by kernel_rfl)
def o34 : List (Nat × FC) := (34, c34) :: o33
theorem ok34 (N : Nat) : OrcOK Try.prog o34 N := orc_cons (t34 N) (ok33 N)
def f35 (N : Nat) (a0 : Int) (a1 : Int) : Option Bool :=
  (f54 N a0 a1).bind fun r0 =>
  bif ((decide ((0 : Int) < r0.1)) == true) then
    (f31 N r0.1 a1).bind fun r1 =>
    some (r1 == 4294967296)
  else some false
def s35 (_ : Nat) : List (Nat × LC) := []
noncomputable def e35 (N : Nat) : Env := mkEnv Try.prog o34 (s35 N) N
theorem q35 (N : Nat) : LoopsFor (e35 N) Try.prog 35 0 := ⟨by kernel_rfl, fun j hj => match j, hj with
  | _ + 0, h => absurd h (by omega)⟩
def c35 : FC := mkF [.sc (.int .i64), .sc (.int .i64)] [.sc (.bool)] f35
theorem t35 (N : Nat) : FCOK Try.prog N 35 c35 := fun_ok facts (ok34 N) (by kernel_rfl) (by kernel_rfl) (q35 N) (fun t => by kernel_rfl)
def o35 : List (Nat × FC) := (35, c35) :: o34
theorem ok35 (N : Nat) : OrcOK Try.prog o35 N := orc_cons (t35 N) (ok34 N)
def f36 (N : Nat) (a0 : Int) (a1 : Int) : Option Bool :=
  bif ((decide ((0 : Int) < a0)) == true) then
    (f55 N a0 4294967296).bind fun r0 =>
    (f55 N a1 65536).bind fun r1 =>
    some (decide ((4294967296 : Int) ≤ (IntKind.wrap .i64 (r0 * r1))))
  else some false
def s36 (_ : Nat) : List (Nat × LC) := []
noncomputable def e36 (N : Nat) : Env := mkEnv Try.prog o35 (s36 N) N
theorem q36 (N : Nat) : LoopsFor (e36 N) Try.prog 36 0 := ⟨by kernel_rfl, fun j hj => match j, hj with
  | _ + 0, h => absurd h (by omega)⟩
def c36 : FC := mkF [.sc (.int .i64), .sc (.int .i64)] [.sc (.bool)] f36
theorem t36 (N : Nat) : FCOK Try.prog N 36 c36 := fun_ok facts (ok35 N) (by kernel_rfl) (by kernel_rfl) (q36 N) (fun t => by kernel_rfl)
def o36 : List (Nat × FC) := (36, c36) :: o35
theorem ok36 (N : Nat) : OrcOK Try.prog o36 N := orc_cons (t36 N) (ok35 N)
def f38 (_N : Nat) (a0 : Int) (a1 : Int) : Option Bool :=
  bif (decide (a1 ≤ 0)) then
    some false
  else bif (decide ((4294967296 : Int) ≤ a1)) then
    some true
  else some (decide ((IntKind.wrap .i64 a0) < a1))
def s38 (_ : Nat) : List (Nat × LC) := []
noncomputable def e38 (N : Nat) : Env := mkEnv Try.prog o36 (s38 N) N
theorem q38 (N : Nat) : LoopsFor (e38 N) Try.prog 38 0 := ⟨by kernel_rfl, fun j hj => match j, hj with
  | _ + 0, h => absurd h (by omega)⟩
def c38 : FC := mkF [.sc (.int .u32), .sc (.int .i64)] [.sc (.bool)] f38
theorem t38 (N : Nat) : FCOK Try.prog N 38 c38 := fun_ok facts (ok36 N) (by kernel_rfl) (by kernel_rfl) (q38 N) (fun t => by kernel_rfl)
def o38 : List (Nat × FC) := (38, c38) :: o36
theorem ok38 (N : Nat) : OrcOK Try.prog o38 N := orc_cons (t38 N) (ok36 N)
def f11 (N : Nat) (a0 : Int) (a1 : Int) (a2 : Int) : Option Bool :=
  (f30 N a0).bind fun r0 =>
  (f33 N a0).bind fun r1 =>
  bif ((r0 == r1) == true) then
    (f31 N a0 a1).bind fun r2 =>
    (f34 N a0 a1).bind fun r3 =>
    bif ((r2 == r3) == true) then
      (f35 N a0 a1).bind fun r4 =>
      (f36 N a0 a1).bind fun r5 =>
      bif ((r4 == r5) == true) then
        (f37 N a2 a0).bind fun r6 =>
        (f38 N a2 a0).bind fun r7 =>
        bif ((r6 == r7) == true) then
          (f32 N).bind fun r8 =>
          some r8
        else some false
      else some false
    else some false
  else some false
def s11 (_ : Nat) : List (Nat × LC) := []
noncomputable def e11 (N : Nat) : Env := mkEnv Try.prog o38 (s11 N) N
theorem q11 (N : Nat) : LoopsFor (e11 N) Try.prog 11 0 := ⟨by kernel_rfl, fun j hj => match j, hj with
  | _ + 0, h => absurd h (by omega)⟩
theorem okL11 (N : Nat) : OrcOK Try.prog o38 N := ok38 N
theorem w11 (N : Nat) (x : RT [.sc (.int .i64), .sc (.int .i64), .sc (.int .u32)]) : uncR [.sc (.int .i64), .sc (.int .i64), .sc (.int .u32)] (f11 N) x = evFn (e11 N) 13 11 (encA 0 [.sc (.int .i64), .sc (.int .i64), .sc (.int .u32)] x).1 (encA 0 [.sc (.int .i64), .sc (.int .i64), .sc (.int .u32)] x).2 (decR [.sc .bool]) := by kernel_rfl
def f56 (N : Nat) (a0 : Int) : Option Int :=
  (f44 N a0 0 2097152).bind fun r0 =>
  some r0
def s56 (_ : Nat) : List (Nat × LC) := []
noncomputable def e56 (N : Nat) : Env := mkEnv Try.prog o38 (s56 N) N
theorem q56 (N : Nat) : LoopsFor (e56 N) Try.prog 56 0 := ⟨by kernel_rfl, fun j hj => match j, hj with
  | _ + 0, h => absurd h (by omega)⟩
def c56 : FC := mkF [.agg [.int .i64]] [.agg [.int .i64]] f56
theorem t56 (N : Nat) : FCOK Try.prog N 56 c56 := fun_ok facts (ok38 N) (by kernel_rfl) (by kernel_rfl) (q56 N) (fun t => by kernel_rfl)
def o56 : List (Nat × FC) := (56, c56) :: o38
theorem ok56 (N : Nat) : OrcOK Try.prog o56 N := orc_cons (t56 N) (ok38 N)
def f70 (_N : Nat) (a0 : Bool) : Option Int :=
  bif a0 then
    some (-9223372036854775808)
  else some 9223372036854775807
def s70 (_ : Nat) : List (Nat × LC) := []
noncomputable def e70 (N : Nat) : Env := mkEnv Try.prog o56 (s70 N) N
theorem q70 (N : Nat) : LoopsFor (e70 N) Try.prog 70 0 := ⟨by kernel_rfl, fun j hj => match j, hj with
  | _ + 0, h => absurd h (by omega)⟩
def c70 : FC := mkF [.sc (.bool)] [.sc (.int .i64)] f70
theorem t70 (N : Nat) : FCOK Try.prog N 70 c70 := fun_ok facts (ok56 N) (by kernel_rfl) (by kernel_rfl) (q70 N) (fun t => by kernel_rfl)
def o70 : List (Nat × FC) := (70, c70) :: o56
theorem ok70 (N : Nat) : OrcOK Try.prog o70 N := orc_cons (t70 N) (ok56 N)
def f61 (N : Nat) (a0 : Int) (a1 : Int) : Option Int :=
  bif (decide ((bits .and .i64 (bits .xor .i64 a0 a1) (bits .xor .i64 a0 (IntKind.wrap .i64 (a0 - a1)))) < 0)) then
    (f70 N (decide (a0 < 0))).bind fun r0 =>
    some r0
  else some (IntKind.wrap .i64 (a0 - a1))
def s61 (_ : Nat) : List (Nat × LC) := []
noncomputable def e61 (N : Nat) : Env := mkEnv Try.prog o70 (s61 N) N
theorem q61 (N : Nat) : LoopsFor (e61 N) Try.prog 61 0 := ⟨by kernel_rfl, fun j hj => match j, hj with
  | _ + 0, h => absurd h (by omega)⟩
def c61 : FC := mkF [.sc (.int .i64), .sc (.int .i64)] [.sc (.int .i64)] f61
theorem t61 (N : Nat) : FCOK Try.prog N 61 c61 := fun_ok facts (ok70 N) (by kernel_rfl) (by kernel_rfl) (q61 N) (fun t => by kernel_rfl)
def o61 : List (Nat × FC) := (61, c61) :: o70
theorem ok61 (N : Nat) : OrcOK Try.prog o61 N := orc_cons (t61 N) (ok70 N)
def f69 (N : Nat) (a0 : Int) (a1 : Int) : Option Int :=
  bif (decide ((bits .and .i64 (bits .xor .i64 a0 (IntKind.wrap .i64 (a0 + a1))) (bits .xor .i64 a1 (IntKind.wrap .i64 (a0 + a1)))) < 0)) then
    (f70 N (decide (a0 < 0))).bind fun r0 =>
    some r0
  else some (IntKind.wrap .i64 (a0 + a1))
def s69 (_ : Nat) : List (Nat × LC) := []
noncomputable def e69 (N : Nat) : Env := mkEnv Try.prog o61 (s69 N) N
theorem q69 (N : Nat) : LoopsFor (e69 N) Try.prog 69 0 := ⟨by kernel_rfl, fun j hj => match j, hj with
  | _ + 0, h => absurd h (by omega)⟩
def c69 : FC := mkF [.sc (.int .i64), .sc (.int .i64)] [.sc (.int .i64)] f69
theorem t69 (N : Nat) : FCOK Try.prog N 69 c69 := fun_ok facts (ok61 N) (by kernel_rfl) (by kernel_rfl) (q69 N) (fun t => by kernel_rfl)
def o69 : List (Nat × FC) := (69, c69) :: o61
theorem ok69 (N : Nat) : OrcOK Try.prog o69 N := orc_cons (t69 N) (ok61 N)
def f58 (N : Nat) (a0 : Int) (a1 : Int) (a2 : Int) : Option Int :=
  (f61 N a1 a0).bind fun r0 =>
  bif (!(decide ((if (if 62 < a2 then 62 else a2) > 0 then (if 62 < a2 then 62 else a2) else 0) < 0))) then
    (f69 N a0 (Int.fdiv r0 (2 ^ (min ((if (if 62 < a2 then 62 else a2) > 0 then (if 62 < a2 then 62 else a2) else 0)).toNat 64)))).bind fun r1 =>
    some r1
  else none
def s58 (_ : Nat) : List (Nat × LC) := []
noncomputable def e58 (N : Nat) : Env := mkEnv Try.prog o69 (s58 N) N
theorem q58 (N : Nat) : LoopsFor (e58 N) Try.prog 58 0 := ⟨by kernel_rfl, fun j hj => match j, hj with
  | _ + 0, h => absurd h (by omega)⟩
def c58 : FC := mkF [.sc (.int .i64), .sc (.int .i64), .sc (.int .i64)] [.sc (.int .i64)] f58
theorem t58 (N : Nat) : FCOK Try.prog N 58 c58 := fun_ok facts (ok69 N) (by kernel_rfl) (by kernel_rfl) (q58 N) (fun t => by kernel_rfl)
def o58 : List (Nat × FC) := (58, c58) :: o69
theorem ok58 (N : Nat) : OrcOK Try.prog o58 N := orc_cons (t58 N) (ok69 N)
def f60 (N : Nat) (a0 : Int) (a1 : Int) : Option Int :=
  bif (decide (a0 ≤ 0)) then
    some 0
  else bif ((decide (a1 ≤ 0)) == false) then
    bif (decide (a1 ≤ a0)) then
      some 1048576
    else (f52 N a0 1048576 a1).bind fun r0 =>
    some r0.1
  else some 1048576
def s60 (_ : Nat) : List (Nat × LC) := []
noncomputable def e60 (N : Nat) : Env := mkEnv Try.prog o58 (s60 N) N
theorem q60 (N : Nat) : LoopsFor (e60 N) Try.prog 60 0 := ⟨by kernel_rfl, fun j hj => match j, hj with
  | _ + 0, h => absurd h (by omega)⟩
def c60 : FC := mkF [.sc (.int .i64), .sc (.int .i64)] [.sc (.int .i64)] f60
theorem t60 (N : Nat) : FCOK Try.prog N 60 c60 := fun_ok facts (ok58 N) (by kernel_rfl) (by kernel_rfl) (q60 N) (fun t => by kernel_rfl)
def o60 : List (Nat × FC) := (60, c60) :: o58
theorem ok60 (N : Nat) : OrcOK Try.prog o60 N := orc_cons (t60 N) (ok58 N)
def L59_2 (_N : Nat) (F : ((Int × (Int × (Int × Unit))) × Unit) → Option ((Int × Unit) × Unit)) (x : ((Int × (Int × (Int × Unit))) × Unit)) : Option ((Int × Unit) × Unit) :=
  bif (decide (x.1.2.2.1 < x.1.2.1)) then
    F (((Int.fdiv x.1.1 2), (x.1.2.1, ((IntKind.wrap .i64 (x.1.2.2.1 + 1)), ()))), ())
  else some ((x.1.1, ()), ())
def f59 (N : Nat) (a0 : Int) (a1 : Int) : Option Int :=
  (iter (L59_2 N) N ((a0, ((if 64 < (if 0 > a1 then 0 else a1) then 64 else (if 0 > a1 then 0 else a1)), (0, ()))), ())).bind fun r0 =>
  some r0.1.1
def p59_2 : List Pat := [.sc (.int .i64), .any, .any, .any, .any, .any, .any, .sc (.int .i64), .sc (.int .i64), .any, .any, .any, .any, .any]
def h59_2 : List HPat := []
def x59_2 : List XP := [⟨.exit 0, [.sc (.int .i64), .any, .any, .any, .any, .any, .any, .any, .any, .any, .any, .any, .any, .any], []⟩]
def lc59_2 (N : Nat) : LC := mkLC p59_2 h59_2 x59_2 (L59_2 N)
def s59 (N : Nat) : List (Nat × LC) := [(2, lc59_2 N)]
noncomputable def e59 (N : Nat) : Env := mkEnv Try.prog o60 (s59 N) N
theorem k59_2 (N : Nat) : LCOK (e59 N) 12 (loopAt Try.prog 59 0) (lc59_2 N) := mkLC_ok (by kernel_rfl) (by kernel_rfl) (fun F x => by kernel_rfl)
theorem q59 (N : Nat) : LoopsFor (e59 N) Try.prog 59 1 := ⟨by kernel_rfl, fun j hj => match j, hj with
  | 0, _ => ⟨lc59_2 N, by kernel_rfl, k59_2 N⟩
  | _ + 1, h => absurd h (by omega)⟩
def c59 : FC := mkF [.sc (.int .i64), .sc (.int .i64)] [.sc (.int .i64)] f59
theorem t59 (N : Nat) : FCOK Try.prog N 59 c59 := fun_ok facts (ok60 N) (by kernel_rfl) (by kernel_rfl) (q59 N) (fun t => by kernel_rfl)
def o59 : List (Nat × FC) := (59, c59) :: o60
theorem ok59 (N : Nat) : OrcOK Try.prog o59 N := orc_cons (t59 N) (ok60 N)
def f39 (N : Nat) (a0 : Int) (a1 : Bool) (a2 : Int) (a3 : Int) : Option Int :=
  (f56 N a0).bind fun r0 =>
  bif (!a1) then
    (f58 N r0 0 6).bind fun r1 =>
    some r1
  else bif (decide (a2 ≤ (if 1 > a3 then 1 else a3))) then
    (f58 N r0 0 3).bind fun r2 =>
    some r2
  else (f61 N a2 (if 1 > a3 then 1 else a3)).bind fun r3 =>
  (f60 N r3 (if 1 > a3 then 1 else a3)).bind fun r4 =>
  (f59 N r4 2).bind fun r5 =>
  (f56 N (IntKind.wrap .i64 (r0 + r5))).bind fun r6 =>
  some r6
def s39 (_ : Nat) : List (Nat × LC) := []
noncomputable def e39 (N : Nat) : Env := mkEnv Try.prog o59 (s39 N) N
theorem q39 (N : Nat) : LoopsFor (e39 N) Try.prog 39 0 := ⟨by kernel_rfl, fun j hj => match j, hj with
  | _ + 0, h => absurd h (by omega)⟩
def c39 : FC := mkF [.agg [.int .i64], .sc (.bool), .sc (.int .i64), .sc (.int .i64)] [.agg [.int .i64]] f39
theorem t39 (N : Nat) : FCOK Try.prog N 39 c39 := fun_ok facts (ok59 N) (by kernel_rfl) (by kernel_rfl) (q39 N) (fun t => by kernel_rfl)
def o39 : List (Nat × FC) := (39, c39) :: o59
theorem ok39 (N : Nat) : OrcOK Try.prog o39 N := orc_cons (t39 N) (ok59 N)
def f71 (_N : Nat) (a0 : Int) (a1 : Int) : Option Int :=
  bif ((decide ((0 : Int) < a1)) == true) then
    bif (decide ((IntKind.wrap .i64 (9223372036854775807 - a1)) < a0)) then
      some 9223372036854775807
    else bif ((decide (a1 < 0)) == true) then
      bif (decide (a0 < (IntKind.wrap .i64 ((-9223372036854775808) - a1)))) then
        some (-9223372036854775808)
      else some (IntKind.wrap .i64 (a0 + a1))
    else some (IntKind.wrap .i64 (a0 + a1))
  else bif ((decide (a1 < 0)) == true) then
    bif (decide (a0 < (IntKind.wrap .i64 ((-9223372036854775808) - a1)))) then
      some (-9223372036854775808)
    else some (IntKind.wrap .i64 (a0 + a1))
  else some (IntKind.wrap .i64 (a0 + a1))
def s71 (_ : Nat) : List (Nat × LC) := []
noncomputable def e71 (N : Nat) : Env := mkEnv Try.prog o39 (s71 N) N
theorem q71 (N : Nat) : LoopsFor (e71 N) Try.prog 71 0 := ⟨by kernel_rfl, fun j hj => match j, hj with
  | _ + 0, h => absurd h (by omega)⟩
def c71 : FC := mkF [.sc (.int .i64), .sc (.int .i64)] [.sc (.int .i64)] f71
theorem t71 (N : Nat) : FCOK Try.prog N 71 c71 := fun_ok facts (ok39 N) (by kernel_rfl) (by kernel_rfl) (q71 N) (fun t => by kernel_rfl)
def o71 : List (Nat × FC) := (71, c71) :: o39
theorem ok71 (N : Nat) : OrcOK Try.prog o71 N := orc_cons (t71 N) (ok39 N)
def f64 (N : Nat) (a0 : Int) (a1 : Int) : Option Int :=
  bif (a1 == (-9223372036854775808)) then
    bif (decide ((0 : Int) ≤ a0)) then
      some 9223372036854775807
    else some (IntKind.wrap .i64 (a0 - a1))
  else (f71 N a0 (IntKind.wrap .i64 (0 - a1))).bind fun r0 =>
  some r0
def s64 (_ : Nat) : List (Nat × LC) := []
noncomputable def e64 (N : Nat) : Env := mkEnv Try.prog o71 (s64 N) N
theorem q64 (N : Nat) : LoopsFor (e64 N) Try.prog 64 0 := ⟨by kernel_rfl, fun j hj => match j, hj with
  | _ + 0, h => absurd h (by omega)⟩
def c64 : FC := mkF [.sc (.int .i64), .sc (.int .i64)] [.sc (.int .i64)] f64
theorem t64 (N : Nat) : FCOK Try.prog N 64 c64 := fun_ok facts (ok71 N) (by kernel_rfl) (by kernel_rfl) (q64 N) (fun t => by kernel_rfl)
def o64 : List (Nat × FC) := (64, c64) :: o71
theorem ok64 (N : Nat) : OrcOK Try.prog o64 N := orc_cons (t64 N) (ok71 N)
def f77 (_N : Nat) (a0 : Int) : Option Int :=
  bif (a0 == (-9223372036854775808)) then
    some 9223372036854775807
  else some (IntKind.wrap .i64 (0 - a0))
def s77 (_ : Nat) : List (Nat × LC) := []
noncomputable def e77 (N : Nat) : Env := mkEnv Try.prog o64 (s77 N) N
theorem q77 (N : Nat) : LoopsFor (e77 N) Try.prog 77 0 := ⟨by kernel_rfl, fun j hj => match j, hj with
  | _ + 0, h => absurd h (by omega)⟩
def c77 : FC := mkF [.sc (.int .i64)] [.sc (.int .i64)] f77
theorem t77 (N : Nat) : FCOK Try.prog N 77 c77 := fun_ok facts (ok64 N) (by kernel_rfl) (by kernel_rfl) (q77 N) (fun t => by kernel_rfl)
def o77 : List (Nat × FC) := (77, c77) :: o64
theorem ok77 (N : Nat) : OrcOK Try.prog o77 N := orc_cons (t77 N) (ok64 N)
def f72 (N : Nat) (a0 : Int) (a1 : Int) : Option Int :=
  bif (a1 == 0) then
    some 0
  else bif (a1 == (-1)) then
    (f77 N a0).bind fun r0 =>
    some r0
  else bif (!(decide (a1 = 0))) then
    bif ((!((IntKind.wrap .i64 (a0 - (IntKind.wrap .i64 ((IntKind.wrap .i64 (Int.tdiv a0 a1)) * a1)))) == 0)) == true) then
      bif (!((decide ((IntKind.wrap .i64 (a0 - (IntKind.wrap .i64 ((IntKind.wrap .i64 (Int.tdiv a0 a1)) * a1)))) < 0)) == (decide (a1 < 0)))) then
        some (IntKind.wrap .i64 ((IntKind.wrap .i64 (Int.tdiv a0 a1)) - 1))
      else some (IntKind.wrap .i64 (Int.tdiv a0 a1))
    else some (IntKind.wrap .i64 (Int.tdiv a0 a1))
  else none
def s72 (_ : Nat) : List (Nat × LC) := []
noncomputable def e72 (N : Nat) : Env := mkEnv Try.prog o77 (s72 N) N
theorem q72 (N : Nat) : LoopsFor (e72 N) Try.prog 72 0 := ⟨by kernel_rfl, fun j hj => match j, hj with
  | _ + 0, h => absurd h (by omega)⟩
def c72 : FC := mkF [.sc (.int .i64), .sc (.int .i64)] [.sc (.int .i64)] f72
theorem t72 (N : Nat) : FCOK Try.prog N 72 c72 := fun_ok facts (ok77 N) (by kernel_rfl) (by kernel_rfl) (q72 N) (fun t => by kernel_rfl)
def o72 : List (Nat × FC) := (72, c72) :: o77
theorem ok72 (N : Nat) : OrcOK Try.prog o72 N := orc_cons (t72 N) (ok77 N)
def L62_3 (_N : Nat) (F : ((Int × (Int × (Int × (Int × (Int × Unit))))) × Unit) → Option ((Int × (Int × (Int × Unit))) × Unit)) (x : ((Int × (Int × (Int × (Int × (Int × Unit))))) × Unit)) : Option ((Int × (Int × (Int × Unit))) × Unit) :=
  bif (decide (x.1.2.2.2.2.1 < (if 62 < (if 0 > x.1.2.2.1 then 0 else x.1.2.2.1) then 62 else (if 0 > x.1.2.2.1 then 0 else x.1.2.2.1)))) then
    F ((x.1.1, (x.1.2.1, (x.1.2.2.1, ((IntKind.wrap .i64 (x.1.2.2.2.1 * 2)), ((IntKind.wrap .i64 (x.1.2.2.2.2.1 + 1)), ()))))), ())
  else some ((x.1.1, (x.1.2.1, (x.1.2.2.2.1, ()))), ())
def f62 (N : Nat) (a0 : Int) (a1 : Int) (a2 : Int) : Option Int :=
  (iter (L62_3 N) N ((a0, (a1, (a2, (1, (0, ()))))), ())).bind fun r0 =>
  (f64 N r0.1.2.1 r0.1.1).bind fun r1 =>
  (f72 N r1 r0.1.2.2.1).bind fun r2 =>
  (f71 N r0.1.1 r2).bind fun r3 =>
  some r3
def p62_3 : List Pat := [.sc (.int .i64), .sc (.int .i64), .sc (.int .i64), .any, .any, .any, .any, .sc (.int .i64), .sc (.int .i64), .any, .any, .any, .any, .any, .any, .any, .any, .any, .any, .any, .any, .any, .any, .any, .any]
def h62_3 : List HPat := []
def x62_3 : List XP := [⟨.exit 0, [.sc (.int .i64), .sc (.int .i64), .any, .any, .any, .any, .any, .sc (.int .i64), .any, .any, .any, .any, .any, .any, .any, .any, .any, .any, .any, .any, .any, .any, .any, .any, .any], []⟩]
def lc62_3 (N : Nat) : LC := mkLC p62_3 h62_3 x62_3 (L62_3 N)
def s62 (N : Nat) : List (Nat × LC) := [(3, lc62_3 N)]
noncomputable def e62 (N : Nat) : Env := mkEnv Try.prog o72 (s62 N) N
theorem k62_3 (N : Nat) : LCOK (e62 N) 12 (loopAt Try.prog 62 0) (lc62_3 N) := mkLC_ok (by kernel_rfl) (by kernel_rfl) (fun F x => by kernel_rfl)
theorem q62 (N : Nat) : LoopsFor (e62 N) Try.prog 62 1 := ⟨by kernel_rfl, fun j hj => match j, hj with
  | 0, _ => ⟨lc62_3 N, by kernel_rfl, k62_3 N⟩
  | _ + 1, h => absurd h (by omega)⟩
def c62 : FC := mkF [.sc (.int .i64), .sc (.int .i64), .sc (.int .i64)] [.sc (.int .i64)] f62
theorem t62 (N : Nat) : FCOK Try.prog N 62 c62 := fun_ok facts (ok72 N) (by kernel_rfl) (by kernel_rfl) (q62 N) (fun t => by kernel_rfl)
def o62 : List (Nat × FC) := (62, c62) :: o72
theorem ok62 (N : Nat) : OrcOK Try.prog o62 N := orc_cons (t62 N) (ok72 N)
def L85_3 (_N : Nat) (F : ((Int × (Int × (Int × Unit))) × ((List Int) × Unit)) → Option (Unit × ((List Int) × Unit))) (x : ((Int × (Int × (Int × Unit))) × ((List Int) × Unit))) : Option (Unit × ((List Int) × Unit)) :=
  bif (decide (x.1.2.2.1 < x.1.2.1)) then
    bif (decide ((((x.2.1).length + (([(IntKind.wrap .i64 (Int.tmod x.1.1 2))] : List Int)).length) * 8) ≤ 140737488355328)) then
      F (((IntKind.wrap .u64 (Int.tdiv x.1.1 2)), (x.1.2.1, ((IntKind.wrap .i64 (x.1.2.2.1 + 1)), ()))), ((x.2.1 ++ ([(IntKind.wrap .i64 (Int.tmod x.1.1 2))] : List Int)), ()))
    else none
  else some ((), (x.2.1, ()))
def f85 (N : Nat) (a0 : Int) (a1 : Int) : Option (List Int) :=
  (iter (L85_3 N) N ((a0, (a1, (0, ()))), (([] : List Int), ()))).bind fun r0 =>
  some r0.2.1
def p85_3 : List Pat := [.sc (.int .u64), .sc (.int .i64), .any, .any, .any, .sl 0, .sc (.int .i64), .any, .any, .any, .any, .any, .any, .any, .any, .any, .any, .any, .any, .any, .any]
def h85_3 : List HPat := [.rows 3 [.int .i64]]
def x85_3 : List XP := [⟨.exit 0, [.any, .any, .any, .any, .any, .sl 0, .any, .any, .any, .any, .any, .any, .any, .any, .any, .any, .any, .any, .any, .any, .any], [.rows 3 [.int .i64]]⟩]
def lc85_3 (N : Nat) : LC := mkLC p85_3 h85_3 x85_3 (L85_3 N)
def s85 (N : Nat) : List (Nat × LC) := [(3, lc85_3 N)]
noncomputable def e85 (N : Nat) : Env := mkEnv Try.prog o62 (s85 N) N
theorem k85_3 (N : Nat) : LCOK (e85 N) 12 (loopAt Try.prog 85 0) (lc85_3 N) := mkLC_ok (by kernel_rfl) (by kernel_rfl) (fun F x => by kernel_rfl)
theorem q85 (N : Nat) : LoopsFor (e85 N) Try.prog 85 1 := ⟨by kernel_rfl, fun j hj => match j, hj with
  | 0, _ => ⟨lc85_3 N, by kernel_rfl, k85_3 N⟩
  | _ + 1, h => absurd h (by omega)⟩
def c85 : FC := mkF [.sc (.int .u64), .sc (.int .i64)] [.row 3 [.int .i64]] f85
theorem t85 (N : Nat) : FCOK Try.prog N 85 c85 := fun_ok facts (ok62 N) (by kernel_rfl) (by kernel_rfl) (q85 N) (fun t => by kernel_rfl)
def o85 : List (Nat × FC) := (85, c85) :: o62
theorem ok85 (N : Nat) : OrcOK Try.prog o85 N := orc_cons (t85 N) (ok62 N)
def L87_4 (_N : Nat) (F : ((Int × (Int × Unit)) × ((List Int) × ((List Int) × ((List Int) × Unit)))) → Option ((Int × Unit) × ((List Int) × Unit))) (x : ((Int × (Int × Unit)) × ((List Int) × ((List Int) × ((List Int) × Unit))))) : Option ((Int × Unit) × ((List Int) × Unit)) :=
  bif ((decide (x.1.2.1 < (((x.2.1).length : Nat) : Int))) == false) then
    bif (decide (x.1.2.1 < (((x.2.2.1).length : Nat) : Int))) then
      bif (decide (x.1.2.1 < (((x.2.1).length : Nat) : Int))) then
        bif ((decide ((0 : Int) ≤ x.1.2.1)) && (decide (x.1.2.1 < (((x.2.1).length : Nat) : Int)))) then
          bif (decide (x.1.2.1 < (((x.2.2.1).length : Nat) : Int))) then
            bif ((decide ((0 : Int) ≤ x.1.2.1)) && (decide (x.1.2.1 < (((x.2.2.1).length : Nat) : Int)))) then
              bif (decide ((((x.2.2.2.1).length + (([(Int.tmod (IntKind.wrap .i64 ((IntKind.wrap .i64 (x.1.1 + (x.2.1.getD (x.1.2.1).toNat 0))) + (x.2.2.1.getD (x.1.2.1).toNat 0))) 2)] : List Int)).length) * 8) ≤ 140737488355328)) then
                F (((IntKind.wrap .i64 (Int.tdiv (IntKind.wrap .i64 ((IntKind.wrap .i64 (x.1.1 + (x.2.1.getD (x.1.2.1).toNat 0))) + (x.2.2.1.getD (x.1.2.1).toNat 0))) 2)), ((IntKind.wrap .i64 (x.1.2.1 + 1)), ())), (x.2.1, (x.2.2.1, ((x.2.2.2.1 ++ ([(Int.tmod (IntKind.wrap .i64 ((IntKind.wrap .i64 (x.1.1 + (x.2.1.getD (x.1.2.1).toNat 0))) + (x.2.2.1.getD (x.1.2.1).toNat 0))) 2)] : List Int)), ()))))
              else none
            else none
          else bif (decide ((((x.2.2.2.1).length + (([(Int.tmod (IntKind.wrap .i64 (x.1.1 + (x.2.1.getD (x.1.2.1).toNat 0))) 2)] : List Int)).length) * 8) ≤ 140737488355328)) then
            F (((IntKind.wrap .i64 (Int.tdiv (IntKind.wrap .i64 (x.1.1 + (x.2.1.getD (x.1.2.1).toNat 0))) 2)), ((IntKind.wrap .i64 (x.1.2.1 + 1)), ())), (x.2.1, (x.2.2.1, ((x.2.2.2.1 ++ ([(Int.tmod (IntKind.wrap .i64 (x.1.1 + (x.2.1.getD (x.1.2.1).toNat 0))) 2)] : List Int)), ()))))
          else none
        else none
      else bif (decide (x.1.2.1 < (((x.2.2.1).length : Nat) : Int))) then
        bif ((decide ((0 : Int) ≤ x.1.2.1)) && (decide (x.1.2.1 < (((x.2.2.1).length : Nat) : Int)))) then
          bif (decide ((((x.2.2.2.1).length + (([(Int.tmod (IntKind.wrap .i64 (x.1.1 + (x.2.2.1.getD (x.1.2.1).toNat 0))) 2)] : List Int)).length) * 8) ≤ 140737488355328)) then
            F (((IntKind.wrap .i64 (Int.tdiv (IntKind.wrap .i64 (x.1.1 + (x.2.2.1.getD (x.1.2.1).toNat 0))) 2)), ((IntKind.wrap .i64 (x.1.2.1 + 1)), ())), (x.2.1, (x.2.2.1, ((x.2.2.2.1 ++ ([(Int.tmod (IntKind.wrap .i64 (x.1.1 + (x.2.2.1.getD (x.1.2.1).toNat 0))) 2)] : List Int)), ()))))
          else none
        else none
      else bif (decide ((((x.2.2.2.1).length + (([(Int.tmod x.1.1 2)] : List Int)).length) * 8) ≤ 140737488355328)) then
        F (((IntKind.wrap .i64 (Int.tdiv x.1.1 2)), ((IntKind.wrap .i64 (x.1.2.1 + 1)), ())), (x.2.1, (x.2.2.1, ((x.2.2.2.1 ++ ([(Int.tmod x.1.1 2)] : List Int)), ()))))
      else none
    else some ((x.1.1, ()), (x.2.2.2.1, ()))
  else bif (decide (x.1.2.1 < (((x.2.1).length : Nat) : Int))) then
    bif ((decide ((0 : Int) ≤ x.1.2.1)) && (decide (x.1.2.1 < (((x.2.1).length : Nat) : Int)))) then
      bif (decide (x.1.2.1 < (((x.2.2.1).length : Nat) : Int))) then
        bif ((decide ((0 : Int) ≤ x.1.2.1)) && (decide (x.1.2.1 < (((x.2.2.1).length : Nat) : Int)))) then
          bif (decide ((((x.2.2.2.1).length + (([(Int.tmod (IntKind.wrap .i64 ((IntKind.wrap .i64 (x.1.1 + (x.2.1.getD (x.1.2.1).toNat 0))) + (x.2.2.1.getD (x.1.2.1).toNat 0))) 2)] : List Int)).length) * 8) ≤ 140737488355328)) then
            F (((IntKind.wrap .i64 (Int.tdiv (IntKind.wrap .i64 ((IntKind.wrap .i64 (x.1.1 + (x.2.1.getD (x.1.2.1).toNat 0))) + (x.2.2.1.getD (x.1.2.1).toNat 0))) 2)), ((IntKind.wrap .i64 (x.1.2.1 + 1)), ())), (x.2.1, (x.2.2.1, ((x.2.2.2.1 ++ ([(Int.tmod (IntKind.wrap .i64 ((IntKind.wrap .i64 (x.1.1 + (x.2.1.getD (x.1.2.1).toNat 0))) + (x.2.2.1.getD (x.1.2.1).toNat 0))) 2)] : List Int)), ()))))
          else none
        else none
      else bif (decide ((((x.2.2.2.1).length + (([(Int.tmod (IntKind.wrap .i64 (x.1.1 + (x.2.1.getD (x.1.2.1).toNat 0))) 2)] : List Int)).length) * 8) ≤ 140737488355328)) then
        F (((IntKind.wrap .i64 (Int.tdiv (IntKind.wrap .i64 (x.1.1 + (x.2.1.getD (x.1.2.1).toNat 0))) 2)), ((IntKind.wrap .i64 (x.1.2.1 + 1)), ())), (x.2.1, (x.2.2.1, ((x.2.2.2.1 ++ ([(Int.tmod (IntKind.wrap .i64 (x.1.1 + (x.2.1.getD (x.1.2.1).toNat 0))) 2)] : List Int)), ()))))
      else none
    else none
  else bif (decide (x.1.2.1 < (((x.2.2.1).length : Nat) : Int))) then
    bif ((decide ((0 : Int) ≤ x.1.2.1)) && (decide (x.1.2.1 < (((x.2.2.1).length : Nat) : Int)))) then
      bif (decide ((((x.2.2.2.1).length + (([(Int.tmod (IntKind.wrap .i64 (x.1.1 + (x.2.2.1.getD (x.1.2.1).toNat 0))) 2)] : List Int)).length) * 8) ≤ 140737488355328)) then
        F (((IntKind.wrap .i64 (Int.tdiv (IntKind.wrap .i64 (x.1.1 + (x.2.2.1.getD (x.1.2.1).toNat 0))) 2)), ((IntKind.wrap .i64 (x.1.2.1 + 1)), ())), (x.2.1, (x.2.2.1, ((x.2.2.2.1 ++ ([(Int.tmod (IntKind.wrap .i64 (x.1.1 + (x.2.2.1.getD (x.1.2.1).toNat 0))) 2)] : List Int)), ()))))
      else none
    else none
  else bif (decide ((((x.2.2.2.1).length + (([(Int.tmod x.1.1 2)] : List Int)).length) * 8) ≤ 140737488355328)) then
    F (((IntKind.wrap .i64 (Int.tdiv x.1.1 2)), ((IntKind.wrap .i64 (x.1.2.1 + 1)), ())), (x.2.1, (x.2.2.1, ((x.2.2.2.1 ++ ([(Int.tmod x.1.1 2)] : List Int)), ()))))
  else none
def f87 (N : Nat) (a0 : (List Int)) (a1 : (List Int)) : Option (List Int) :=
  (iter (L87_4 N) N ((0, (0, ())), (a0, (a1, (([] : List Int), ()))))).bind fun r0 =>
  bif (decide ((((r0.2.1).length + (([r0.1.1] : List Int)).length) * 8) ≤ 140737488355328)) then
    some (r0.2.1 ++ ([r0.1.1] : List Int))
  else none
def p87_4 : List Pat := [.sl 0, .sl 1, .any, .any, .any, .sl 2, .sc (.int .i64), .sc (.int .i64), .any, .any, .any, .any, .any, .any, .any, .any, .any, .any, .any, .any, .any, .any, .any, .any, .any, .any, .any, .any, .any, .any, .any, .any, .any, .any, .any, .any, .any, .any, .any, .any, .any, .any, .any, .any, .any, .any, .any, .any, .any, .any, .any, .any, .any]
def h87_4 : List HPat := [.ext 3 [.int .i64], .ext 3 [.int .i64], .rows 3 [.int .i64]]
def x87_4 : List XP := [⟨.exit 0, [.any, .any, .any, .any, .any, .sl 0, .sc (.int .i64), .any, .any, .any, .any, .any, .any, .any, .any, .any, .any, .any, .any, .any, .any, .any, .any, .any, .any, .any, .any, .any, .any, .any, .any, .any, .any, .any, .any, .any, .any, .any, .any, .any, .any, .any, .any, .any, .any, .any, .any, .any, .any, .any, .any, .any, .any], [.rows 3 [.int .i64]]⟩]
def lc87_4 (N : Nat) : LC := mkLC p87_4 h87_4 x87_4 (L87_4 N)
def s87 (N : Nat) : List (Nat × LC) := [(4, lc87_4 N)]
noncomputable def e87 (N : Nat) : Env := mkEnv Try.prog o85 (s87 N) N
theorem k87_4 (N : Nat) : LCOK (e87 N) 12 (loopAt Try.prog 87 0) (lc87_4 N) := mkLC_ok (by kernel_rfl) (by kernel_rfl) (fun F x => by kernel_rfl)
theorem q87 (N : Nat) : LoopsFor (e87 N) Try.prog 87 1 := ⟨by kernel_rfl, fun j hj => match j, hj with
  | 0, _ => ⟨lc87_4 N, by kernel_rfl, k87_4 N⟩
  | _ + 1, h => absurd h (by omega)⟩
def c87 : FC := mkF [.row 3 [.int .i64], .row 3 [.int .i64]] [.row 3 [.int .i64]] f87
theorem t87 (N : Nat) : FCOK Try.prog N 87 c87 := fun_ok facts (ok85 N) (by kernel_rfl) (by kernel_rfl) (q87 N) (fun t => by kernel_rfl)
def o87 : List (Nat × FC) := (87, c87) :: o85
theorem ok87 (N : Nat) : OrcOK Try.prog o87 N := orc_cons (t87 N) (ok85 N)
def L84_3 (N : Nat) (F : ((Int × Unit) × ((List Int) × ((List Int) × ((List Int) × Unit)))) → Option (Unit × ((List Int) × Unit))) (x : ((Int × Unit) × ((List Int) × ((List Int) × ((List Int) × Unit))))) : Option (Unit × ((List Int) × Unit)) :=
  bif (decide (x.1.1 < (((x.2.2.1).length : Nat) : Int))) then
    bif ((decide ((0 : Int) ≤ x.1.1)) && (decide (x.1.1 < (((x.2.2.1).length : Nat) : Int)))) then
      bif ((x.2.2.1.getD (x.1.1).toNat 0) == 1) then
        bif ((decide ((0 : Int) ≤ x.1.1)) && (((decide (x.1.1 = x.1.1)) && (decide ((x.1.1 * 8) ≤ 140737488355328))) && (decide (x.1.1 ≤ 140737488355328)))) then
          bif (decide (((((List.replicate (x.1.1).toNat (0 : Int))).length + (x.2.1).length) * 8) ≤ 140737488355328)) then
            (f87 N x.2.2.2.1 ((List.replicate (x.1.1).toNat (0 : Int)) ++ x.2.1)).bind fun r0 =>
            F (((IntKind.wrap .i64 (x.1.1 + 1)), ()), (x.2.1, (x.2.2.1, (r0, ()))))
          else none
        else none
      else F (((IntKind.wrap .i64 (x.1.1 + 1)), ()), (x.2.1, (x.2.2.1, (x.2.2.2.1, ()))))
    else none
  else some ((), (x.2.2.2.1, ()))
def f84 (N : Nat) (a0 : (List Int)) (a1 : (List Int)) : Option (List Int) :=
  (iter (L84_3 N) N ((0, ()), (a0, (a1, (([0] : List Int), ()))))).bind fun r0 =>
  some r0.2.1
def p84_3 : List Pat := [.sl 0, .sl 1, .any, .any, .any, .sl 2, .sc (.int .i64), .any, .any, .any, .any, .any, .any, .any, .any, .any, .any, .any, .any, .any, .any, .any, .any, .any, .any, .any]
def h84_3 : List HPat := [.ext 3 [.int .i64], .ext 3 [.int .i64], .rows 3 [.int .i64]]
def x84_3 : List XP := [⟨.exit 0, [.any, .any, .any, .any, .any, .sl 0, .any, .any, .any, .any, .any, .any, .any, .any, .any, .any, .any, .any, .any, .any, .any, .any, .any, .any, .any, .any], [.rows 3 [.int .i64]]⟩]
def lc84_3 (N : Nat) : LC := mkLC p84_3 h84_3 x84_3 (L84_3 N)
def s84 (N : Nat) : List (Nat × LC) := [(3, lc84_3 N)]
noncomputable def e84 (N : Nat) : Env := mkEnv Try.prog o87 (s84 N) N
theorem k84_3 (N : Nat) : LCOK (e84 N) 12 (loopAt Try.prog 84 0) (lc84_3 N) := mkLC_ok (by kernel_rfl) (by kernel_rfl) (fun F x => by kernel_rfl)
theorem q84 (N : Nat) : LoopsFor (e84 N) Try.prog 84 1 := ⟨by kernel_rfl, fun j hj => match j, hj with
  | 0, _ => ⟨lc84_3 N, by kernel_rfl, k84_3 N⟩
  | _ + 1, h => absurd h (by omega)⟩
def c84 : FC := mkF [.row 3 [.int .i64], .row 3 [.int .i64]] [.row 3 [.int .i64]] f84
theorem t84 (N : Nat) : FCOK Try.prog N 84 c84 := fun_ok facts (ok87 N) (by kernel_rfl) (by kernel_rfl) (q84 N) (fun t => by kernel_rfl)
def o84 : List (Nat × FC) := (84, c84) :: o87
theorem ok84 (N : Nat) : OrcOK Try.prog o84 N := orc_cons (t84 N) (ok87 N)
def L86_2 (_N : Nat) (F : ((Int × Unit) × ((List Int) × ((List Int) × Unit))) → Option (((Int × Unit) × Unit) ⊕ (Unit × Unit))) (x : ((Int × Unit) × ((List Int) × ((List Int) × Unit)))) : Option (((Int × Unit) × Unit) ⊕ (Unit × Unit)) :=
  bif (decide ((0 : Int) ≤ x.1.1)) then
    bif (decide (x.1.1 < (((x.2.1).length : Nat) : Int))) then
      bif ((decide ((0 : Int) ≤ x.1.1)) && (decide (x.1.1 < (((x.2.1).length : Nat) : Int)))) then
        bif (decide (x.1.1 < (((x.2.2.1).length : Nat) : Int))) then
          bif ((decide ((0 : Int) ≤ x.1.1)) && (decide (x.1.1 < (((x.2.2.1).length : Nat) : Int)))) then
            bif (decide ((x.2.1.getD (x.1.1).toNat 0) < (x.2.2.1.getD (x.1.1).toNat 0))) then
              some (.inl (((-1), ()), ()))
            else bif (decide ((x.2.2.1.getD (x.1.1).toNat 0) < (x.2.1.getD (x.1.1).toNat 0))) then
              some (.inl ((1, ()), ()))
            else F (((IntKind.wrap .i64 (x.1.1 - 1)), ()), (x.2.1, (x.2.2.1, ())))
          else none
        else bif (decide ((x.2.1.getD (x.1.1).toNat 0) < 0)) then
          some (.inl (((-1), ()), ()))
        else bif (decide ((0 : Int) < (x.2.1.getD (x.1.1).toNat 0))) then
          some (.inl ((1, ()), ()))
        else F (((IntKind.wrap .i64 (x.1.1 - 1)), ()), (x.2.1, (x.2.2.1, ())))
      else none
    else bif (decide (x.1.1 < (((x.2.2.1).length : Nat) : Int))) then
      bif ((decide ((0 : Int) ≤ x.1.1)) && (decide (x.1.1 < (((x.2.2.1).length : Nat) : Int)))) then
        bif (decide ((0 : Int) < (x.2.2.1.getD (x.1.1).toNat 0))) then
          some (.inl (((-1), ()), ()))
        else bif (decide ((x.2.2.1.getD (x.1.1).toNat 0) < 0)) then
          some (.inl ((1, ()), ()))
        else F (((IntKind.wrap .i64 (x.1.1 - 1)), ()), (x.2.1, (x.2.2.1, ())))
      else none
    else F (((IntKind.wrap .i64 (x.1.1 - 1)), ()), (x.2.1, (x.2.2.1, ())))
  else some (.inr ((), ()))
def f86 (N : Nat) (a0 : (List Int)) (a1 : (List Int)) : Option Int :=
  (iter (L86_2 N) N (((IntKind.wrap .i64 ((if (((a1).length : Nat) : Int) > (((a0).length : Nat) : Int) then (((a1).length : Nat) : Int) else (((a0).length : Nat) : Int)) - 1)), ()), (a0, (a1, ())))).bind fun r0 =>
  match r0 with
  | .inl r1 =>
    some r1.1.1
  | .inr _ =>
    some 0
def p86_2 : List Pat := [.sl 0, .sl 1, .any, .any, .any, .sc (.int .i64), .any, .any, .any, .any, .any, .any, .any, .any, .any, .any, .any, .any, .any, .any, .any, .any, .any, .any, .any, .any, .any, .any, .any, .any, .any, .any, .any, .any, .any, .any, .any, .any, .any, .any]
def h86_2 : List HPat := [.ext 3 [.int .i64], .ext 3 [.int .i64]]
def x86_2 : List XP := [⟨.ret, [.any, .any, .any, .any, .sc (.int .i64), .any, .any, .any, .any, .any, .any, .any, .any, .any, .any, .any, .any, .any, .any, .any, .any, .any, .any, .any, .any, .any, .any, .any, .any, .any, .any, .any, .any, .any, .any, .any, .any, .any, .any, .any], []⟩, ⟨.exit 0, [.any, .any, .any, .any, .any, .any, .any, .any, .any, .any, .any, .any, .any, .any, .any, .any, .any, .any, .any, .any, .any, .any, .any, .any, .any, .any, .any, .any, .any, .any, .any, .any, .any, .any, .any, .any, .any, .any, .any, .any], []⟩]
def lc86_2 (N : Nat) : LC := mkLC p86_2 h86_2 x86_2 (L86_2 N)
def s86 (N : Nat) : List (Nat × LC) := [(2, lc86_2 N)]
noncomputable def e86 (N : Nat) : Env := mkEnv Try.prog o84 (s86 N) N
theorem k86_2 (N : Nat) : LCOK (e86 N) 12 (loopAt Try.prog 86 0) (lc86_2 N) := mkLC_ok (by kernel_rfl) (by kernel_rfl) (fun F x => by kernel_rfl)
theorem q86 (N : Nat) : LoopsFor (e86 N) Try.prog 86 1 := ⟨by kernel_rfl, fun j hj => match j, hj with
  | 0, _ => ⟨lc86_2 N, by kernel_rfl, k86_2 N⟩
  | _ + 1, h => absurd h (by omega)⟩
def c86 : FC := mkF [.row 3 [.int .i64], .row 3 [.int .i64]] [.sc (.int .i64)] f86
theorem t86 (N : Nat) : FCOK Try.prog N 86 c86 := fun_ok facts (ok84 N) (by kernel_rfl) (by kernel_rfl) (q86 N) (fun t => by kernel_rfl)
def o86 : List (Nat × FC) := (86, c86) :: o84
theorem ok86 (N : Nat) : OrcOK Try.prog o86 N := orc_cons (t86 N) (ok84 N)
def L91_4 (_N : Nat) (F : ((Int × (Int × Unit)) × ((List Int) × ((List Int) × ((List Int) × Unit)))) → Option (Unit × ((List Int) × Unit))) (x : ((Int × (Int × Unit)) × ((List Int) × ((List Int) × ((List Int) × Unit))))) : Option (Unit × ((List Int) × Unit)) :=
  bif (decide (x.1.2.1 < (((x.2.1).length : Nat) : Int))) then
    bif ((decide ((0 : Int) ≤ x.1.2.1)) && (decide (x.1.2.1 < (((x.2.1).length : Nat) : Int)))) then
      bif (decide (x.1.2.1 < (((x.2.2.1).length : Nat) : Int))) then
        bif ((decide ((0 : Int) ≤ x.1.2.1)) && (decide (x.1.2.1 < (((x.2.2.1).length : Nat) : Int)))) then
          bif (decide ((IntKind.wrap .i64 ((IntKind.wrap .i64 ((x.2.1.getD (x.1.2.1).toNat 0) - x.1.1)) - (x.2.2.1.getD (x.1.2.1).toNat 0))) < 0)) then
            bif (decide ((((x.2.2.2.1).length + (([(IntKind.wrap .i64 ((IntKind.wrap .i64 ((IntKind.wrap .i64 ((x.2.1.getD (x.1.2.1).toNat 0) - x.1.1)) - (x.2.2.1.getD (x.1.2.1).toNat 0))) + 2))] : List Int)).length) * 8) ≤ 140737488355328)) then
              F ((1, ((IntKind.wrap .i64 (x.1.2.1 + 1)), ())), (x.2.1, (x.2.2.1, ((x.2.2.2.1 ++ ([(IntKind.wrap .i64 ((IntKind.wrap .i64 ((IntKind.wrap .i64 ((x.2.1.getD (x.1.2.1).toNat 0) - x.1.1)) - (x.2.2.1.getD (x.1.2.1).toNat 0))) + 2))] : List Int)), ()))))
            else none
          else bif (decide ((((x.2.2.2.1).length + (([(IntKind.wrap .i64 ((IntKind.wrap .i64 ((x.2.1.getD (x.1.2.1).toNat 0) - x.1.1)) - (x.2.2.1.getD (x.1.2.1).toNat 0)))] : List Int)).length) * 8) ≤ 140737488355328)) then
            F ((0, ((IntKind.wrap .i64 (x.1.2.1 + 1)), ())), (x.2.1, (x.2.2.1, ((x.2.2.2.1 ++ ([(IntKind.wrap .i64 ((IntKind.wrap .i64 ((x.2.1.getD (x.1.2.1).toNat 0) - x.1.1)) - (x.2.2.1.getD (x.1.2.1).toNat 0)))] : List Int)), ()))))
          else none
        else none
      else bif (decide ((IntKind.wrap .i64 ((x.2.1.getD (x.1.2.1).toNat 0) - x.1.1)) < 0)) then
        bif (decide ((((x.2.2.2.1).length + (([(IntKind.wrap .i64 ((IntKind.wrap .i64 ((x.2.1.getD (x.1.2.1).toNat 0) - x.1.1)) + 2))] : List Int)).length) * 8) ≤ 140737488355328)) then
          F ((1, ((IntKind.wrap .i64 (x.1.2.1 + 1)), ())), (x.2.1, (x.2.2.1, ((x.2.2.2.1 ++ ([(IntKind.wrap .i64 ((IntKind.wrap .i64 ((x.2.1.getD (x.1.2.1).toNat 0) - x.1.1)) + 2))] : List Int)), ()))))
        else none
      else bif (decide ((((x.2.2.2.1).length + (([(IntKind.wrap .i64 ((x.2.1.getD (x.1.2.1).toNat 0) - x.1.1))] : List Int)).length) * 8) ≤ 140737488355328)) then
        F ((0, ((IntKind.wrap .i64 (x.1.2.1 + 1)), ())), (x.2.1, (x.2.2.1, ((x.2.2.2.1 ++ ([(IntKind.wrap .i64 ((x.2.1.getD (x.1.2.1).toNat 0) - x.1.1))] : List Int)), ()))))
      else none
    else none
  else some ((), (x.2.2.2.1, ()))
def f91 (N : Nat) (a0 : (List Int)) (a1 : (List Int)) : Option (List Int) :=
  (iter (L91_4 N) N ((0, (0, ())), (a0, (a1, (([] : List Int), ()))))).bind fun r0 =>
  some r0.2.1
def p91_4 : List Pat := [.sl 0, .sl 1, .any, .any, .any, .sl 2, .sc (.int .i64), .sc (.int .i64), .any, .any, .any, .any, .any, .any, .any, .any, .any, .any, .any, .any, .any, .any, .any, .any, .any, .any, .any, .any, .any, .any, .any, .any, .any, .any, .any, .any, .any, .any, .any, .any]
def h91_4 : List HPat := [.ext 3 [.int .i64], .ext 3 [.int .i64], .rows 3 [.int .i64]]
def x91_4 : List XP := [⟨.exit 0, [.any, .any, .any, .any, .any, .sl 0, .any, .any, .any, .any, .any, .any, .any, .any, .any, .any, .any, .any, .any, .any, .any, .any, .any, .any, .any, .any, .any, .any, .any, .any, .any, .any, .any, .any, .any, .any, .any, .any, .any, .any], [.rows 3 [.int .i64]]⟩]
def lc91_4 (N : Nat) : LC := mkLC p91_4 h91_4 x91_4 (L91_4 N)
def s91 (N : Nat) : List (Nat × LC) := [(4, lc91_4 N)]
noncomputable def e91 (N : Nat) : Env := mkEnv Try.prog o86 (s91 N) N
theorem k91_4 (N : Nat) : LCOK (e91 N) 12 (loopAt Try.prog 91 0) (lc91_4 N) := mkLC_ok (by kernel_rfl) (by kernel_rfl) (fun F x => by kernel_rfl)
theorem q91 (N : Nat) : LoopsFor (e91 N) Try.prog 91 1 := ⟨by kernel_rfl, fun j hj => match j, hj with
  | 0, _ => ⟨lc91_4 N, by kernel_rfl, k91_4 N⟩
  | _ + 1, h => absurd h (by omega)⟩
def c91 : FC := mkF [.row 3 [.int .i64], .row 3 [.int .i64]] [.row 3 [.int .i64]] f91
theorem t91 (N : Nat) : FCOK Try.prog N 91 c91 := fun_ok facts (ok86 N) (by kernel_rfl) (by kernel_rfl) (q91 N) (fun t => by kernel_rfl)
def o91 : List (Nat × FC) := (91, c91) :: o86
theorem ok91 (N : Nat) : OrcOK Try.prog o91 N := orc_cons (t91 N) (ok86 N)
def L83_4 (N : Nat) (F : ((Int × Unit) × ((List Int) × ((List Int) × ((List Int) × ((List Int) × Unit))))) → Option (Unit × ((List Int) × ((List Int) × Unit)))) (x : ((Int × Unit) × ((List Int) × ((List Int) × ((List Int) × ((List Int) × Unit)))))) : Option (Unit × ((List Int) × ((List Int) × Unit))) :=
  bif (decide ((0 : Int) ≤ x.1.1)) then
    bif ((decide ((0 : Int) ≤ x.1.1)) && (decide (x.1.1 < (((x.2.1).length : Nat) : Int)))) then
      bif (decide ((((([(x.2.1.getD (x.1.1).toNat 0)] : List Int)).length + (x.2.2.2.2.1).length) * 8) ≤ 140737488355328)) then
        (f86 N (([(x.2.1.getD (x.1.1).toNat 0)] : List Int) ++ x.2.2.2.2.1) x.2.2.1).bind fun r0 =>
        bif (decide ((0 : Int) ≤ r0)) then
          (f91 N (([(x.2.1.getD (x.1.1).toNat 0)] : List Int) ++ x.2.2.2.2.1) x.2.2.1).bind fun r1 =>
          bif ((decide ((0 : Int) ≤ x.1.1)) && (decide (x.1.1 < (((x.2.2.2.1).length : Nat) : Int)))) then
            F (((IntKind.wrap .i64 (x.1.1 - 1)), ()), (x.2.1, (x.2.2.1, ((x.2.2.2.1.set (x.1.1).toNat 1), (r1, ())))))
          else none
        else F (((IntKind.wrap .i64 (x.1.1 - 1)), ()), (x.2.1, (x.2.2.1, (x.2.2.2.1, ((([(x.2.1.getD (x.1.1).toNat 0)] : List Int) ++ x.2.2.2.2.1), ())))))
      else none
    else none
  else some ((), (x.2.2.2.1, (x.2.2.2.2.1, ())))
def f83 (N : Nat) (a0 : (List Int)) (a1 : (List Int)) : Option ((List Int) × (List Int)) :=
  bif ((decide ((0 : Int) ≤ (((a0).length : Nat) : Int))) && (((decide ((((a0).length : Nat) : Int) = (((a0).length : Nat) : Int))) && (decide (((((a0).length : Nat) : Int) * 8) ≤ 140737488355328))) && (decide ((((a0).length : Nat) : Int) ≤ 140737488355328)))) then
    (iter (L83_4 N) N (((IntKind.wrap .i64 ((((a0).length : Nat) : Int) - 1)), ()), (a0, (a1, ((List.replicate ((((a0).length : Nat) : Int)).toNat (0 : Int)), (([0] : List Int), ())))))).bind fun r0 =>
    some (r0.2.1, r0.2.2.1)
  else none
def p83_4 : List Pat := [.sl 0, .sl 1, .any, .any, .any, .any, .sl 2, .sl 3, .sc (.int .i64), .any, .any, .any, .any, .any, .any, .any, .any, .any, .any, .any, .any, .any, .any, .any, .any, .any, .any, .any, .any, .any, .any, .any, .any, .any, .any, .any, .any, .any, .any]
def h83_4 : List HPat := [.ext 3 [.int .i64], .ext 3 [.int .i64], .rows 3 [.int .i64], .rows 3 [.int .i64]]
def x83_4 : List XP := [⟨.exit 0, [.any, .any, .any, .any, .any, .any, .sl 0, .sl 1, .any, .any, .any, .any, .any, .any, .any, .any, .any, .any, .any, .any, .any, .any, .any, .any, .any, .any, .any, .any, .any, .any, .any, .any, .any, .any, .any, .any, .any, .any, .any], [.rows 3 [.int .i64], .rows 3 [.int .i64]]⟩]
def lc83_4 (N : Nat) : LC := mkLC p83_4 h83_4 x83_4 (L83_4 N)
def s83 (N : Nat) : List (Nat × LC) := [(4, lc83_4 N)]
noncomputable def e83 (N : Nat) : Env := mkEnv Try.prog o91 (s83 N) N
theorem k83_4 (N : Nat) : LCOK (e83 N) 12 (loopAt Try.prog 83 0) (lc83_4 N) := mkLC_ok (by kernel_rfl) (by kernel_rfl) (fun F x => by kernel_rfl)
theorem q83 (N : Nat) : LoopsFor (e83 N) Try.prog 83 1 := ⟨by kernel_rfl, fun j hj => match j, hj with
  | 0, _ => ⟨lc83_4 N, by kernel_rfl, k83_4 N⟩
  | _ + 1, h => absurd h (by omega)⟩
def c83 : FC := mkF [.row 3 [.int .i64], .row 3 [.int .i64]] [.row 3 [.int .i64], .row 3 [.int .i64]] f83
theorem t83 (N : Nat) : FCOK Try.prog N 83 c83 := fun_ok facts (ok91 N) (by kernel_rfl) (by kernel_rfl) (q83 N) (fun t => by kernel_rfl)
def o83 : List (Nat × FC) := (83, c83) :: o91
theorem ok83 (N : Nat) : OrcOK Try.prog o83 N := orc_cons (t83 N) (ok91 N)
def L88_3 (_N : Nat) (F : ((Int × (Int × (Int × Unit))) × ((List Int) × Unit)) → Option ((Int × Unit) × Unit)) (x : ((Int × (Int × (Int × Unit))) × ((List Int) × Unit))) : Option ((Int × Unit) × Unit) :=
  bif (decide ((0 : Int) ≤ x.1.2.2.1)) then
    bif ((decide ((IntKind.wrap .i64 (x.1.1 + x.1.2.2.1)) < (((x.2.1).length : Nat) : Int))) == true) then
      bif ((decide ((0 : Int) ≤ (IntKind.wrap .i64 (x.1.1 + x.1.2.2.1)))) && (decide ((IntKind.wrap .i64 (x.1.1 + x.1.2.2.1)) < (((x.2.1).length : Nat) : Int)))) then
        bif ((x.2.1.getD ((IntKind.wrap .i64 (x.1.1 + x.1.2.2.1))).toNat 0) == 1) then
          F ((x.1.1, ((IntKind.wrap .u64 ((IntKind.wrap .u64 (x.1.2.1 * 2)) + 1)), ((IntKind.wrap .i64 (x.1.2.2.1 - 1)), ()))), (x.2.1, ()))
        else F ((x.1.1, ((IntKind.wrap .u64 (x.1.2.1 * 2)), ((IntKind.wrap .i64 (x.1.2.2.1 - 1)), ()))), (x.2.1, ()))
      else none
    else F ((x.1.1, ((IntKind.wrap .u64 (x.1.2.1 * 2)), ((IntKind.wrap .i64 (x.1.2.2.1 - 1)), ()))), (x.2.1, ()))
  else some ((x.1.2.1, ()), ())
def f88 (N : Nat) (a0 : (List Int)) (a1 : Int) : Option Int :=
  (iter (L88_3 N) N ((a1, (0, (63, ()))), (a0, ()))).bind fun r0 =>
  some r0.1.1
def p88_3 : List Pat := [.sl 0, .sc (.int .i64), .any, .any, .any, .sc (.int .u64), .sc (.int .i64), .any, .any, .any, .any, .any, .any, .any, .any, .any, .any, .any, .any, .any, .any, .any, .any, .any, .any, .any, .any, .any, .any, .any, .any]
def h88_3 : List HPat := [.ext 3 [.int .i64]]
def x88_3 : List XP := [⟨.exit 0, [.any, .any, .any, .any, .any, .sc (.int .u64), .any, .any, .any, .any, .any, .any, .any, .any, .any, .any, .any, .any, .any, .any, .any, .any, .any, .any, .any, .any, .any, .any, .any, .any, .any], []⟩]
def lc88_3 (N : Nat) : LC := mkLC p88_3 h88_3 x88_3 (L88_3 N)
def s88 (N : Nat) : List (Nat × LC) := [(3, lc88_3 N)]
noncomputable def e88 (N : Nat) : Env := mkEnv Try.prog o83 (s88 N) N
theorem k88_3 (N : Nat) : LCOK (e88 N) 12 (loopAt Try.prog 88 0) (lc88_3 N) := mkLC_ok (by kernel_rfl) (by kernel_rfl) (fun F x => by kernel_rfl)
theorem q88 (N : Nat) : LoopsFor (e88 N) Try.prog 88 1 := ⟨by kernel_rfl, fun j hj => match j, hj with
  | 0, _ => ⟨lc88_3 N, by kernel_rfl, k88_3 N⟩
  | _ + 1, h => absurd h (by omega)⟩
def c88 : FC := mkF [.row 3 [.int .i64], .sc (.int .i64)] [.sc (.int .u64)] f88
theorem t88 (N : Nat) : FCOK Try.prog N 88 c88 := fun_ok facts (ok83 N) (by kernel_rfl) (by kernel_rfl) (q88 N) (fun t => by kernel_rfl)
def o88 : List (Nat × FC) := (88, c88) :: o83
theorem ok88 (N : Nat) : OrcOK Try.prog o88 N := orc_cons (t88 N) (ok83 N)
def f78 (N : Nat) (a0 : Int) (a1 : Int) (a2 : Int) (a3 : Bool) : Option (Int × Int) :=
  bif ((decide (a0 < 0)) == false) then
    bif ((decide (a1 < 0)) == false) then
      bif (decide (a2 ≤ 0)) then
        some (0, 1)
      else (f85 N (IntKind.wrap .u64 a0) 64).bind fun r0 =>
      (f85 N (IntKind.wrap .u64 a1) 64).bind fun r1 =>
      (f84 N r0 r1).bind fun r2 =>
      (f85 N (IntKind.wrap .u64 a2) 64).bind fun r3 =>
      (f83 N r2 r3).bind fun r4 =>
      bif (a3 == true) then
        (f86 N r4.2 ([0] : List Int)).bind fun r5 =>
        bif (decide ((0 : Int) < r5)) then
          (f87 N r4.1 ([1] : List Int)).bind fun r6 =>
          (f85 N 9223372036854775807 64).bind fun r7 =>
          (f86 N r6 r7).bind fun r8 =>
          bif (decide ((0 : Int) < r8)) then
            some (0, 8)
          else (f88 N r6 0).bind fun r9 =>
          some ((IntKind.wrap .i64 r9), 0)
        else (f85 N 9223372036854775807 64).bind fun r10 =>
        (f86 N r4.1 r10).bind fun r11 =>
        bif (decide ((0 : Int) < r11)) then
          some (0, 8)
        else (f88 N r4.1 0).bind fun r12 =>
        some ((IntKind.wrap .i64 r12), 0)
      else (f85 N 9223372036854775807 64).bind fun r13 =>
      (f86 N r4.1 r13).bind fun r14 =>
      bif (decide ((0 : Int) < r14)) then
        some (0, 8)
      else (f88 N r4.1 0).bind fun r15 =>
      some ((IntKind.wrap .i64 r15), 0)
    else some (0, 1)
  else some (0, 1)
def s78 (_ : Nat) : List (Nat × LC) := []
noncomputable def e78 (N : Nat) : Env := mkEnv Try.prog o88 (s78 N) N
theorem q78 (N : Nat) : LoopsFor (e78 N) Try.prog 78 0 := ⟨by kernel_rfl, fun j hj => match j, hj with
  | _ + 0, h => absurd h (by omega)⟩
def c78 : FC := mkF [.sc (.int .i64), .sc (.int .i64), .sc (.int .i64), .sc (.bool)] [.sc (.int .i64), .sc (.int .i64)] f78
theorem t78 (N : Nat) : FCOK Try.prog N 78 c78 := fun_ok facts (ok88 N) (by kernel_rfl) (by kernel_rfl) (q78 N) (fun t => by kernel_rfl)
def o78 : List (Nat × FC) := (78, c78) :: o88
theorem ok78 (N : Nat) : OrcOK Try.prog o78 N := orc_cons (t78 N) (ok88 N)
def f73 (N : Nat) (a0 : Int) (a1 : Int) (a2 : Int) : Option Int :=
  bif ((decide (a0 < 4398046511104)) == true) then
    bif (decide (a1 ≤ 1048576)) then
      bif (!(decide (a2 = 0))) then
        some (IntKind.wrap .i64 (Int.tdiv (IntKind.wrap .i64 (a0 * a1)) a2))
      else none
    else (f78 N a0 a1 a2 false).bind fun r0 =>
    some r0.1
  else (f78 N a0 a1 a2 false).bind fun r1 =>
  some r1.1
def s73 (_ : Nat) : List (Nat × LC) := []
noncomputable def e73 (N : Nat) : Env := mkEnv Try.prog o78 (s73 N) N
theorem q73 (N : Nat) : LoopsFor (e73 N) Try.prog 73 0 := ⟨by kernel_rfl, fun j hj => match j, hj with
  | _ + 0, h => absurd h (by omega)⟩
def c73 : FC := mkF [.sc (.int .i64), .sc (.int .i64), .sc (.int .i64)] [.sc (.int .i64)] f73
theorem t73 (N : Nat) : FCOK Try.prog N 73 c73 := fun_ok facts (ok78 N) (by kernel_rfl) (by kernel_rfl) (q73 N) (fun t => by kernel_rfl)
def o73 : List (Nat × FC) := (73, c73) :: o78
theorem ok73 (N : Nat) : OrcOK Try.prog o73 N := orc_cons (t73 N) (ok78 N)
def f63 (N : Nat) (a0 : Int) (a1 : Int) : Option Int :=
  bif (decide (a0 ≤ 0)) then
    some 0
  else bif ((decide (a1 ≤ 0)) == false) then
    bif (decide (a1 ≤ a0)) then
      some 1048576
    else (f73 N a0 1048576 a1).bind fun r0 =>
    some r0
  else some 1048576
def s63 (_ : Nat) : List (Nat × LC) := []
noncomputable def e63 (N : Nat) : Env := mkEnv Try.prog o73 (s63 N) N
theorem q63 (N : Nat) : LoopsFor (e63 N) Try.prog 63 0 := ⟨by kernel_rfl, fun j hj => match j, hj with
  | _ + 0, h => absurd h (by omega)⟩
def c63 : FC := mkF [.sc (.int .i64), .sc (.int .i64)] [.sc (.int .i64)] f63
theorem t63 (N : Nat) : FCOK Try.prog N 63 c63 := fun_ok facts (ok73 N) (by kernel_rfl) (by kernel_rfl) (q63 N) (fun t => by kernel_rfl)
def o63 : List (Nat × FC) := (63, c63) :: o73
theorem ok63 (N : Nat) : OrcOK Try.prog o63 N := orc_cons (t63 N) (ok73 N)
def f40 (N : Nat) (a0 : Int) (a1 : Bool) (a2 : Int) (a3 : Int) : Option Int :=
  bif (decide (a3 < 1)) then
    bif (!a1) then
      (f62 N (if 2097152 < (if 0 > a0 then 0 else a0) then 2097152 else (if 0 > a0 then 0 else a0)) 0 6).bind fun r0 =>
      some r0
    else bif (decide (a2 ≤ 1)) then
      (f62 N (if 2097152 < (if 0 > a0 then 0 else a0) then 2097152 else (if 0 > a0 then 0 else a0)) 0 3).bind fun r1 =>
      some r1
    else (f64 N a2 1).bind fun r2 =>
    (f63 N r2 1).bind fun r3 =>
    some (if 2097152 < (IntKind.wrap .i64 ((if 2097152 < (if 0 > a0 then 0 else a0) then 2097152 else (if 0 > a0 then 0 else a0)) + (IntKind.wrap .i64 (Int.tdiv r3 4)))) then 2097152 else (IntKind.wrap .i64 ((if 2097152 < (if 0 > a0 then 0 else a0) then 2097152 else (if 0 > a0 then 0 else a0)) + (IntKind.wrap .i64 (Int.tdiv r3 4)))))
  else bif (!a1) then
    (f62 N (if 2097152 < (if 0 > a0 then 0 else a0) then 2097152 else (if 0 > a0 then 0 else a0)) 0 6).bind fun r4 =>
    some r4
  else bif (decide (a2 ≤ a3)) then
    (f62 N (if 2097152 < (if 0 > a0 then 0 else a0) then 2097152 else (if 0 > a0 then 0 else a0)) 0 3).bind fun r5 =>
    some r5
  else (f64 N a2 a3).bind fun r6 =>
  (f63 N r6 a3).bind fun r7 =>
  some (if 2097152 < (IntKind.wrap .i64 ((if 2097152 < (if 0 > a0 then 0 else a0) then 2097152 else (if 0 > a0 then 0 else a0)) + (IntKind.wrap .i64 (Int.tdiv r7 4)))) then 2097152 else (IntKind.wrap .i64 ((if 2097152 < (if 0 > a0 then 0 else a0) then 2097152 else (if 0 > a0 then 0 else a0)) + (IntKind.wrap .i64 (Int.tdiv r7 4)))))
def s40 (_ : Nat) : List (Nat × LC) := []
noncomputable def e40 (N : Nat) : Env := mkEnv Try.prog o63 (s40 N) N
theorem q40 (N : Nat) : LoopsFor (e40 N) Try.prog 40 0 := ⟨by kernel_rfl, fun j hj => match j, hj with
  | _ + 0, h => absurd h (by omega)⟩
def c40 : FC := mkF [.agg [.int .i64], .sc (.bool), .sc (.int .i64), .sc (.int .i64)] [.agg [.int .i64]] f40
theorem t40 (N : Nat) : FCOK Try.prog N 40 c40 := fun_ok facts (ok63 N) (by kernel_rfl) (by kernel_rfl) (q40 N) (fun t => by kernel_rfl)
def o40 : List (Nat × FC) := (40, c40) :: o63
theorem ok40 (N : Nat) : OrcOK Try.prog o40 N := orc_cons (t40 N) (ok63 N)
def f41 (_N : Nat) (a0 : Int) : Option Bool :=
  some (decide ((1048576 : Int) ≤ a0))
def s41 (_ : Nat) : List (Nat × LC) := []
noncomputable def e41 (N : Nat) : Env := mkEnv Try.prog o40 (s41 N) N
theorem q41 (N : Nat) : LoopsFor (e41 N) Try.prog 41 0 := ⟨by kernel_rfl, fun j hj => match j, hj with
  | _ + 0, h => absurd h (by omega)⟩
def c41 : FC := mkF [.agg [.int .i64]] [.sc (.bool)] f41
theorem t41 (N : Nat) : FCOK Try.prog N 41 c41 := fun_ok facts (ok40 N) (by kernel_rfl) (by kernel_rfl) (q41 N) (fun t => by kernel_rfl)
def o41 : List (Nat × FC) := (41, c41) :: o40
theorem ok41 (N : Nat) : OrcOK Try.prog o41 N := orc_cons (t41 N) (ok40 N)
def f42 (N : Nat) : Option Bool :=
  (f39 N 0 true 10000 5000).bind fun r0 =>
  bif ((r0 == 262144) == true) then
    (f41 N 1048576).bind fun r1 =>
    some r1
  else some false
def s42 (_ : Nat) : List (Nat × LC) := []
noncomputable def e42 (N : Nat) : Env := mkEnv Try.prog o41 (s42 N) N
theorem q42 (N : Nat) : LoopsFor (e42 N) Try.prog 42 0 := ⟨by kernel_rfl, fun j hj => match j, hj with
  | _ + 0, h => absurd h (by omega)⟩
def c42 : FC := mkF [] [.sc (.bool)] f42
theorem t42 (N : Nat) : FCOK Try.prog N 42 c42 := fun_ok facts (ok41 N) (by kernel_rfl) (by kernel_rfl) (q42 N) (fun t => by kernel_rfl)
def o42 : List (Nat × FC) := (42, c42) :: o41
theorem ok42 (N : Nat) : OrcOK Try.prog o42 N := orc_cons (t42 N) (ok41 N)
def f12 (N : Nat) (a0 : Int) (a1 : Bool) (a2 : (Int × Int)) : Option Bool :=
  (f39 N a0 a1 a2.1 a2.2).bind fun r0 =>
  (f40 N a0 a1 a2.1 a2.2).bind fun r1 =>
  bif (((r0 == r1) && true) == true) then
    (f41 N a0).bind fun r2 =>
    bif ((r2 == (decide ((1048576 : Int) ≤ a0))) == true) then
      (f42 N).bind fun r3 =>
      some r3
    else some false
  else some false
def s12 (_ : Nat) : List (Nat × LC) := []
noncomputable def e12 (N : Nat) : Env := mkEnv Try.prog o42 (s12 N) N
theorem q12 (N : Nat) : LoopsFor (e12 N) Try.prog 12 0 := ⟨by kernel_rfl, fun j hj => match j, hj with
  | _ + 0, h => absurd h (by omega)⟩
theorem okL12 (N : Nat) : OrcOK Try.prog o42 N := ok42 N
theorem w12 (N : Nat) (x : RT [.agg [.int .i64], .sc (.bool), .agg [.int .i64, .int .i64]]) : uncR [.agg [.int .i64], .sc (.bool), .agg [.int .i64, .int .i64]] (f12 N) x = evFn (e12 N) 13 12 (encA 0 [.agg [.int .i64], .sc (.bool), .agg [.int .i64, .int .i64]] x).1 (encA 0 [.agg [.int .i64], .sc (.bool), .agg [.int .i64, .int .i64]] x).2 (decR [.sc .bool]) := by kernel_rfl
def L13_4 (N : Nat) (F : ((Int × (Int × (Int × (Int × Unit)))) × ((Int × Unit) × ((List (Bool × Int)) × Unit))) → Option ((Unit × Unit) ⊕ ((Bool × Unit) × Unit))) (x : ((Int × (Int × (Int × (Int × Unit)))) × ((Int × Unit) × ((List (Bool × Int)) × Unit)))) : Option ((Unit × Unit) ⊕ ((Bool × Unit) × Unit)) :=
  bif (decide (x.1.2.2.2.1 < x.1.2.2.1)) then
    bif ((decide ((0 : Int) ≤ x.1.2.2.2.1)) && (decide (x.1.2.2.2.1 < (((x.2.2.1).length : Nat) : Int)))) then
      bif (decide ((60 : Int) ≤ x.1.2.2.2.1)) then
        some (.inl ((), ()))
      else bif ((x.2.2.1.getD (x.1.2.2.2.1).toNat (false, 0)).1 == true) then
        bif (decide ((if 1 > x.1.1 then 1 else x.1.1) < (x.2.2.1.getD (x.1.2.2.2.1).toNat (false, 0)).2)) then
          (f39 N x.2.1.1 (x.2.2.1.getD (x.1.2.2.2.1).toNat (false, 0)).1 (x.2.2.1.getD (x.1.2.2.2.1).toNat (false, 0)).2 x.1.1).bind fun r0 =>
          bif ((decide (r0 < 0)) == false) then
            bif ((decide ((2097152 : Int) < r0)) == false) then
              bif ((!(decide ((if 1 > x.1.1 then 1 else x.1.1) < (x.2.2.1.getD (x.1.2.2.2.1).toNat (false, 0)).2))) == true) then
                bif ((decide (x.2.1.1 < r0)) == false) then
                  bif ((decide ((if 1 > x.1.1 then 1 else x.1.1) < (x.2.2.1.getD (x.1.2.2.2.1).toNat (false, 0)).2)) == true) then
                    bif ((decide (r0 < x.2.1.1)) == false) then
                      (f41 N r0).bind fun r1 =>
                      bif (r1 == true) then
                        bif (decide ((IntKind.wrap .i64 (x.1.2.1 + 1)) < 4)) then
                          some (.inr ((false, ()), ()))
                        else F ((x.1.1, ((IntKind.wrap .i64 (x.1.2.1 + 1)), (x.1.2.2.1, ((IntKind.wrap .i64 (x.1.2.2.2.1 + 1)), ())))), ((r0, ()), (x.2.2.1, ())))
                      else F ((x.1.1, ((IntKind.wrap .i64 (x.1.2.1 + 1)), (x.1.2.2.1, ((IntKind.wrap .i64 (x.1.2.2.2.1 + 1)), ())))), ((r0, ()), (x.2.2.1, ())))
                    else some (.inr ((false, ()), ()))
                  else (f41 N r0).bind fun r2 =>
                  bif (r2 == true) then
                    bif (decide ((IntKind.wrap .i64 (x.1.2.1 + 1)) < 4)) then
                      some (.inr ((false, ()), ()))
                    else F ((x.1.1, ((IntKind.wrap .i64 (x.1.2.1 + 1)), (x.1.2.2.1, ((IntKind.wrap .i64 (x.1.2.2.2.1 + 1)), ())))), ((r0, ()), (x.2.2.1, ())))
                  else F ((x.1.1, ((IntKind.wrap .i64 (x.1.2.1 + 1)), (x.1.2.2.1, ((IntKind.wrap .i64 (x.1.2.2.2.1 + 1)), ())))), ((r0, ()), (x.2.2.1, ())))
                else some (.inr ((false, ()), ()))
              else bif ((decide ((if 1 > x.1.1 then 1 else x.1.1) < (x.2.2.1.getD (x.1.2.2.2.1).toNat (false, 0)).2)) == true) then
                bif ((decide (r0 < x.2.1.1)) == false) then
                  (f41 N r0).bind fun r3 =>
                  bif (r3 == true) then
                    bif (decide ((IntKind.wrap .i64 (x.1.2.1 + 1)) < 4)) then
                      some (.inr ((false, ()), ()))
                    else F ((x.1.1, ((IntKind.wrap .i64 (x.1.2.1 + 1)), (x.1.2.2.1, ((IntKind.wrap .i64 (x.1.2.2.2.1 + 1)), ())))), ((r0, ()), (x.2.2.1, ())))
                  else F ((x.1.1, ((IntKind.wrap .i64 (x.1.2.1 + 1)), (x.1.2.2.1, ((IntKind.wrap .i64 (x.1.2.2.2.1 + 1)), ())))), ((r0, ()), (x.2.2.1, ())))
                else some (.inr ((false, ()), ()))
              else (f41 N r0).bind fun r4 =>
              bif (r4 == true) then
                bif (decide ((IntKind.wrap .i64 (x.1.2.1 + 1)) < 4)) then
                  some (.inr ((false, ()), ()))
                else F ((x.1.1, ((IntKind.wrap .i64 (x.1.2.1 + 1)), (x.1.2.2.1, ((IntKind.wrap .i64 (x.1.2.2.2.1 + 1)), ())))), ((r0, ()), (x.2.2.1, ())))
              else F ((x.1.1, ((IntKind.wrap .i64 (x.1.2.1 + 1)), (x.1.2.2.1, ((IntKind.wrap .i64 (x.1.2.2.2.1 + 1)), ())))), ((r0, ()), (x.2.2.1, ())))
            else some (.inr ((false, ()), ()))
          else some (.inr ((false, ()), ()))
        else (f39 N x.2.1.1 (x.2.2.1.getD (x.1.2.2.2.1).toNat (false, 0)).1 (x.2.2.1.getD (x.1.2.2.2.1).toNat (false, 0)).2 x.1.1).bind fun r5 =>
        bif ((decide (r5 < 0)) == false) then
          bif ((decide ((2097152 : Int) < r5)) == false) then
            bif ((!(decide ((if 1 > x.1.1 then 1 else x.1.1) < (x.2.2.1.getD (x.1.2.2.2.1).toNat (false, 0)).2))) == true) then
              bif ((decide (x.2.1.1 < r5)) == false) then
                bif ((decide ((if 1 > x.1.1 then 1 else x.1.1) < (x.2.2.1.getD (x.1.2.2.2.1).toNat (false, 0)).2)) == true) then
                  bif ((decide (r5 < x.2.1.1)) == false) then
                    (f41 N r5).bind fun r6 =>
                    bif (r6 == true) then
                      bif (decide (x.1.2.1 < 4)) then
                        some (.inr ((false, ()), ()))
                      else F ((x.1.1, (x.1.2.1, (x.1.2.2.1, ((IntKind.wrap .i64 (x.1.2.2.2.1 + 1)), ())))), ((r5, ()), (x.2.2.1, ())))
                    else F ((x.1.1, (x.1.2.1, (x.1.2.2.1, ((IntKind.wrap .i64 (x.1.2.2.2.1 + 1)), ())))), ((r5, ()), (x.2.2.1, ())))
                  else some (.inr ((false, ()), ()))
                else (f41 N r5).bind fun r7 =>
                bif (r7 == true) then
                  bif (decide (x.1.2.1 < 4)) then
                    some (.inr ((false, ()), ()))
                  else F ((x.1.1, (x.1.2.1, (x.1.2.2.1, ((IntKind.wrap .i64 (x.1.2.2.2.1 + 1)), ())))), ((r5, ()), (x.2.2.1, ())))
                else F ((x.1.1, (x.1.2.1, (x.1.2.2.1, ((IntKind.wrap .i64 (x.1.2.2.2.1 + 1)), ())))), ((r5, ()), (x.2.2.1, ())))
              else some (.inr ((false, ()), ()))
            else bif ((decide ((if 1 > x.1.1 then 1 else x.1.1) < (x.2.2.1.getD (x.1.2.2.2.1).toNat (false, 0)).2)) == true) then
              bif ((decide (r5 < x.2.1.1)) == false) then
                (f41 N r5).bind fun r8 =>
                bif (r8 == true) then
                  bif (decide (x.1.2.1 < 4)) then
                    some (.inr ((false, ()), ()))
                  else F ((x.1.1, (x.1.2.1, (x.1.2.2.1, ((IntKind.wrap .i64 (x.1.2.2.2.1 + 1)), ())))), ((r5, ()), (x.2.2.1, ())))
                else F ((x.1.1, (x.1.2.1, (x.1.2.2.1, ((IntKind.wrap .i64 (x.1.2.2.2.1 + 1)), ())))), ((r5, ()), (x.2.2.1, ())))
              else some (.inr ((false, ()), ()))
            else (f41 N r5).bind fun r9 =>
            bif (r9 == true) then
              bif (decide (x.1.2.1 < 4)) then
                some (.inr ((false, ()), ()))
              else F ((x.1.1, (x.1.2.1, (x.1.2.2.1, ((IntKind.wrap .i64 (x.1.2.2.2.1 + 1)), ())))), ((r5, ()), (x.2.2.1, ())))
            else F ((x.1.1, (x.1.2.1, (x.1.2.2.1, ((IntKind.wrap .i64 (x.1.2.2.2.1 + 1)), ())))), ((r5, ()), (x.2.2.1, ())))
          else some (.inr ((false, ()), ()))
        else some (.inr ((false, ()), ()))
      else (f39 N x.2.1.1 (x.2.2.1.getD (x.1.2.2.2.1).toNat (false, 0)).1 (x.2.2.1.getD (x.1.2.2.2.1).toNat (false, 0)).2 x.1.1).bind fun r10 =>
      bif ((decide (r10 < 0)) == false) then
        bif ((decide ((2097152 : Int) < r10)) == false) then
          bif ((decide (x.2.1.1 < r10)) == false) then
            (f41 N r10).bind fun r11 =>
            bif (r11 == true) then
              bif (decide (x.1.2.1 < 4)) then
                some (.inr ((false, ()), ()))
              else F ((x.1.1, (x.1.2.1, (x.1.2.2.1, ((IntKind.wrap .i64 (x.1.2.2.2.1 + 1)), ())))), ((r10, ()), (x.2.2.1, ())))
            else F ((x.1.1, (x.1.2.1, (x.1.2.2.1, ((IntKind.wrap .i64 (x.1.2.2.2.1 + 1)), ())))), ((r10, ()), (x.2.2.1, ())))
          else some (.inr ((false, ()), ()))
        else some (.inr ((false, ()), ()))
      else some (.inr ((false, ()), ()))
    else none
  else some (.inl ((), ()))
def f13 (N : Nat) (a0 : (List (Bool × Int))) (a1 : Int) : Option Bool :=
  (iter (L13_4 N) N ((a1, (0, ((((a0).length : Nat) : Int), (0, ())))), ((0, ()), (a0, ())))).bind fun r0 =>
  match r0 with
  | .inl _ =>
    (f42 N).bind fun r3 =>
    some r3
  | .inr r2 =>
    some r2.1.1
def p13_4 : List Pat := [.any, .sc (.int .i64), .any, .any, .any, .ptr 0 0, .sc (.int .i64), .any, .any, .any, .any, .sl 1, .sc (.int .i64), .sc (.int .i64), .any, .any, .any, .any, .any, .any, .any, .any, .any, .any, .any, .any, .any, .any, .any, .any, .any, .any, .any, .any, .any, .any, .any, .any, .any, .any, .any, .any, .any, .any, .any, .any, .any, .any, .any, .any, .any, .any, .any, .any, .any, .any, .any, .any, .any, .any, .any, .any, .any, .any, .any, .any, .any, .any, .any, .any, .any, .any, .any, .any, .any, .any, .any, .any, .any]
def h13_4 : List HPat := [.cells [.sc (.int .i64)], .ext 66 [.bool, .int .i64]]
def x13_4 : List XP := [⟨.exit 0, [.any, .any, .any, .any, .any, .any, .any, .any, .any, .any, .any, .any, .any, .any, .any, .any, .any, .any, .any, .any, .any, .any, .any, .any, .any, .any, .any, .any, .any, .any, .any, .any, .any, .any, .any, .any, .any, .any, .any, .any, .any, .any, .any, .any, .any, .any, .any, .any, .any, .any, .any, .any, .any, .any, .any, .any, .any, .any, .any, .any, .any, .any, .any, .any, .any, .any, .any, .any, .any, .any, .any, .any, .any, .any, .any, .any, .any, .any, .any], []⟩, ⟨.ret, [.any, .any, .any, .any, .sc (.bool), .any, .any, .any, .any, .any, .any, .any, .any, .any, .any, .any, .any, .any, .any, .any, .any, .any, .any, .any, .any, .any, .any, .any, .any, .any, .any, .any, .any, .any, .any, .any, .any, .any, .any, .any, .any, .any, .any, .any, .any, .any, .any, .any, .any, .any, .any, .any, .any, .any, .any, .any, .any, .any, .any, .any, .any, .any, .any, .any, .any, .any, .any, .any, .any, .any, .any, .any, .any, .any, .any, .any, .any, .any, .any], []⟩]
def lc13_4 (N : Nat) : LC := mkLC p13_4 h13_4 x13_4 (L13_4 N)
def s13 (N : Nat) : List (Nat × LC) := [(4, lc13_4 N)]
noncomputable def e13 (N : Nat) : Env := mkEnv Try.prog o42 (s13 N) N
theorem k13_4 (N : Nat) : LCOK (e13 N) 12 (loopAt Try.prog 13 0) (lc13_4 N) := mkLC_ok (by kernel_rfl) (by kernel_rfl) (fun F x => by kernel_rfl)
theorem q13 (N : Nat) : LoopsFor (e13 N) Try.prog 13 1 := ⟨by kernel_rfl, fun j hj => match j, hj with
  | 0, _ => ⟨lc13_4 N, by kernel_rfl, k13_4 N⟩
  | _ + 1, h => absurd h (by omega)⟩
theorem okL13 (N : Nat) : OrcOK Try.prog o42 N := ok42 N
theorem w13 (N : Nat) (x : RT [.row 66 [.bool, .int .i64], .sc (.int .i64)]) : uncR [.row 66 [.bool, .int .i64], .sc (.int .i64)] (f13 N) x = evFn (e13 N) 13 13 (encA 0 [.row 66 [.bool, .int .i64], .sc (.int .i64)] x).1 (encA 0 [.row 66 [.bool, .int .i64], .sc (.int .i64)] x).2 (decR [.sc .bool]) := by kernel_rfl
end Go.Proofs.Ytfiiifogplhppaa.W
