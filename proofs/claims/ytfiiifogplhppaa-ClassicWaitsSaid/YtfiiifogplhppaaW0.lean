/- The functions of the seat, as the evaluator tells them: the texts alone. Printed by genW.py. -/
import Derived.Test.YtfiiifogplhppaaEvQ
namespace Go.Proofs.Ytfiiifogplhppaa.W
open Go.Ev Go.RowKit
def sat_Clamp (_N : Nat) (a0 : Int) (a1 : Int) (a2 : Int) : Option Int :=
  some (if (if a2 < a0 then a2 else a0) > a1 then (if a2 < a0 then a2 else a0) else a1)
def timer_within (N : Nat) (a0 : (Int × (Int × (Int × Int)))) : Option (Int × (Int × (Int × Int))) :=
  (sat_Clamp N a0.1 1 1125899906842624).bind fun r0 =>
  (sat_Clamp N a0.2.1 r0 1125899906842624).bind fun r1 =>
  some (r0, (r1, ((if (if 32 < a0.2.2.1 then 32 else a0.2.2.1) > 0 then (if 32 < a0.2.2.1 then 32 else a0.2.2.1) else 0), a0.2.2.2)))
def timer_Wait (N : Nat) (a0 : (Int × (Int × (Int × Int)))) : Option Int :=
  (timer_within N a0).bind fun r0 =>
  bif (!(decide (r0.2.2.1 < 0))) then
    bif (decide ((Int.fdiv r0.2.1 (2 ^ (min (r0.2.2.1).toNat 64))) < r0.1)) then
      some r0.2.1
    else bif (!(decide (r0.2.2.1 < 0))) then
      some (IntKind.wrap .i64 (r0.1 * 2 ^ (min (r0.2.2.1).toNat 64)))
    else none
  else none
def timer_Arm (N : Nat) (a0 : (Int × (Int × (Int × Int)))) (a1 : Int) : Option (Int × (Int × (Int × Int))) :=
  (timer_within N a0).bind fun r0 =>
  (sat_Clamp N a1 0 1152921504606846976).bind fun r1 =>
  (timer_Wait N r0).bind fun r2 =>
  some (r0.1, (r0.2.1, (r0.2.2.1, (IntKind.wrap .i64 (r1 + r2)))))
def timer_Fire (N : Nat) (a0 : (Int × (Int × (Int × Int)))) (a1 : Int) : Option ((Int × (Int × (Int × Int))) × Bool) :=
  (timer_within N a0).bind fun r0 =>
  bif ((decide (r0.2.2.2 < 0)) == false) then
    (sat_Clamp N a1 0 1152921504606846976).bind fun r1 =>
    bif (decide (r1 < r0.2.2.2)) then
      some (r0, false)
    else (timer_Arm N (r0.1, (r0.2.1, ((if 32 < (IntKind.wrap .i64 (r0.2.2.1 + 1)) then 32 else (IntKind.wrap .i64 (r0.2.2.1 + 1))), r0.2.2.2))) a1).bind fun r2 =>
    some (r2, true)
  else some (r0, false)
def leatref22_Within (_N : Nat) (a0 : (Int × (Int × (Int × Int)))) : Option (Int × (Int × (Int × Int))) :=
  some ((if 1125899906842624 < (if 1 > a0.1 then 1 else a0.1) then 1125899906842624 else (if 1 > a0.1 then 1 else a0.1)), ((if 1125899906842624 < (if (if 1125899906842624 < (if 1 > a0.1 then 1 else a0.1) then 1125899906842624 else (if 1 > a0.1 then 1 else a0.1)) > a0.2.1 then (if 1125899906842624 < (if 1 > a0.1 then 1 else a0.1) then 1125899906842624 else (if 1 > a0.1 then 1 else a0.1)) else a0.2.1) then 1125899906842624 else (if (if 1125899906842624 < (if 1 > a0.1 then 1 else a0.1) then 1125899906842624 else (if 1 > a0.1 then 1 else a0.1)) > a0.2.1 then (if 1125899906842624 < (if 1 > a0.1 then 1 else a0.1) then 1125899906842624 else (if 1 > a0.1 then 1 else a0.1)) else a0.2.1)), ((if 32 < (if 0 > a0.2.2.1 then 0 else a0.2.2.1) then 32 else (if 0 > a0.2.2.1 then 0 else a0.2.2.1)), a0.2.2.2)))
def leatref22_near (_N : Nat) (a0 : Int) : Option Int :=
  some (if 1152921504606846976 < (if 0 > a0 then 0 else a0) then 1152921504606846976 else (if 0 > a0 then 0 else a0))
def leatref22_Wait_L4 (_N : Nat) (F : ((Int × (Int × Unit)) × ((Int × (Int × (Int × (Int × Unit)))) × Unit)) → Option ((Int × Unit) × ((Int × (Int × (Int × (Int × Unit)))) × Unit))) (x : ((Int × (Int × Unit)) × ((Int × (Int × (Int × (Int × Unit)))) × Unit))) : Option ((Int × Unit) × ((Int × (Int × (Int × (Int × Unit)))) × Unit)) :=
  bif ((decide (x.1.2.1 < x.2.1.2.2.1)) == true) then
    bif (decide (x.1.1 < x.2.1.2.1)) then
      F (((IntKind.wrap .i64 (x.1.1 * 2)), ((IntKind.wrap .i64 (x.1.2.1 + 1)), ())), ((x.2.1.1, (x.2.1.2.1, (x.2.1.2.2.1, (x.2.1.2.2.2.1, ())))), ()))
    else some ((x.1.1, ()), ((x.2.1.1, (x.2.1.2.1, (x.2.1.2.2.1, (x.2.1.2.2.2.1, ())))), ()))
  else some ((x.1.1, ()), ((x.2.1.1, (x.2.1.2.1, (x.2.1.2.2.1, (x.2.1.2.2.2.1, ())))), ()))
def leatref22_Wait (N : Nat) (a0 : (Int × (Int × (Int × Int)))) : Option Int :=
  (leatref22_Within N a0).bind fun r0 =>
  (iter (leatref22_Wait_L4 N) N ((r0.1, (0, ())), ((r0.1, (r0.2.1, (r0.2.2.1, (r0.2.2.2, ())))), ()))).bind fun r1 =>
  some (if r1.2.1.2.1 < r1.1.1 then r1.2.1.2.1 else r1.1.1)
def leatref22_Fire (N : Nat) (a0 : (Int × (Int × (Int × Int)))) (a1 : Int) : Option ((Int × (Int × (Int × Int))) × Bool) :=
  (leatref22_Within N a0).bind fun r0 =>
  bif ((decide (r0.2.2.2 < 0)) == false) then
    (leatref22_near N a1).bind fun r1 =>
    bif (decide (r1 < r0.2.2.2)) then
      some (r0, false)
    else bif (decide (r0.2.2.1 < 32)) then
      (leatref22_near N a1).bind fun r2 =>
      (leatref22_Wait N (r0.1, (r0.2.1, ((IntKind.wrap .i64 (r0.2.2.1 + 1)), r0.2.2.2)))).bind fun r3 =>
      some ((r0.1, (r0.2.1, ((IntKind.wrap .i64 (r0.2.2.1 + 1)), (IntKind.wrap .i64 (r2 + r3))))), true)
    else (leatref22_near N a1).bind fun r4 =>
    (leatref22_Wait N r0).bind fun r5 =>
    some ((r0.1, (r0.2.1, (r0.2.2.1, (IntKind.wrap .i64 (r4 + r5))))), true)
  else some (r0, false)
def leatlaw22_works (N : Nat) : Option Bool :=
  (timer_Arm N (10, (35, (0, 0))) 0).bind fun r0 =>
  (timer_Fire N r0 10).bind fun r1 =>
  (timer_Fire N r1.1 30).bind fun r2 =>
  bif (r1.2 == true) then
    bif ((r1.1.2.2.2 == 30) == true) then
      bif (r2.2 == true) then
        some (r2.1.2.2.2 == 65)
      else some false
    else some false
  else some false
def leatlaw22_TimerFires (N : Nat) (a0 : (Int × (Int × (Int × Int)))) (a1 : Int) : Option Bool :=
  (timer_Fire N a0 a1).bind fun r0 =>
  (leatref22_Fire N a0 a1).bind fun r1 =>
  bif (((r0.1.1 == r1.1.1) && ((r0.1.2.1 == r1.1.2.1) && ((r0.1.2.2.1 == r1.1.2.2.1) && ((r0.1.2.2.2 == r1.1.2.2.2) && true)))) == true) then
    bif ((r0.2 == r1.2) == true) then
      (leatlaw22_works N).bind fun r2 =>
      some r2
    else some false
  else some false
def timer_Off (N : Nat) (a0 : (Int × (Int × (Int × Int)))) : Option (Int × (Int × (Int × Int))) :=
  (timer_within N a0).bind fun r0 =>
  some (r0.1, (r0.2.1, (r0.2.2.1, (-1))))
def leatlaw22_TimerBacks_L3 (N : Nat) (F : ((Int × Unit) × ((Int × (Int × (Int × (Int × Unit)))) × Unit)) → Option (((Bool × Unit) × Unit) ⊕ (Unit × ((Int × (Int × (Int × (Int × Unit)))) × Unit)))) (x : ((Int × Unit) × ((Int × (Int × (Int × (Int × Unit)))) × Unit))) : Option (((Bool × Unit) × Unit) ⊕ (Unit × ((Int × (Int × (Int × (Int × Unit)))) × Unit))) :=
  bif (decide (x.1.1 < 40)) then
    (timer_Wait N (x.2.1.1, (x.2.1.2.1, (x.2.1.2.2.1, x.2.1.2.2.2.1)))).bind fun r0 =>
    bif ((decide (r0 < x.2.1.1)) == false) then
      bif (decide (x.2.1.2.1 < r0)) then
        some (.inl ((false, ()), ()))
      else (timer_Fire N (x.2.1.1, (x.2.1.2.1, (x.2.1.2.2.1, x.2.1.2.2.2.1))) (IntKind.wrap .i64 (x.2.1.2.2.2.1 - 1))).bind fun r1 =>
      bif r1.2 then
        some (.inl ((false, ()), ()))
      else (timer_Fire N (x.2.1.1, (x.2.1.2.1, (x.2.1.2.2.1, x.2.1.2.2.2.1))) x.2.1.2.2.2.1).bind fun r2 =>
      bif ((!r2.2) == false) then
        (timer_Wait N r2.1).bind fun r3 =>
        bif ((decide (r3 < r0)) == false) then
          (timer_Wait N r2.1).bind fun r4 =>
          bif (!((IntKind.wrap .i64 (r2.1.2.2.2 - x.2.1.2.2.2.1)) == r4)) then
            some (.inl ((false, ()), ()))
          else F (((IntKind.wrap .i64 (x.1.1 + 1)), ()), ((r2.1.1, (r2.1.2.1, (r2.1.2.2.1, (r2.1.2.2.2, ())))), ()))
        else some (.inl ((false, ()), ()))
      else some (.inl ((false, ()), ()))
    else some (.inl ((false, ()), ()))
  else some (.inr ((), ((x.2.1.1, (x.2.1.2.1, (x.2.1.2.2.1, (x.2.1.2.2.2.1, ())))), ())))
def leatlaw22_TimerBacks (N : Nat) (a0 : Int) (a1 : Int) (a2 : Int) : Option Bool :=
  (timer_Arm N (a0, (a1, (0, 0))) (IntKind.wrap .i64 a2)).bind fun r0 =>
  (iter (leatlaw22_TimerBacks_L3 N) N ((0, ()), ((r0.1, (r0.2.1, (r0.2.2.1, (r0.2.2.2, ())))), ()))).bind fun r1 =>
  match r1 with
  | .inl r2 =>
    some r2.1.1
  | .inr r3 =>
    (timer_Off N (r3.2.1.1, (r3.2.1.2.1, (r3.2.1.2.2.1, r3.2.1.2.2.2.1)))).bind fun r4 =>
    (timer_Fire N r4 1152921504606846976).bind fun r5 =>
    bif ((!r5.2) == true) then
      (leatlaw22_works N).bind fun r6 =>
      some r6
    else some false
def turn_size (N : Nat) (a0 : Int) : Option Int :=
  (sat_Clamp N a0 0 65536).bind fun r0 =>
  some r0
def turn_owed (N : Nat) (a0 : Int) : Option Int :=
  (sat_Clamp N a0 0 1099511627776).bind fun r0 =>
  some r0
def turn_Pick (N : Nat) (a0 : Int) (a1 : Int) (a2 : Int) : Option Int :=
  (turn_size N a1).bind fun r0 =>
  (turn_size N a2).bind fun r1 =>
  bif ((r0 == 0) == true) then
    bif (r1 == 0) then
      some 0
    else bif ((r0 == 0) == false) then
      bif ((decide ((0 : Int) < r1)) == true) then
        (turn_owed N a0).bind fun r2 =>
        bif (decide ((IntKind.wrap .i64 (15 * r1)) ≤ r2)) then
          some 2
        else some 1
      else some 1
    else some 2
  else bif ((r0 == 0) == false) then
    bif ((decide ((0 : Int) < r1)) == true) then
      (turn_owed N a0).bind fun r3 =>
      bif (decide ((IntKind.wrap .i64 (15 * r1)) ≤ r3)) then
        some 2
      else some 1
    else some 1
  else some 2
def leatref35_within (_N : Nat) (a0 : Int) (a1 : Int) : Option Int :=
  some (if a1 < (if 0 > a0 then 0 else a0) then a1 else (if 0 > a0 then 0 else a0))
def leatref35_Pick (N : Nat) (a0 : Int) (a1 : Int) (a2 : Int) : Option Int :=
  (leatref35_within N a1 65536).bind fun r0 =>
  (leatref35_within N a2 65536).bind fun r1 =>
  bif ((r0 == 0) == true) then
    bif (r1 == 0) then
      some 0
    else bif (r0 == 0) then
      some 2
    else bif ((decide ((0 : Int) < r1)) == true) then
      (leatref35_within N a0 1099511627776).bind fun r2 =>
      bif (decide ((IntKind.wrap .i64 (15 * r1)) ≤ r2)) then
        some 2
      else some 1
    else some 1
  else bif (r0 == 0) then
    some 2
  else bif ((decide ((0 : Int) < r1)) == true) then
    (leatref35_within N a0 1099511627776).bind fun r3 =>
    bif (decide ((IntKind.wrap .i64 (15 * r1)) ≤ r3)) then
      some 2
    else some 1
  else some 1
def turn_Serve (N : Nat) (a0 : Int) (a1 : Int) (a2 : Int) (a3 : Bool) : Option Int :=
  (turn_size N a2).bind fun r0 =>
  bif (a1 == 1) then
    (turn_owed N a0).bind fun r1 =>
    bif (!a3) then
      some 0
    else some (if 1099511627776 < (IntKind.wrap .i64 (r1 + r0)) then 1099511627776 else (IntKind.wrap .i64 (r1 + r0)))
  else bif (a1 == 2) then
    (turn_owed N a0).bind fun r2 =>
    bif (!a3) then
      some 0
    else some (if 0 > (IntKind.wrap .i64 (r2 - (IntKind.wrap .i64 (15 * r0)))) then 0 else (IntKind.wrap .i64 (r2 - (IntKind.wrap .i64 (15 * r0)))))
  else some a0
def leatref35_Serve (N : Nat) (a0 : Int) (a1 : Int) (a2 : Int) (a3 : Bool) : Option Int :=
  bif ((!(a1 == 1)) == true) then
    bif (!(a1 == 2)) then
      some a0
    else bif (!a3) then
      some 0
    else (leatref35_within N a2 65536).bind fun r0 =>
    bif (a1 == 1) then
      (leatref35_within N a0 1099511627776).bind fun r1 =>
      (leatref35_within N (IntKind.wrap .i64 (r1 + r0)) 1099511627776).bind fun r2 =>
      some r2
    else (leatref35_within N a0 1099511627776).bind fun r3 =>
    (leatref35_within N (IntKind.wrap .i64 (r3 - (IntKind.wrap .i64 (15 * r0)))) 1099511627776).bind fun r4 =>
    some r4
  else bif (!a3) then
    some 0
  else (leatref35_within N a2 65536).bind fun r5 =>
  bif (a1 == 1) then
    (leatref35_within N a0 1099511627776).bind fun r6 =>
    (leatref35_within N (IntKind.wrap .i64 (r6 + r5)) 1099511627776).bind fun r7 =>
    some r7
  else (leatref35_within N a0 1099511627776).bind fun r8 =>
  (leatref35_within N (IntKind.wrap .i64 (r8 - (IntKind.wrap .i64 (15 * r5)))) 1099511627776).bind fun r9 =>
  some r9
def leatlaw35_works_L3 (N : Nat) (F : ((Int × Unit) × ((Int × Unit) × Unit)) → Option (((Bool × Unit) × Unit) ⊕ (Unit × ((Int × Unit) × Unit)))) (x : ((Int × Unit) × ((Int × Unit) × Unit))) : Option (((Bool × Unit) × Unit) ⊕ (Unit × ((Int × Unit) × Unit))) :=
  bif (decide (x.1.1 < 15)) then
    (turn_Pick N x.2.1.1 1000 1000).bind fun r0 =>
    bif (!(r0 == 1)) then
      some (.inl ((false, ()), ()))
    else (turn_Serve N x.2.1.1 1 1000 true).bind fun r1 =>
    F (((IntKind.wrap .i64 (x.1.1 + 1)), ()), ((r1, ()), ()))
  else some (.inr ((), ((x.2.1.1, ()), ())))
def leatlaw35_works (N : Nat) : Option Bool :=
  (iter (leatlaw35_works_L3 N) N ((0, ()), ((0, ()), ()))).bind fun r0 =>
  match r0 with
  | .inl r1 =>
    some r1.1.1
  | .inr r2 =>
    (turn_Pick N r2.2.1.1 1000 1000).bind fun r3 =>
    bif ((r3 == 2) == true) then
      (turn_Serve N r2.2.1.1 2 1000 true).bind fun r4 =>
      some (r4 == 0)
    else some false
def leatlaw35_TurnPicks (N : Nat) (a0 : Int) (a1 : (Int × (Int × Int))) (a2 : Bool) : Option Bool :=
  (turn_Pick N a0 a1.1 a1.2.1).bind fun r0 =>
  (leatref35_Pick N a0 a1.1 a1.2.1).bind fun r1 =>
  bif ((r0 == r1) == true) then
    (turn_Serve N a0 (Int.tmod a1.2.2 4) a1.1 a2).bind fun r2 =>
    (leatref35_Serve N a0 (Int.tmod a1.2.2 4) a1.1 a2).bind fun r3 =>
    bif (((r2 == r3) && true) == true) then
      (leatlaw35_works N).bind fun r4 =>
      some r4
    else some false
  else some false
def leatlaw35_TurnShares_L5 (N : Nat) (F : ((Int × (Int × Unit)) × ((List (Int × Int)) × ((List Int) × ((Int × Unit) × ((List Int) × ((List Int) × Unit)))))) → Option (((Bool × Unit) × Unit) ⊕ (Unit × ((List Int) × ((List Int) × Unit))))) (x : ((Int × (Int × Unit)) × ((List (Int × Int)) × ((List Int) × ((Int × Unit) × ((List Int) × ((List Int) × Unit))))))) : Option (((Bool × Unit) × Unit) ⊕ (Unit × ((List Int) × ((List Int) × Unit)))) :=
  bif ((decide (x.1.2.1 < (((x.2.1).length : Nat) : Int))) == true) then
    bif (decide (x.1.2.1 < 120)) then
      bif (decide (x.1.1 < (((x.2.2.1).length : Nat) : Int))) then
        bif ((decide ((0 : Int) ≤ x.1.1)) && (decide (x.1.1 < (((x.2.2.1).length : Nat) : Int)))) then
          bif ((decide ((0 : Int) ≤ x.1.2.1)) && (decide (x.1.2.1 < (((x.2.1).length : Nat) : Int)))) then
            bif ((decide ((0 : Int) ≤ x.1.2.1)) && (decide (x.1.2.1 < (((x.2.1).length : Nat) : Int)))) then
              (turn_Pick N x.2.2.2.1.1 (IntKind.wrap .i64 ((IntKind.wrap .i64 (x.2.1.getD (x.1.2.1).toNat (0, 0)).1) * (IntKind.wrap .i64 (Int.tmod (x.2.1.getD (x.1.2.1).toNat (0, 0)).2 2)))) (IntKind.wrap .i64 ((IntKind.wrap .i64 (x.2.2.1.getD (x.1.1).toNat 0)) + 1))).bind fun r0 =>
              bif (r0 == 1) then
                bif ((IntKind.wrap .i64 ((IntKind.wrap .i64 (x.2.1.getD (x.1.2.1).toNat (0, 0)).1) * (IntKind.wrap .i64 (Int.tmod (x.2.1.getD (x.1.2.1).toNat (0, 0)).2 2)))) == 0) then
                  some (.inl ((false, ()), ()))
                else bif (decide ((((x.2.2.2.2.1).length + (([(IntKind.wrap .i64 ((IntKind.wrap .i64 (x.2.1.getD (x.1.2.1).toNat (0, 0)).1) * (IntKind.wrap .i64 (Int.tmod (x.2.1.getD (x.1.2.1).toNat (0, 0)).2 2))))] : List Int)).length) * 8) ≤ 140737488355328)) then
                  bif (decide ((((x.2.2.2.2.2.1).length + (([0] : List Int)).length) * 8) ≤ 140737488355328)) then
                    (turn_Serve N x.2.2.2.1.1 r0 (IntKind.wrap .i64 ((IntKind.wrap .i64 (x.2.1.getD (x.1.2.1).toNat (0, 0)).1) * (IntKind.wrap .i64 (Int.tmod (x.2.1.getD (x.1.2.1).toNat (0, 0)).2 2)))) true).bind fun r1 =>
                    F ((x.1.1, ((IntKind.wrap .i64 (x.1.2.1 + 1)), ())), (x.2.1, (x.2.2.1, ((r1, ()), ((x.2.2.2.2.1 ++ ([(IntKind.wrap .i64 ((IntKind.wrap .i64 (x.2.1.getD (x.1.2.1).toNat (0, 0)).1) * (IntKind.wrap .i64 (Int.tmod (x.2.1.getD (x.1.2.1).toNat (0, 0)).2 2))))] : List Int)), ((x.2.2.2.2.2.1 ++ ([0] : List Int)), ()))))))
                  else none
                else none
              else bif (r0 == 2) then
                bif (decide ((((x.2.2.2.2.1).length + (([0] : List Int)).length) * 8) ≤ 140737488355328)) then
                  bif (decide ((((x.2.2.2.2.2.1).length + (([(IntKind.wrap .i64 ((IntKind.wrap .i64 (x.2.2.1.getD (x.1.1).toNat 0)) + 1))] : List Int)).length) * 8) ≤ 140737488355328)) then
                    (turn_Serve N x.2.2.2.1.1 r0 (IntKind.wrap .i64 ((IntKind.wrap .i64 (x.2.2.1.getD (x.1.1).toNat 0)) + 1)) true).bind fun r2 =>
                    F (((IntKind.wrap .i64 (x.1.1 + 1)), ((IntKind.wrap .i64 (x.1.2.1 + 1)), ())), (x.2.1, (x.2.2.1, ((r2, ()), ((x.2.2.2.2.1 ++ ([0] : List Int)), ((x.2.2.2.2.2.1 ++ ([(IntKind.wrap .i64 ((IntKind.wrap .i64 (x.2.2.1.getD (x.1.1).toNat 0)) + 1))] : List Int)), ()))))))
                  else none
                else none
              else some (.inl ((false, ()), ()))
            else none
          else none
        else none
      else bif ((decide ((0 : Int) ≤ x.1.2.1)) && (decide (x.1.2.1 < (((x.2.1).length : Nat) : Int)))) then
        bif ((decide ((0 : Int) ≤ x.1.2.1)) && (decide (x.1.2.1 < (((x.2.1).length : Nat) : Int)))) then
          (turn_Pick N x.2.2.2.1.1 (IntKind.wrap .i64 ((IntKind.wrap .i64 (x.2.1.getD (x.1.2.1).toNat (0, 0)).1) * (IntKind.wrap .i64 (Int.tmod (x.2.1.getD (x.1.2.1).toNat (0, 0)).2 2)))) 1500).bind fun r3 =>
          bif (r3 == 1) then
            bif ((IntKind.wrap .i64 ((IntKind.wrap .i64 (x.2.1.getD (x.1.2.1).toNat (0, 0)).1) * (IntKind.wrap .i64 (Int.tmod (x.2.1.getD (x.1.2.1).toNat (0, 0)).2 2)))) == 0) then
              some (.inl ((false, ()), ()))
            else bif (decide ((((x.2.2.2.2.1).length + (([(IntKind.wrap .i64 ((IntKind.wrap .i64 (x.2.1.getD (x.1.2.1).toNat (0, 0)).1) * (IntKind.wrap .i64 (Int.tmod (x.2.1.getD (x.1.2.1).toNat (0, 0)).2 2))))] : List Int)).length) * 8) ≤ 140737488355328)) then
              bif (decide ((((x.2.2.2.2.2.1).length + (([0] : List Int)).length) * 8) ≤ 140737488355328)) then
                (turn_Serve N x.2.2.2.1.1 r3 (IntKind.wrap .i64 ((IntKind.wrap .i64 (x.2.1.getD (x.1.2.1).toNat (0, 0)).1) * (IntKind.wrap .i64 (Int.tmod (x.2.1.getD (x.1.2.1).toNat (0, 0)).2 2)))) true).bind fun r4 =>
                F ((x.1.1, ((IntKind.wrap .i64 (x.1.2.1 + 1)), ())), (x.2.1, (x.2.2.1, ((r4, ()), ((x.2.2.2.2.1 ++ ([(IntKind.wrap .i64 ((IntKind.wrap .i64 (x.2.1.getD (x.1.2.1).toNat (0, 0)).1) * (IntKind.wrap .i64 (Int.tmod (x.2.1.getD (x.1.2.1).toNat (0, 0)).2 2))))] : List Int)), ((x.2.2.2.2.2.1 ++ ([0] : List Int)), ()))))))
              else none
            else none
          else bif (r3 == 2) then
            bif (decide ((((x.2.2.2.2.1).length + (([0] : List Int)).length) * 8) ≤ 140737488355328)) then
              bif (decide ((((x.2.2.2.2.2.1).length + (([1500] : List Int)).length) * 8) ≤ 140737488355328)) then
                (turn_Serve N x.2.2.2.1.1 r3 1500 true).bind fun r5 =>
                F (((IntKind.wrap .i64 (x.1.1 + 1)), ((IntKind.wrap .i64 (x.1.2.1 + 1)), ())), (x.2.1, (x.2.2.1, ((r5, ()), ((x.2.2.2.2.1 ++ ([0] : List Int)), ((x.2.2.2.2.2.1 ++ ([1500] : List Int)), ()))))))
              else none
            else none
          else some (.inl ((false, ()), ()))
        else none
      else none
    else some (.inr ((), (x.2.2.2.2.1, (x.2.2.2.2.2.1, ()))))
  else some (.inr ((), (x.2.2.2.2.1, (x.2.2.2.2.2.1, ()))))
def leatlaw35_TurnShares_L28 (_N : Nat) (F : ((Int × (Int × (Int × (Int × (Int × Unit))))) × ((List Int) × ((List Int) × Unit))) → Option (((Bool × Unit) × Unit) ⊕ ((Int × (Int × Unit)) × ((List Int) × ((List Int) × Unit))))) (x : ((Int × (Int × (Int × (Int × (Int × Unit))))) × ((List Int) × ((List Int) × Unit)))) : Option (((Bool × Unit) × Unit) ⊕ ((Int × (Int × Unit)) × ((List Int) × ((List Int) × Unit)))) :=
  bif (decide (x.1.2.2.1 < (((x.2.1).length : Nat) : Int))) then
    bif ((decide ((0 : Int) ≤ x.1.2.2.1)) && (decide (x.1.2.2.1 < (((x.2.1).length : Nat) : Int)))) then
      bif ((decide ((0 : Int) ≤ x.1.2.2.1)) && (decide (x.1.2.2.1 < (((x.2.2.1).length : Nat) : Int)))) then
        bif (decide ((IntKind.wrap .i64 ((IntKind.wrap .i64 (16 * (IntKind.wrap .i64 (x.1.2.1 + (x.2.2.1.getD (x.1.2.2.1).toNat 0))))) + 1048576)) < (IntKind.wrap .i64 ((IntKind.wrap .i64 (x.1.1 + (x.2.1.getD (x.1.2.2.1).toNat 0))) + (IntKind.wrap .i64 (x.1.2.1 + (x.2.2.1.getD (x.1.2.2.1).toNat 0))))))) then
          some (.inl ((false, ()), ()))
        else F (((IntKind.wrap .i64 (x.1.1 + (x.2.1.getD (x.1.2.2.1).toNat 0))), ((IntKind.wrap .i64 (x.1.2.1 + (x.2.2.1.getD (x.1.2.2.1).toNat 0))), ((IntKind.wrap .i64 (x.1.2.2.1 + 1)), (x.1.2.2.2.1, (x.1.2.2.2.2.1, ()))))), (x.2.1, (x.2.2.1, ())))
      else none
    else none
  else some (.inr ((x.1.2.2.2.1, (x.1.2.2.2.2.1, ())), (x.2.1, (x.2.2.1, ()))))
def leatlaw35_TurnShares_L24 (N : Nat) (F : ((Int × (Int × Unit)) × ((List Int) × ((List Int) × Unit))) → Option (((Bool × Unit) × Unit) ⊕ (Unit × Unit))) (x : ((Int × (Int × Unit)) × ((List Int) × ((List Int) × Unit)))) : Option (((Bool × Unit) × Unit) ⊕ (Unit × Unit)) :=
  bif (decide (x.1.2.1 < x.1.1)) then
    (iter (leatlaw35_TurnShares_L28 N) N ((0, (0, (x.1.2.1, (x.1.1, (x.1.2.1, ()))))), (x.2.1, (x.2.2.1, ())))).bind fun r0 =>
    match r0 with
    | .inl r1 =>
      some (.inl ((r1.1.1, ()), ()))
    | .inr r2 =>
      F ((r2.1.1, ((IntKind.wrap .i64 (r2.1.2.1 + 1)), ())), (r2.2.1, (r2.2.2.1, ())))
  else some (.inr ((), ()))
def leatlaw35_TurnShares (N : Nat) (a0 : (List (Int × Int))) (a1 : (List Int)) : Option Bool :=
  (iter (leatlaw35_TurnShares_L5 N) N ((0, (0, ())), (a0, (a1, ((0, ()), (([] : List Int), (([] : List Int), ()))))))).bind fun r0 =>
  match r0 with
  | .inl r1 =>
    some r1.1.1
  | .inr r2 =>
    (iter (leatlaw35_TurnShares_L24 N) N (((((r2.2.1).length : Nat) : Int), (0, ())), (r2.2.1, (r2.2.2.1, ())))).bind fun r3 =>
    match r3 with
    | .inl r4 =>
      some r4.1.1
    | .inr _ =>
      (leatlaw35_works N).bind fun r6 =>
      some r6
def step_Ramp_1 (N : Nat) (a0 : Int) : Option Int :=
  (sat_Clamp N a0 0 67108864).bind fun r0 =>
  some r0
def bits_Mul64 (_N : Nat) (a0 : Int) (a1 : Int) : Option (Int × Int) :=
  some ((IntKind.wrap .u64 ((IntKind.wrap .u64 ((IntKind.wrap .u64 ((Int.fdiv a0 4294967296) * (Int.fdiv a1 4294967296))) + (Int.fdiv (IntKind.wrap .u64 ((IntKind.wrap .u64 ((Int.fdiv a0 4294967296) * (bits .and .u64 a1 4294967295))) + (Int.fdiv (IntKind.wrap .u64 ((bits .and .u64 a0 4294967295) * (bits .and .u64 a1 4294967295))) 4294967296))) 4294967296))) + (Int.fdiv (IntKind.wrap .u64 ((bits .and .u64 (IntKind.wrap .u64 ((IntKind.wrap .u64 ((Int.fdiv a0 4294967296) * (bits .and .u64 a1 4294967295))) + (Int.fdiv (IntKind.wrap .u64 ((bits .and .u64 a0 4294967295) * (bits .and .u64 a1 4294967295))) 4294967296))) 4294967295) + (IntKind.wrap .u64 ((bits .and .u64 a0 4294967295) * (Int.fdiv a1 4294967296))))) 4294967296))), (IntKind.wrap .u64 (a0 * a1)))
def wide_Mul (N : Nat) (a0 : Int) (a1 : Int) : Option (Int × Int) :=
  (bits_Mul64 N a0 a1).bind fun r0 =>
  some r0
def bits_Len64_tab0 : ByteArray := bytesL [0, 1, 2, 2, 3, 3, 3, 3, 4, 4, 4, 4, 4, 4, 4, 4, 5, 5, 5, 5, 5, 5, 5, 5, 5, 5, 5, 5, 5, 5, 5, 5, 6, 6, 6, 6, 6, 6, 6, 6, 6, 6, 6, 6, 6, 6, 6, 6, 6, 6, 6, 6, 6, 6, 6, 6, 6, 6, 6, 6, 6, 6, 6, 6, 7, 7, 7, 7, 7, 7, 7, 7, 7, 7, 7, 7, 7, 7, 7, 7, 7, 7, 7, 7, 7, 7, 7, 7, 7, 7, 7, 7, 7, 7, 7, 7, 7, 7, 7, 7, 7, 7, 7, 7, 7, 7, 7, 7, 7, 7, 7, 7, 7, 7, 7, 7, 7, 7, 7, 7, 7, 7, 7, 7, 7, 7, 7, 7, 8, 8, 8, 8, 8, 8, 8, 8, 8, 8, 8, 8, 8, 8, 8, 8, 8, 8, 8, 8, 8, 8, 8, 8, 8, 8, 8, 8, 8, 8, 8, 8, 8, 8, 8, 8, 8, 8, 8, 8, 8, 8, 8, 8, 8, 8, 8, 8, 8, 8, 8, 8, 8, 8, 8, 8, 8, 8, 8, 8, 8, 8, 8, 8, 8, 8, 8, 8, 8, 8, 8, 8, 8, 8, 8, 8, 8, 8, 8, 8, 8, 8, 8, 8, 8, 8, 8, 8, 8, 8, 8, 8, 8, 8, 8, 8, 8, 8, 8, 8, 8, 8, 8, 8, 8, 8, 8, 8, 8, 8, 8, 8, 8, 8, 8, 8, 8, 8, 8, 8, 8, 8, 8, 8, 8, 8, 8, 8]
def bits_Len64 (_N : Nat) (a0 : Int) : Option Int :=
  bif (decide ((4294967296 : Int) ≤ a0)) then
    bif (decide ((65536 : Int) ≤ (Int.fdiv a0 4294967296))) then
      bif (decide ((256 : Int) ≤ (Int.fdiv (Int.fdiv a0 4294967296) 65536))) then
        bif ((decide ((0 : Int) ≤ (IntKind.wrap .u8 (Int.fdiv (Int.fdiv (Int.fdiv a0 4294967296) 65536) 256)))) && (decide ((IntKind.wrap .u8 (Int.fdiv (Int.fdiv (Int.fdiv a0 4294967296) 65536) 256)) < (((bits_Len64_tab0).size : Nat) : Int)))) then
          some (IntKind.wrap .i64 (56 + (IntKind.wrap .i64 (byteAt bits_Len64_tab0 (IntKind.wrap .u8 (Int.fdiv (Int.fdiv (Int.fdiv a0 4294967296) 65536) 256))))))
        else none
      else bif ((decide ((0 : Int) ≤ (IntKind.wrap .u8 (Int.fdiv (Int.fdiv a0 4294967296) 65536)))) && (decide ((IntKind.wrap .u8 (Int.fdiv (Int.fdiv a0 4294967296) 65536)) < (((bits_Len64_tab0).size : Nat) : Int)))) then
        some (IntKind.wrap .i64 (48 + (IntKind.wrap .i64 (byteAt bits_Len64_tab0 (IntKind.wrap .u8 (Int.fdiv (Int.fdiv a0 4294967296) 65536))))))
      else none
    else bif (decide ((256 : Int) ≤ (Int.fdiv a0 4294967296))) then
      bif ((decide ((0 : Int) ≤ (IntKind.wrap .u8 (Int.fdiv (Int.fdiv a0 4294967296) 256)))) && (decide ((IntKind.wrap .u8 (Int.fdiv (Int.fdiv a0 4294967296) 256)) < (((bits_Len64_tab0).size : Nat) : Int)))) then
        some (IntKind.wrap .i64 (40 + (IntKind.wrap .i64 (byteAt bits_Len64_tab0 (IntKind.wrap .u8 (Int.fdiv (Int.fdiv a0 4294967296) 256))))))
      else none
    else bif ((decide ((0 : Int) ≤ (IntKind.wrap .u8 (Int.fdiv a0 4294967296)))) && (decide ((IntKind.wrap .u8 (Int.fdiv a0 4294967296)) < (((bits_Len64_tab0).size : Nat) : Int)))) then
      some (IntKind.wrap .i64 (32 + (IntKind.wrap .i64 (byteAt bits_Len64_tab0 (IntKind.wrap .u8 (Int.fdiv a0 4294967296))))))
    else none
  else bif (decide ((65536 : Int) ≤ a0)) then
    bif (decide ((256 : Int) ≤ (Int.fdiv a0 65536))) then
      bif ((decide ((0 : Int) ≤ (IntKind.wrap .u8 (Int.fdiv (Int.fdiv a0 65536) 256)))) && (decide ((IntKind.wrap .u8 (Int.fdiv (Int.fdiv a0 65536) 256)) < (((bits_Len64_tab0).size : Nat) : Int)))) then
        some (IntKind.wrap .i64 (24 + (IntKind.wrap .i64 (byteAt bits_Len64_tab0 (IntKind.wrap .u8 (Int.fdiv (Int.fdiv a0 65536) 256))))))
      else none
    else bif ((decide ((0 : Int) ≤ (IntKind.wrap .u8 (Int.fdiv a0 65536)))) && (decide ((IntKind.wrap .u8 (Int.fdiv a0 65536)) < (((bits_Len64_tab0).size : Nat) : Int)))) then
      some (IntKind.wrap .i64 (16 + (IntKind.wrap .i64 (byteAt bits_Len64_tab0 (IntKind.wrap .u8 (Int.fdiv a0 65536))))))
    else none
  else bif (decide ((256 : Int) ≤ a0)) then
    bif ((decide ((0 : Int) ≤ (IntKind.wrap .u8 (Int.fdiv a0 256)))) && (decide ((IntKind.wrap .u8 (Int.fdiv a0 256)) < (((bits_Len64_tab0).size : Nat) : Int)))) then
      some (IntKind.wrap .i64 (8 + (IntKind.wrap .i64 (byteAt bits_Len64_tab0 (IntKind.wrap .u8 (Int.fdiv a0 256))))))
    else none
  else bif ((decide ((0 : Int) ≤ (IntKind.wrap .u8 a0))) && (decide ((IntKind.wrap .u8 a0) < (((bits_Len64_tab0).size : Nat) : Int)))) then
    some (IntKind.wrap .i64 (0 + (IntKind.wrap .i64 (byteAt bits_Len64_tab0 (IntKind.wrap .u8 a0)))))
  else none
def bits_LeadingZeros64 (N : Nat) (a0 : Int) : Option Int :=
  (bits_Len64 N a0).bind fun r0 =>
  some (IntKind.wrap .i64 (64 - r0))
def bits_Div64_L17 (_N : Nat) (F : ((Int × (Int × (Int × (Int × (Int × (Int × (Int × (Int × (Int × Unit))))))))) × Unit) → Option ((Int × (Int × (Int × (Int × (Int × (Int × (Int × (Int × Unit)))))))) × Unit)) (x : ((Int × (Int × (Int × (Int × (Int × (Int × (Int × (Int × (Int × Unit))))))))) × Unit)) : Option ((Int × (Int × (Int × (Int × (Int × (Int × (Int × (Int × Unit)))))))) × Unit) :=
  bif ((decide ((4294967296 : Int) ≤ x.1.2.2.2.2.2.2.2.1)) == false) then
    bif (decide ((IntKind.wrap .u64 ((IntKind.wrap .u64 (4294967296 * x.1.2.2.2.2.2.2.2.2.1)) + x.1.2.2.2.2.2.1)) < (IntKind.wrap .u64 (x.1.2.2.2.2.2.2.2.1 * x.1.2.2.2.1)))) then
      bif (decide ((4294967296 : Int) ≤ (IntKind.wrap .u64 (x.1.2.2.2.2.2.2.2.2.1 + x.1.2.2.1)))) then
        some ((x.1.1, (x.1.2.1, (x.1.2.2.1, (x.1.2.2.2.1, (x.1.2.2.2.2.1, (x.1.2.2.2.2.2.1, (x.1.2.2.2.2.2.2.1, ((IntKind.wrap .u64 (x.1.2.2.2.2.2.2.2.1 - 1)), ())))))))), ())
      else F ((x.1.1, (x.1.2.1, (x.1.2.2.1, (x.1.2.2.2.1, (x.1.2.2.2.2.1, (x.1.2.2.2.2.2.1, (x.1.2.2.2.2.2.2.1, ((IntKind.wrap .u64 (x.1.2.2.2.2.2.2.2.1 - 1)), ((IntKind.wrap .u64 (x.1.2.2.2.2.2.2.2.2.1 + x.1.2.2.1)), ()))))))))), ())
    else some ((x.1.1, (x.1.2.1, (x.1.2.2.1, (x.1.2.2.2.1, (x.1.2.2.2.2.1, (x.1.2.2.2.2.2.1, (x.1.2.2.2.2.2.2.1, (x.1.2.2.2.2.2.2.2.1, ())))))))), ())
  else bif (decide ((4294967296 : Int) ≤ (IntKind.wrap .u64 (x.1.2.2.2.2.2.2.2.2.1 + x.1.2.2.1)))) then
    some ((x.1.1, (x.1.2.1, (x.1.2.2.1, (x.1.2.2.2.1, (x.1.2.2.2.2.1, (x.1.2.2.2.2.2.1, (x.1.2.2.2.2.2.2.1, ((IntKind.wrap .u64 (x.1.2.2.2.2.2.2.2.1 - 1)), ())))))))), ())
  else F ((x.1.1, (x.1.2.1, (x.1.2.2.1, (x.1.2.2.2.1, (x.1.2.2.2.2.1, (x.1.2.2.2.2.2.1, (x.1.2.2.2.2.2.2.1, ((IntKind.wrap .u64 (x.1.2.2.2.2.2.2.2.1 - 1)), ((IntKind.wrap .u64 (x.1.2.2.2.2.2.2.2.2.1 + x.1.2.2.1)), ()))))))))), ())
def bits_Div64_L24 (_N : Nat) (F : ((Int × (Int × (Int × (Int × (Int × (Int × (Int × (Int × (Int × Unit))))))))) × Unit) → Option ((Int × (Int × (Int × (Int × (Int × (Int × Unit)))))) × Unit)) (x : ((Int × (Int × (Int × (Int × (Int × (Int × (Int × (Int × (Int × Unit))))))))) × Unit)) : Option ((Int × (Int × (Int × (Int × (Int × (Int × Unit)))))) × Unit) :=
  bif ((decide ((4294967296 : Int) ≤ x.1.2.2.2.2.2.2.2.2.1)) == false) then
    bif (decide ((IntKind.wrap .u64 ((IntKind.wrap .u64 (4294967296 * x.1.2.2.2.2.2.2.1)) + x.1.2.2.2.2.1)) < (IntKind.wrap .u64 (x.1.2.2.2.2.2.2.2.2.1 * x.1.2.2.2.1)))) then
      bif (decide ((4294967296 : Int) ≤ (IntKind.wrap .u64 (x.1.2.2.2.2.2.2.1 + x.1.2.2.1)))) then
        some ((x.1.1, (x.1.2.1, (x.1.2.2.2.2.1, (x.1.2.2.2.2.2.1, (x.1.2.2.2.2.2.2.2.1, ((IntKind.wrap .u64 (x.1.2.2.2.2.2.2.2.2.1 - 1)), ())))))), ())
      else F ((x.1.1, (x.1.2.1, (x.1.2.2.1, (x.1.2.2.2.1, (x.1.2.2.2.2.1, (x.1.2.2.2.2.2.1, ((IntKind.wrap .u64 (x.1.2.2.2.2.2.2.1 + x.1.2.2.1)), (x.1.2.2.2.2.2.2.2.1, ((IntKind.wrap .u64 (x.1.2.2.2.2.2.2.2.2.1 - 1)), ()))))))))), ())
    else some ((x.1.1, (x.1.2.1, (x.1.2.2.2.2.1, (x.1.2.2.2.2.2.1, (x.1.2.2.2.2.2.2.2.1, (x.1.2.2.2.2.2.2.2.2.1, ())))))), ())
  else bif (decide ((4294967296 : Int) ≤ (IntKind.wrap .u64 (x.1.2.2.2.2.2.2.1 + x.1.2.2.1)))) then
    some ((x.1.1, (x.1.2.1, (x.1.2.2.2.2.1, (x.1.2.2.2.2.2.1, (x.1.2.2.2.2.2.2.2.1, ((IntKind.wrap .u64 (x.1.2.2.2.2.2.2.2.2.1 - 1)), ())))))), ())
  else F ((x.1.1, (x.1.2.1, (x.1.2.2.1, (x.1.2.2.2.1, (x.1.2.2.2.2.1, (x.1.2.2.2.2.2.1, ((IntKind.wrap .u64 (x.1.2.2.2.2.2.2.1 + x.1.2.2.1)), (x.1.2.2.2.2.2.2.2.1, ((IntKind.wrap .u64 (x.1.2.2.2.2.2.2.2.2.1 - 1)), ()))))))))), ())
def bits_Div64 (N : Nat) (a0 : Int) (a1 : Int) (a2 : Int) : Option (Int × Int) :=
  bif (a2 == 0) then
    none
  else bif (decide (a2 ≤ a0)) then
    none
  else bif (a0 == 0) then
    bif (!(decide (a2 = 0))) then
      bif (!(decide (a2 = 0))) then
        some ((IntKind.wrap .u64 (Int.tdiv a1 a2)), (Int.tmod a1 a2))
      else none
    else none
  else (bits_LeadingZeros64 N a2).bind fun r0 =>
  bif (!(decide ((IntKind.wrap .u64 r0) < 0))) then
    bif (!(decide ((IntKind.wrap .u64 r0) < 0))) then
      bif (!(decide ((IntKind.wrap .u64 (64 - (IntKind.wrap .u64 r0))) < 0))) then
        bif (!(decide ((IntKind.wrap .u64 r0) < 0))) then
          bif (!(decide ((Int.fdiv (IntKind.wrap .u64 (a2 * 2 ^ (min ((IntKind.wrap .u64 r0)).toNat 64))) 4294967296) = 0))) then
            (iter (bits_Div64_L17 N) N (((IntKind.wrap .u64 (a2 * 2 ^ (min ((IntKind.wrap .u64 r0)).toNat 64))), ((IntKind.wrap .u64 r0), ((Int.fdiv (IntKind.wrap .u64 (a2 * 2 ^ (min ((IntKind.wrap .u64 r0)).toNat 64))) 4294967296), ((bits .and .u64 (IntKind.wrap .u64 (a2 * 2 ^ (min ((IntKind.wrap .u64 r0)).toNat 64))) 4294967295), ((bits .or .u64 (IntKind.wrap .u64 (a0 * 2 ^ (min ((IntKind.wrap .u64 r0)).toNat 64))) (Int.fdiv a1 (2 ^ (min ((IntKind.wrap .u64 (64 - (IntKind.wrap .u64 r0)))).toNat 64)))), ((Int.fdiv (IntKind.wrap .u64 (a1 * 2 ^ (min ((IntKind.wrap .u64 r0)).toNat 64))) 4294967296), ((bits .and .u64 (IntKind.wrap .u64 (a1 * 2 ^ (min ((IntKind.wrap .u64 r0)).toNat 64))) 4294967295), ((IntKind.wrap .u64 (Int.tdiv (bits .or .u64 (IntKind.wrap .u64 (a0 * 2 ^ (min ((IntKind.wrap .u64 r0)).toNat 64))) (Int.fdiv a1 (2 ^ (min ((IntKind.wrap .u64 (64 - (IntKind.wrap .u64 r0)))).toNat 64)))) (Int.fdiv (IntKind.wrap .u64 (a2 * 2 ^ (min ((IntKind.wrap .u64 r0)).toNat 64))) 4294967296))), ((IntKind.wrap .u64 ((bits .or .u64 (IntKind.wrap .u64 (a0 * 2 ^ (min ((IntKind.wrap .u64 r0)).toNat 64))) (Int.fdiv a1 (2 ^ (min ((IntKind.wrap .u64 (64 - (IntKind.wrap .u64 r0)))).toNat 64)))) - (IntKind.wrap .u64 ((IntKind.wrap .u64 (Int.tdiv (bits .or .u64 (IntKind.wrap .u64 (a0 * 2 ^ (min ((IntKind.wrap .u64 r0)).toNat 64))) (Int.fdiv a1 (2 ^ (min ((IntKind.wrap .u64 (64 - (IntKind.wrap .u64 r0)))).toNat 64)))) (Int.fdiv (IntKind.wrap .u64 (a2 * 2 ^ (min ((IntKind.wrap .u64 r0)).toNat 64))) 4294967296))) * (Int.fdiv (IntKind.wrap .u64 (a2 * 2 ^ (min ((IntKind.wrap .u64 r0)).toNat 64))) 4294967296))))), ()))))))))), ())).bind fun r1 =>
            bif (!(decide (r1.1.2.2.1 = 0))) then
              (iter (bits_Div64_L24 N) N ((r1.1.1, (r1.1.2.1, (r1.1.2.2.1, (r1.1.2.2.2.1, (r1.1.2.2.2.2.2.2.1, (r1.1.2.2.2.2.2.2.2.1, ((IntKind.wrap .u64 ((IntKind.wrap .u64 ((IntKind.wrap .u64 ((IntKind.wrap .u64 (r1.1.2.2.2.2.1 * 4294967296)) + r1.1.2.2.2.2.2.1)) - (IntKind.wrap .u64 (r1.1.2.2.2.2.2.2.2.1 * r1.1.1)))) - (IntKind.wrap .u64 ((IntKind.wrap .u64 (Int.tdiv (IntKind.wrap .u64 ((IntKind.wrap .u64 ((IntKind.wrap .u64 (r1.1.2.2.2.2.1 * 4294967296)) + r1.1.2.2.2.2.2.1)) - (IntKind.wrap .u64 (r1.1.2.2.2.2.2.2.2.1 * r1.1.1)))) r1.1.2.2.1)) * r1.1.2.2.1)))), ((IntKind.wrap .u64 ((IntKind.wrap .u64 ((IntKind.wrap .u64 (r1.1.2.2.2.2.1 * 4294967296)) + r1.1.2.2.2.2.2.1)) - (IntKind.wrap .u64 (r1.1.2.2.2.2.2.2.2.1 * r1.1.1)))), ((IntKind.wrap .u64 (Int.tdiv (IntKind.wrap .u64 ((IntKind.wrap .u64 ((IntKind.wrap .u64 (r1.1.2.2.2.2.1 * 4294967296)) + r1.1.2.2.2.2.2.1)) - (IntKind.wrap .u64 (r1.1.2.2.2.2.2.2.2.1 * r1.1.1)))) r1.1.2.2.1)), ()))))))))), ())).bind fun r2 =>
              bif (!(decide (r2.1.2.1 < 0))) then
                some ((IntKind.wrap .u64 ((IntKind.wrap .u64 (r2.1.2.2.2.1 * 4294967296)) + r2.1.2.2.2.2.2.1)), (Int.fdiv (IntKind.wrap .u64 ((IntKind.wrap .u64 ((IntKind.wrap .u64 (r2.1.2.2.2.2.1 * 4294967296)) + r2.1.2.2.1)) - (IntKind.wrap .u64 (r2.1.2.2.2.2.2.1 * r2.1.1)))) (2 ^ (min (r2.1.2.1).toNat 64))))
              else none
            else none
          else none
        else none
      else none
    else none
  else none
def wide_Div (N : Nat) (a0 : (Int × Int)) (a1 : Int) : Option ((Int × Int) × Int) :=
  bif (a1 == 0) then
    some ((0, 0), 0)
  else bif (!(decide (a1 = 0))) then
    bif (!(decide (a1 = 0))) then
      (bits_Div64 N (Int.tmod a0.1 a1) a0.2 a1).bind fun r0 =>
      some (((IntKind.wrap .u64 (Int.tdiv a0.1 a1)), r0.1), r0.2)
    else none
  else none
def wide_muldiv (N : Nat) (a0 : Int) (a1 : Int) (a2 : Int) : Option ((Int × Int) × (Bool × Int)) :=
  bif ((decide (a0 < 0)) == false) then
    bif ((decide (a1 < 0)) == false) then
      bif (decide (a2 ≤ 0)) then
        some ((0, 0), (false, 1))
      else (wide_Mul N (IntKind.wrap .u64 a0) (IntKind.wrap .u64 a1)).bind fun r0 =>
      (wide_Div N r0 (IntKind.wrap .u64 a2)).bind fun r1 =>
      some (r1.1, ((decide ((0 : Int) < r1.2)), 0))
    else some ((0, 0), (false, 1))
  else some ((0, 0), (false, 1))
def cmp_isNaN_uint64 (_N : Nat) (a0 : Int) : Option Bool :=
  some (!(a0 == a0))
def cmp_Compare_uint64 (N : Nat) (a0 : Int) (a1 : Int) : Option Int :=
  (cmp_isNaN_uint64 N a0).bind fun r0 =>
  (cmp_isNaN_uint64 N a1).bind fun r1 =>
  bif r0 then
    bif r1 then
      some 0
    else some (-1)
  else bif r1 then
    some 1
  else bif (decide (a0 < a1)) then
    some (-1)
  else bif (decide (a1 < a0)) then
    some 1
  else some 0
def cmp_Or_int_L3 (_N : Nat) (F : ((Int × (Int × (Int × Unit))) × ((List Int) × Unit)) → Option (((Int × Unit) × Unit) ⊕ ((Int × Unit) × Unit))) (x : ((Int × (Int × (Int × Unit))) × ((List Int) × Unit))) : Option (((Int × Unit) × Unit) ⊕ ((Int × Unit) × Unit)) :=
  bif (decide (x.1.2.2.1 < x.1.2.1)) then
    bif ((decide ((0 : Int) ≤ x.1.2.2.1)) && (decide (x.1.2.2.1 < (((x.2.1).length : Nat) : Int)))) then
      bif (!((x.2.1.getD (x.1.2.2.1).toNat 0) == x.1.1)) then
        some (.inl (((x.2.1.getD (x.1.2.2.1).toNat 0), ()), ()))
      else F ((x.1.1, (x.1.2.1, ((IntKind.wrap .i64 (x.1.2.2.1 + 1)), ()))), (x.2.1, ()))
    else none
  else some (.inr ((x.1.1, ()), ()))
def cmp_Or_int (N : Nat) (a0 : (List Int)) : Option Int :=
  (iter (cmp_Or_int_L3 N) N ((0, ((((a0).length : Nat) : Int), (0, ()))), (a0, ()))).bind fun r0 =>
  match r0 with
  | .inl r1 =>
    some r1.1.1
  | .inr r2 =>
    some r2.1.1
def wide_Cmp (N : Nat) (a0 : (Int × Int)) (a1 : (Int × Int)) : Option Int :=
  bif ((a0.1 == a1.1) && ((a0.2 == a1.2) && true)) then
    some 0
  else (cmp_Compare_uint64 N a0.1 a1.1).bind fun r0 =>
  (cmp_Compare_uint64 N a0.2 a1.2).bind fun r1 =>
  (cmp_Or_int N ([r0, r1] : List Int)).bind fun r2 =>
  some r2
def wide_told (N : Nat) (a0 : (Int × Int)) (a1 : Int) : Option (Int × Int) :=
  bif (!(a1 == 0)) then
    some (0, a1)
  else (wide_Cmp N a0 (0, 9223372036854775807)).bind fun r0 =>
  bif (decide ((0 : Int) < r0)) then
    some (0, 8)
  else some ((IntKind.wrap .i64 a0.2), 0)
def wide_MulDiv (N : Nat) (a0 : Int) (a1 : Int) (a2 : Int) : Option (Int × Int) :=
  (wide_muldiv N a0 a1 a2).bind fun r0 =>
  (wide_told N r0.1 r0.2.2).bind fun r1 =>
  some r1
def step_Ramp (N : Nat) (a0 : Int) (a1 : Int) (a2 : Int) : Option Int :=
  (step_Ramp_1 N a0).bind fun r0 =>
  (step_Ramp_1 N a1).bind fun r1 =>
  (step_Ramp_1 N a2).bind fun r2 =>
  bif (decide (r0 < r1)) then
    some 0
  else bif (decide (r2 ≤ r0)) then
    some 4294967296
  else (wide_MulDiv N 4294967296 (IntKind.wrap .i64 (r0 - r1)) (IntKind.wrap .i64 (r2 - r1))).bind fun r3 =>
  some r3.1
def leatlaw34_works (N : Nat) : Option Bool :=
  (step_Ramp N 1500 1000 2000).bind fun r0 =>
  some (r0 == 2147483648)
def leatlaw34_StepRises (N : Nat) (a0 : (Int × Int)) (a1 : Int) (a2 : Int) : Option Bool :=
  (step_Ramp N (if a0.2 < a0.1 then a0.2 else a0.1) a1 a2).bind fun r0 =>
  (step_Ramp N (if a0.2 > a0.1 then a0.2 else a0.1) a1 a2).bind fun r1 =>
  bif ((decide (r0 < 0)) == false) then
    bif ((decide (r1 < r0)) == false) then
      bif (decide ((4294967296 : Int) < r1)) then
        some false
      else (step_Ramp N a0.1 a1 a1).bind fun r2 =>
      bif (((r2 == 4294967296) == (decide ((if 67108864 < (if 0 > a1 then 0 else a1) then 67108864 else (if 0 > a1 then 0 else a1)) ≤ (if 67108864 < (if 0 > a0.1 then 0 else a0.1) then 67108864 else (if 0 > a0.1 then 0 else a0.1))))) == true) then
        bif ((r2 == 0) == false) then
          bif ((r2 == 4294967296) == true) then
            (leatlaw34_works N).bind fun r3 =>
            some r3
          else some false
        else (leatlaw34_works N).bind fun r4 =>
        some r4
      else some false
    else some false
  else some false
def leatref34_within (_N : Nat) (a0 : Int) : Option Int :=
  some (if 67108864 < (if 0 > a0 then 0 else a0) then 67108864 else (if 0 > a0 then 0 else a0))
def leatref34_Ramp (N : Nat) (a0 : Int) (a1 : Int) (a2 : Int) : Option Int :=
  (leatref34_within N a0).bind fun r0 =>
  (leatref34_within N a1).bind fun r1 =>
  (leatref34_within N a2).bind fun r2 =>
  bif (decide (r0 < r1)) then
    some 0
  else bif (decide (r2 ≤ r0)) then
    some 4294967296
  else bif (!(decide ((IntKind.wrap .i64 (r2 - r1)) = 0))) then
    some (IntKind.wrap .i64 (Int.tdiv (IntKind.wrap .i64 ((IntKind.wrap .i64 (r0 - r1)) * 4294967296)) (IntKind.wrap .i64 (r2 - r1))))
  else none
def step_Mark (N : Nat) (a0 : Int) (a1 : (Int × (Int × (Int × (Int × (Int × (Int × (Int × Int)))))))) (a2 : Int) : Option Int :=
  (step_Ramp N a0 a1.2.2.2.2.2.2.1 a1.2.2.2.2.2.2.2).bind fun r0 =>
  (sat_Clamp N a2 0 4294967296).bind fun r1 =>
  some (if r1 > r0 then r1 else r0)
def leatref34_Mark (N : Nat) (a0 : Int) (a1 : (Int × (Int × (Int × (Int × (Int × (Int × (Int × Int)))))))) (a2 : Int) : Option Int :=
  (leatref34_Ramp N a0 a1.2.2.2.2.2.2.1 a1.2.2.2.2.2.2.2).bind fun r0 =>
  bif (decide ((if 4294967296 < (if 0 > a2 then 0 else a2) then 4294967296 else (if 0 > a2 then 0 else a2)) < r0)) then
    some r0
  else some (if 4294967296 < (if 0 > a2 then 0 else a2) then 4294967296 else (if 0 > a2 then 0 else a2))
def leatlaw34_StepRamps (N : Nat) (a0 : Int) (a1 : (Int × (Int × (Int × (Int × (Int × (Int × (Int × Int)))))))) (a2 : Int) : Option Bool :=
  (step_Ramp N a0 a1.2.2.2.2.2.2.1 a1.2.2.2.2.2.2.2).bind fun r0 =>
  (leatref34_Ramp N a0 a1.2.2.2.2.2.2.1 a1.2.2.2.2.2.2.2).bind fun r1 =>
  bif ((r0 == r1) == true) then
    (step_Mark N a0 a1 a2).bind fun r2 =>
    (leatref34_Mark N a0 a1 a2).bind fun r3 =>
    bif ((r2 == r3) == true) then
      (leatlaw34_works N).bind fun r4 =>
      some r4
    else some false
  else some false
def couple_within_1 (N : Nat) (a0 : Int) (a1 : Int) : Option Int :=
  (sat_Clamp N a0 0 a1).bind fun r0 =>
  some r0
def couple_within (N : Nat) (a0 : Int) (a1 : Int) : Option (Int × Int) :=
  (couple_within_1 N a0 4294967296).bind fun r0 =>
  (couple_within_1 N a1 65536).bind fun r1 =>
  some (r0, r1)
def couple_Classic (N : Nat) (a0 : Int) : Option Int :=
  (couple_within N a0 0).bind fun r0 =>
  (wide_MulDiv N r0.1 r0.1 4294967296).bind fun r1 =>
  some r1.1
def couple_Low (N : Nat) (a0 : Int) (a1 : Int) : Option Int :=
  (couple_within N a0 a1).bind fun r0 =>
  some (if 4294967296 < (IntKind.wrap .i64 (r0.1 * r0.2)) then 4294967296 else (IntKind.wrap .i64 (r0.1 * r0.2)))
def couple_Hit (_N : Nat) (a0 : Int) (a1 : Int) : Option Bool :=
  some (decide ((IntKind.wrap .i64 a0) < a1))
def leatlaw33_works (N : Nat) : Option Bool :=
  (couple_Classic N 2147483648).bind fun r0 =>
  bif ((r0 == 1073741824) == true) then
    (couple_Low N 2147483648 2).bind fun r1 =>
    bif ((r1 == 4294967296) == true) then
      (couple_Hit N 5 6).bind fun r2 =>
      some r2
    else some false
  else some false
def leatlaw33_CoupleRises (N : Nat) (a0 : (Int × Int)) (a1 : (Int × Int)) : Option Bool :=
  (couple_Classic N (if a0.2 < a0.1 then a0.2 else a0.1)).bind fun r0 =>
  (couple_Classic N (if a0.2 > a0.1 then a0.2 else a0.1)).bind fun r1 =>
  bif ((decide (r0 ≤ r1)) == true) then
    (couple_Low N (if a0.2 < a0.1 then a0.2 else a0.1) (if a1.2 < a1.1 then a1.2 else a1.1)).bind fun r2 =>
    (couple_Low N (if a0.2 > a0.1 then a0.2 else a0.1) (if a1.2 < a1.1 then a1.2 else a1.1)).bind fun r3 =>
    bif ((decide (r2 ≤ r3)) == true) then
      (couple_Low N (if a0.2 < a0.1 then a0.2 else a0.1) (if a1.2 < a1.1 then a1.2 else a1.1)).bind fun r4 =>
      (couple_Low N (if a0.2 < a0.1 then a0.2 else a0.1) (if a1.2 > a1.1 then a1.2 else a1.1)).bind fun r5 =>
      bif ((decide (r4 ≤ r5)) == true) then
        (couple_Classic N (if a0.2 < a0.1 then a0.2 else a0.1)).bind fun r6 =>
        bif ((decide ((0 : Int) ≤ r6)) == true) then
          (couple_Low N (if a0.2 < a0.1 then a0.2 else a0.1) (if a1.2 < a1.1 then a1.2 else a1.1)).bind fun r7 =>
          bif ((decide ((0 : Int) ≤ r7)) == true) then
            (couple_Classic N (if a0.2 > a0.1 then a0.2 else a0.1)).bind fun r8 =>
            bif ((decide (r8 ≤ 4294967296)) == true) then
              (couple_Low N (if a0.2 > a0.1 then a0.2 else a0.1) (if a1.2 > a1.1 then a1.2 else a1.1)).bind fun r9 =>
              bif ((decide (r9 ≤ 4294967296)) == true) then
                (leatlaw33_works N).bind fun r10 =>
                some r10
              else some false
            else some false
          else some false
        else some false
      else some false
    else some false
  else some false
def leatlaw33_CoupleSquares (N : Nat) (a0 : Int) : Option Bool :=
  (couple_Low N (IntKind.wrap .i64 (Int.tdiv (IntKind.wrap .i64 a0) 2)) 2).bind fun r0 =>
  bif (((IntKind.wrap .i64 (Int.tdiv r0 2)) == (IntKind.wrap .i64 (Int.tdiv (IntKind.wrap .i64 a0) 2))) == true) then
    (couple_Classic N (IntKind.wrap .i64 (Int.tdiv (IntKind.wrap .i64 a0) 2))).bind fun r1 =>
    (couple_Classic N (IntKind.wrap .i64 (Int.tdiv r0 2))).bind fun r2 =>
    bif ((r1 == r2) == true) then
      (couple_Classic N (IntKind.wrap .i64 (Int.tdiv (IntKind.wrap .i64 a0) 2))).bind fun r3 =>
      bif ((decide (r3 ≤ (IntKind.wrap .i64 (Int.tdiv r0 2)))) == true) then
        (couple_Classic N (IntKind.wrap .i64 (Int.tdiv (IntKind.wrap .i64 a0) 2))).bind fun r4 =>
        bif ((decide ((IntKind.wrap .i64 ((Int.fdiv (IntKind.wrap .i64 (Int.tdiv (IntKind.wrap .i64 a0) 2)) 65536) * (Int.fdiv (IntKind.wrap .i64 (Int.tdiv (IntKind.wrap .i64 a0) 2)) 65536))) ≤ r4)) == true) then
          (leatlaw33_works N).bind fun r5 =>
          some r5
        else some false
      else some false
    else some false
  else some false
def leatref33_within (_N : Nat) (a0 : Int) (a1 : Int) : Option Int :=
  some (if a1 < (if 0 > a0 then 0 else a0) then a1 else (if 0 > a0 then 0 else a0))
def leatref33_Classic (N : Nat) (a0 : Int) : Option Int :=
  (leatref33_within N a0 4294967296).bind fun r0 =>
  bif (r0 == 4294967296) then
    some 4294967296
  else some (IntKind.wrap .i64 (IntKind.wrap .u64 (Int.tdiv (IntKind.wrap .u64 ((IntKind.wrap .u64 r0) * (IntKind.wrap .u64 r0))) 4294967296)))
def leatref33_Low (N : Nat) (a0 : Int) (a1 : Int) : Option Int :=
  (leatref33_within N a0 4294967296).bind fun r0 =>
  (leatref33_within N a1 65536).bind fun r1 =>
  some (if 4294967296 < (IntKind.wrap .i64 (r0 * r1)) then 4294967296 else (IntKind.wrap .i64 (r0 * r1)))
def couple_Over (N : Nat) (a0 : Int) (a1 : Int) : Option Bool :=
  (couple_within N a0 a1).bind fun r0 =>
  bif ((decide ((0 : Int) < r0.1)) == true) then
    (couple_Low N r0.1 a1).bind fun r1 =>
    some (r1 == 4294967296)
  else some false
def leatref33_Over (N : Nat) (a0 : Int) (a1 : Int) : Option Bool :=
  bif ((decide ((0 : Int) < a0)) == true) then
    (leatref33_within N a0 4294967296).bind fun r0 =>
    (leatref33_within N a1 65536).bind fun r1 =>
    some (decide ((4294967296 : Int) ≤ (IntKind.wrap .i64 (r0 * r1))))
  else some false
def leatref33_Hit (_N : Nat) (a0 : Int) (a1 : Int) : Option Bool :=
  bif (decide (a1 ≤ 0)) then
    some false
  else bif (decide ((4294967296 : Int) ≤ a1)) then
    some true
  else some (decide ((IntKind.wrap .i64 a0) < a1))
def leatlaw33_CoupleShares (N : Nat) (a0 : Int) (a1 : Int) (a2 : Int) : Option Bool :=
  (couple_Classic N a0).bind fun r0 =>
  (leatref33_Classic N a0).bind fun r1 =>
  bif ((r0 == r1) == true) then
    (couple_Low N a0 a1).bind fun r2 =>
    (leatref33_Low N a0 a1).bind fun r3 =>
    bif ((r2 == r3) == true) then
      (couple_Over N a0 a1).bind fun r4 =>
      (leatref33_Over N a0 a1).bind fun r5 =>
      bif ((r4 == r5) == true) then
        (couple_Hit N a2 a0).bind fun r6 =>
        (leatref33_Hit N a2 a0).bind fun r7 =>
        bif ((r6 == r7) == true) then
          (leatlaw33_works N).bind fun r8 =>
          some r8
        else some false
      else some false
    else some false
  else some false
def classic_within (N : Nat) (a0 : Int) : Option Int :=
  (sat_Clamp N a0 0 2097152).bind fun r0 =>
  some r0
def sat_end (_N : Nat) (a0 : Bool) : Option Int :=
  bif a0 then
    some (-9223372036854775808)
  else some 9223372036854775807
def sat_Sub (N : Nat) (a0 : Int) (a1 : Int) : Option Int :=
  bif (decide ((bits .and .i64 (bits .xor .i64 a0 a1) (bits .xor .i64 a0 (IntKind.wrap .i64 (a0 - a1)))) < 0)) then
    (sat_end N (decide (a0 < 0))).bind fun r0 =>
    some r0
  else some (IntKind.wrap .i64 (a0 - a1))
def sat_Add (N : Nat) (a0 : Int) (a1 : Int) : Option Int :=
  bif (decide ((bits .and .i64 (bits .xor .i64 a0 (IntKind.wrap .i64 (a0 + a1))) (bits .xor .i64 a1 (IntKind.wrap .i64 (a0 + a1)))) < 0)) then
    (sat_end N (decide (a0 < 0))).bind fun r0 =>
    some r0
  else some (IntKind.wrap .i64 (a0 + a1))
def fixed_Toward (N : Nat) (a0 : Int) (a1 : Int) (a2 : Int) : Option Int :=
  (sat_Sub N a1 a0).bind fun r0 =>
  bif (!(decide ((if (if 62 < a2 then 62 else a2) > 0 then (if 62 < a2 then 62 else a2) else 0) < 0))) then
    (sat_Add N a0 (Int.fdiv r0 (2 ^ (min ((if (if 62 < a2 then 62 else a2) > 0 then (if 62 < a2 then 62 else a2) else 0)).toNat 64)))).bind fun r1 =>
    some r1
  else none
def fixed_Ratio (N : Nat) (a0 : Int) (a1 : Int) : Option Int :=
  bif (decide (a0 ≤ 0)) then
    some 0
  else bif ((decide (a1 ≤ 0)) == false) then
    bif (decide (a1 ≤ a0)) then
      some 1048576
    else (wide_MulDiv N a0 1048576 a1).bind fun r0 =>
    some r0.1
  else some 1048576
def fixed_Halve_L2 (_N : Nat) (F : ((Int × (Int × (Int × Unit))) × Unit) → Option ((Int × Unit) × Unit)) (x : ((Int × (Int × (Int × Unit))) × Unit)) : Option ((Int × Unit) × Unit) :=
  bif (decide (x.1.2.2.1 < x.1.2.1)) then
    F (((Int.fdiv x.1.1 2), (x.1.2.1, ((IntKind.wrap .i64 (x.1.2.2.1 + 1)), ()))), ())
  else some ((x.1.1, ()), ())
def fixed_Halve (N : Nat) (a0 : Int) (a1 : Int) : Option Int :=
  (iter (fixed_Halve_L2 N) N ((a0, ((if 64 < (if 0 > a1 then 0 else a1) then 64 else (if 0 > a1 then 0 else a1)), (0, ()))), ())).bind fun r0 =>
  some r0.1.1
def classic_Round (N : Nat) (a0 : Int) (a1 : Bool) (a2 : Int) (a3 : Int) : Option Int :=
  (classic_within N a0).bind fun r0 =>
  bif (!a1) then
    (fixed_Toward N r0 0 6).bind fun r1 =>
    some r1
  else bif (decide (a2 ≤ (if 1 > a3 then 1 else a3))) then
    (fixed_Toward N r0 0 3).bind fun r2 =>
    some r2
  else (sat_Sub N a2 (if 1 > a3 then 1 else a3)).bind fun r3 =>
  (fixed_Ratio N r3 (if 1 > a3 then 1 else a3)).bind fun r4 =>
  (fixed_Halve N r4 2).bind fun r5 =>
  (classic_within N (IntKind.wrap .i64 (r0 + r5))).bind fun r6 =>
  some r6
def leatref01_Add (_N : Nat) (a0 : Int) (a1 : Int) : Option Int :=
  bif ((decide ((0 : Int) < a1)) == true) then
    bif (decide ((IntKind.wrap .i64 (9223372036854775807 - a1)) < a0)) then
      some 9223372036854775807
    else bif ((decide (a1 < 0)) == true) then
      bif (decide (a0 < (IntKind.wrap .i64 ((-9223372036854775808) - a1)))) then
        some (-9223372036854775808)
      else some (IntKind.wrap .i64 (a0 + a1))
    else some (IntKind.wrap .i64 (a0 + a1))
  else bif ((decide (a1 < 0)) == true) then
    bif (decide (a0 < (IntKind.wrap .i64 ((-9223372036854775808) - a1)))) then
      some (-9223372036854775808)
    else some (IntKind.wrap .i64 (a0 + a1))
  else some (IntKind.wrap .i64 (a0 + a1))
def leatref01_Sub (N : Nat) (a0 : Int) (a1 : Int) : Option Int :=
  bif (a1 == (-9223372036854775808)) then
    bif (decide ((0 : Int) ≤ a0)) then
      some 9223372036854775807
    else some (IntKind.wrap .i64 (a0 - a1))
  else (leatref01_Add N a0 (IntKind.wrap .i64 (0 - a1))).bind fun r0 =>
  some r0
def leatref01_Neg (_N : Nat) (a0 : Int) : Option Int :=
  bif (a0 == (-9223372036854775808)) then
    some 9223372036854775807
  else some (IntKind.wrap .i64 (0 - a0))
def leatref01_Div (N : Nat) (a0 : Int) (a1 : Int) : Option Int :=
  bif (a1 == 0) then
    some 0
  else bif (a1 == (-1)) then
    (leatref01_Neg N a0).bind fun r0 =>
    some r0
  else bif (!(decide (a1 = 0))) then
    bif ((!((IntKind.wrap .i64 (a0 - (IntKind.wrap .i64 ((IntKind.wrap .i64 (Int.tdiv a0 a1)) * a1)))) == 0)) == true) then
      bif (!((decide ((IntKind.wrap .i64 (a0 - (IntKind.wrap .i64 ((IntKind.wrap .i64 (Int.tdiv a0 a1)) * a1)))) < 0)) == (decide (a1 < 0)))) then
        some (IntKind.wrap .i64 ((IntKind.wrap .i64 (Int.tdiv a0 a1)) - 1))
      else some (IntKind.wrap .i64 (Int.tdiv a0 a1))
    else some (IntKind.wrap .i64 (Int.tdiv a0 a1))
  else none
def leatref04_Toward_L3 (_N : Nat) (F : ((Int × (Int × (Int × (Int × (Int × Unit))))) × Unit) → Option ((Int × (Int × (Int × Unit))) × Unit)) (x : ((Int × (Int × (Int × (Int × (Int × Unit))))) × Unit)) : Option ((Int × (Int × (Int × Unit))) × Unit) :=
  bif (decide (x.1.2.2.2.2.1 < (if 62 < (if 0 > x.1.2.2.1 then 0 else x.1.2.2.1) then 62 else (if 0 > x.1.2.2.1 then 0 else x.1.2.2.1)))) then
    F ((x.1.1, (x.1.2.1, (x.1.2.2.1, ((IntKind.wrap .i64 (x.1.2.2.2.1 * 2)), ((IntKind.wrap .i64 (x.1.2.2.2.2.1 + 1)), ()))))), ())
  else some ((x.1.1, (x.1.2.1, (x.1.2.2.2.1, ()))), ())
def leatref04_Toward (N : Nat) (a0 : Int) (a1 : Int) (a2 : Int) : Option Int :=
  (iter (leatref04_Toward_L3 N) N ((a0, (a1, (a2, (1, (0, ()))))), ())).bind fun r0 =>
  (leatref01_Sub N r0.1.2.1 r0.1.1).bind fun r1 =>
  (leatref01_Div N r1 r0.1.2.2.1).bind fun r2 =>
  (leatref01_Add N r0.1.1 r2).bind fun r3 =>
  some r3
def leatref02_Bits_L3 (_N : Nat) (F : ((Int × (Int × (Int × Unit))) × ((List Int) × Unit)) → Option (Unit × ((List Int) × Unit))) (x : ((Int × (Int × (Int × Unit))) × ((List Int) × Unit))) : Option (Unit × ((List Int) × Unit)) :=
  bif (decide (x.1.2.2.1 < x.1.2.1)) then
    bif (decide ((((x.2.1).length + (([(IntKind.wrap .i64 (Int.tmod x.1.1 2))] : List Int)).length) * 8) ≤ 140737488355328)) then
      F (((IntKind.wrap .u64 (Int.tdiv x.1.1 2)), (x.1.2.1, ((IntKind.wrap .i64 (x.1.2.2.1 + 1)), ()))), ((x.2.1 ++ ([(IntKind.wrap .i64 (Int.tmod x.1.1 2))] : List Int)), ()))
    else none
  else some ((), (x.2.1, ()))
def leatref02_Bits (N : Nat) (a0 : Int) (a1 : Int) : Option (List Int) :=
  (iter (leatref02_Bits_L3 N) N ((a0, (a1, (0, ()))), (([] : List Int), ()))).bind fun r0 =>
  some r0.2.1
def leatref02_Add_L4 (_N : Nat) (F : ((Int × (Int × Unit)) × ((List Int) × ((List Int) × ((List Int) × Unit)))) → Option ((Int × Unit) × ((List Int) × Unit))) (x : ((Int × (Int × Unit)) × ((List Int) × ((List Int) × ((List Int) × Unit))))) : Option ((Int × Unit) × ((List Int) × Unit)) :=
  bif ((decide (x.1.2.1 < (((x.2.1).length : Nat) : Int))) == false) then
    bif (decide (x.1.2.1 < (((x.2.2.1).length : Nat) : Int))) then
      bif (decide (x.1.2.1 < (((x.2.1).length : Nat) : Int))) then
        bif ((decide ((0 : Int) ≤ x.1.2.1)) && (decide (x.1.2.1 < (((x.2.1).length : Nat) : Int)))) then
          bif (decide (x.1.2.1 < (((x.2.2.1).length : Nat) : Int))) then
            bif ((decide ((0 : Int) ≤ x.1.2.1)) && (decide (x.1.2.1 < (((x.2.2.1).length : Nat) : Int)))) then
              bif (decide ((((x.2.2.2.1).length + (([(Int.tmod (IntKind.wrap .i64 ((IntKind.wrap .i64 (x.1.1 + (x.2.1.getD (x.1.2.1).toNat 0))) + (x.2.2.1.getD (x.1.2.1).toNat 0))) 2)] : List Int)).length) * 8) ≤ 140737488355328)) then
                F (((IntKind.wrap .i64 (Int.tdiv (IntKind.wrap .i64 ((IntKind.wrap .i64 (x.1.1 + (x.2.1.getD (x.1.2.1).toNat 0))) + (x.2.2.1.getD (x.1.2.1).toNat 0))) 2)), ((IntKind.wrap .i64 (x.1.2.1 + 1)), ())), (x.2.1, (x.2.2.1, ((x.2.2.2.1 ++ ([(Int.tmod (IntKind.wrap .i64 ((IntKind.wrap .i64 (x.1.1 + (x.2.1.getD (x.1.2.1).toNat 0))) + (x.2.2.1.getD (x.1.2.1).toNat 0))) 2)] : List Int)), ()))))
              else none
            else none
          else bif (decide ((((x.2.2.2.1).length + (([(Int.tmod (IntKind.wrap .i64 (x.1.1 + (x.2.1.getD (x.1.2.1).toNat 0))) 2)] : List Int)).length) * 8) ≤ 140737488355328)) then
            F (((IntKind.wrap .i64 (Int.tdiv (IntKind.wrap .i64 (x.1.1 + (x.2.1.getD (x.1.2.1).toNat 0))) 2)), ((IntKind.wrap .i64 (x.1.2.1 + 1)), ())), (x.2.1, (x.2.2.1, ((x.2.2.2.1 ++ ([(Int.tmod (IntKind.wrap .i64 (x.1.1 + (x.2.1.getD (x.1.2.1).toNat 0))) 2)] : List Int)), ()))))
          else none
        else none
      else bif (decide (x.1.2.1 < (((x.2.2.1).length : Nat) : Int))) then
        bif ((decide ((0 : Int) ≤ x.1.2.1)) && (decide (x.1.2.1 < (((x.2.2.1).length : Nat) : Int)))) then
          bif (decide ((((x.2.2.2.1).length + (([(Int.tmod (IntKind.wrap .i64 (x.1.1 + (x.2.2.1.getD (x.1.2.1).toNat 0))) 2)] : List Int)).length) * 8) ≤ 140737488355328)) then
            F (((IntKind.wrap .i64 (Int.tdiv (IntKind.wrap .i64 (x.1.1 + (x.2.2.1.getD (x.1.2.1).toNat 0))) 2)), ((IntKind.wrap .i64 (x.1.2.1 + 1)), ())), (x.2.1, (x.2.2.1, ((x.2.2.2.1 ++ ([(Int.tmod (IntKind.wrap .i64 (x.1.1 + (x.2.2.1.getD (x.1.2.1).toNat 0))) 2)] : List Int)), ()))))
          else none
        else none
      else bif (decide ((((x.2.2.2.1).length + (([(Int.tmod x.1.1 2)] : List Int)).length) * 8) ≤ 140737488355328)) then
        F (((IntKind.wrap .i64 (Int.tdiv x.1.1 2)), ((IntKind.wrap .i64 (x.1.2.1 + 1)), ())), (x.2.1, (x.2.2.1, ((x.2.2.2.1 ++ ([(Int.tmod x.1.1 2)] : List Int)), ()))))
      else none
    else some ((x.1.1, ()), (x.2.2.2.1, ()))
  else bif (decide (x.1.2.1 < (((x.2.1).length : Nat) : Int))) then
    bif ((decide ((0 : Int) ≤ x.1.2.1)) && (decide (x.1.2.1 < (((x.2.1).length : Nat) : Int)))) then
      bif (decide (x.1.2.1 < (((x.2.2.1).length : Nat) : Int))) then
        bif ((decide ((0 : Int) ≤ x.1.2.1)) && (decide (x.1.2.1 < (((x.2.2.1).length : Nat) : Int)))) then
          bif (decide ((((x.2.2.2.1).length + (([(Int.tmod (IntKind.wrap .i64 ((IntKind.wrap .i64 (x.1.1 + (x.2.1.getD (x.1.2.1).toNat 0))) + (x.2.2.1.getD (x.1.2.1).toNat 0))) 2)] : List Int)).length) * 8) ≤ 140737488355328)) then
            F (((IntKind.wrap .i64 (Int.tdiv (IntKind.wrap .i64 ((IntKind.wrap .i64 (x.1.1 + (x.2.1.getD (x.1.2.1).toNat 0))) + (x.2.2.1.getD (x.1.2.1).toNat 0))) 2)), ((IntKind.wrap .i64 (x.1.2.1 + 1)), ())), (x.2.1, (x.2.2.1, ((x.2.2.2.1 ++ ([(Int.tmod (IntKind.wrap .i64 ((IntKind.wrap .i64 (x.1.1 + (x.2.1.getD (x.1.2.1).toNat 0))) + (x.2.2.1.getD (x.1.2.1).toNat 0))) 2)] : List Int)), ()))))
          else none
        else none
      else bif (decide ((((x.2.2.2.1).length + (([(Int.tmod (IntKind.wrap .i64 (x.1.1 + (x.2.1.getD (x.1.2.1).toNat 0))) 2)] : List Int)).length) * 8) ≤ 140737488355328)) then
        F (((IntKind.wrap .i64 (Int.tdiv (IntKind.wrap .i64 (x.1.1 + (x.2.1.getD (x.1.2.1).toNat 0))) 2)), ((IntKind.wrap .i64 (x.1.2.1 + 1)), ())), (x.2.1, (x.2.2.1, ((x.2.2.2.1 ++ ([(Int.tmod (IntKind.wrap .i64 (x.1.1 + (x.2.1.getD (x.1.2.1).toNat 0))) 2)] : List Int)), ()))))
      else none
    else none
  else bif (decide (x.1.2.1 < (((x.2.2.1).length : Nat) : Int))) then
    bif ((decide ((0 : Int) ≤ x.1.2.1)) && (decide (x.1.2.1 < (((x.2.2.1).length : Nat) : Int)))) then
      bif (decide ((((x.2.2.2.1).length + (([(Int.tmod (IntKind.wrap .i64 (x.1.1 + (x.2.2.1.getD (x.1.2.1).toNat 0))) 2)] : List Int)).length) * 8) ≤ 140737488355328)) then
        F (((IntKind.wrap .i64 (Int.tdiv (IntKind.wrap .i64 (x.1.1 + (x.2.2.1.getD (x.1.2.1).toNat 0))) 2)), ((IntKind.wrap .i64 (x.1.2.1 + 1)), ())), (x.2.1, (x.2.2.1, ((x.2.2.2.1 ++ ([(Int.tmod (IntKind.wrap .i64 (x.1.1 + (x.2.2.1.getD (x.1.2.1).toNat 0))) 2)] : List Int)), ()))))
      else none
    else none
  else bif (decide ((((x.2.2.2.1).length + (([(Int.tmod x.1.1 2)] : List Int)).length) * 8) ≤ 140737488355328)) then
    F (((IntKind.wrap .i64 (Int.tdiv x.1.1 2)), ((IntKind.wrap .i64 (x.1.2.1 + 1)), ())), (x.2.1, (x.2.2.1, ((x.2.2.2.1 ++ ([(Int.tmod x.1.1 2)] : List Int)), ()))))
  else none
def leatref02_Add (N : Nat) (a0 : (List Int)) (a1 : (List Int)) : Option (List Int) :=
  (iter (leatref02_Add_L4 N) N ((0, (0, ())), (a0, (a1, (([] : List Int), ()))))).bind fun r0 =>
  bif (decide ((((r0.2.1).length + (([r0.1.1] : List Int)).length) * 8) ≤ 140737488355328)) then
    some (r0.2.1 ++ ([r0.1.1] : List Int))
  else none
def leatref02_Mul_L3 (N : Nat) (F : ((Int × Unit) × ((List Int) × ((List Int) × ((List Int) × Unit)))) → Option (Unit × ((List Int) × Unit))) (x : ((Int × Unit) × ((List Int) × ((List Int) × ((List Int) × Unit))))) : Option (Unit × ((List Int) × Unit)) :=
  bif (decide (x.1.1 < (((x.2.2.1).length : Nat) : Int))) then
    bif ((decide ((0 : Int) ≤ x.1.1)) && (decide (x.1.1 < (((x.2.2.1).length : Nat) : Int)))) then
      bif ((x.2.2.1.getD (x.1.1).toNat 0) == 1) then
        bif ((decide ((0 : Int) ≤ x.1.1)) && (((decide (x.1.1 = x.1.1)) && (decide ((x.1.1 * 8) ≤ 140737488355328))) && (decide (x.1.1 ≤ 140737488355328)))) then
          bif (decide (((((List.replicate (x.1.1).toNat (0 : Int))).length + (x.2.1).length) * 8) ≤ 140737488355328)) then
            (leatref02_Add N x.2.2.2.1 ((List.replicate (x.1.1).toNat (0 : Int)) ++ x.2.1)).bind fun r0 =>
            F (((IntKind.wrap .i64 (x.1.1 + 1)), ()), (x.2.1, (x.2.2.1, (r0, ()))))
          else none
        else none
      else F (((IntKind.wrap .i64 (x.1.1 + 1)), ()), (x.2.1, (x.2.2.1, (x.2.2.2.1, ()))))
    else none
  else some ((), (x.2.2.2.1, ()))
def leatref02_Mul (N : Nat) (a0 : (List Int)) (a1 : (List Int)) : Option (List Int) :=
  (iter (leatref02_Mul_L3 N) N ((0, ()), (a0, (a1, (([0] : List Int), ()))))).bind fun r0 =>
  some r0.2.1
def leatref02_Cmp_L2 (_N : Nat) (F : ((Int × Unit) × ((List Int) × ((List Int) × Unit))) → Option (((Int × Unit) × Unit) ⊕ (Unit × Unit))) (x : ((Int × Unit) × ((List Int) × ((List Int) × Unit)))) : Option (((Int × Unit) × Unit) ⊕ (Unit × Unit)) :=
  bif (decide ((0 : Int) ≤ x.1.1)) then
    bif (decide (x.1.1 < (((x.2.1).length : Nat) : Int))) then
      bif ((decide ((0 : Int) ≤ x.1.1)) && (decide (x.1.1 < (((x.2.1).length : Nat) : Int)))) then
        bif (decide (x.1.1 < (((x.2.2.1).length : Nat) : Int))) then
          bif ((decide ((0 : Int) ≤ x.1.1)) && (decide (x.1.1 < (((x.2.2.1).length : Nat) : Int)))) then
            bif (decide ((x.2.1.getD (x.1.1).toNat 0) < (x.2.2.1.getD (x.1.1).toNat 0))) then
              some (.inl (((-1), ()), ()))
            else bif (decide ((x.2.2.1.getD (x.1.1).toNat 0) < (x.2.1.getD (x.1.1).toNat 0))) then
              some (.inl ((1, ()), ()))
            else F (((IntKind.wrap .i64 (x.1.1 - 1)), ()), (x.2.1, (x.2.2.1, ())))
          else none
        else bif (decide ((x.2.1.getD (x.1.1).toNat 0) < 0)) then
          some (.inl (((-1), ()), ()))
        else bif (decide ((0 : Int) < (x.2.1.getD (x.1.1).toNat 0))) then
          some (.inl ((1, ()), ()))
        else F (((IntKind.wrap .i64 (x.1.1 - 1)), ()), (x.2.1, (x.2.2.1, ())))
      else none
    else bif (decide (x.1.1 < (((x.2.2.1).length : Nat) : Int))) then
      bif ((decide ((0 : Int) ≤ x.1.1)) && (decide (x.1.1 < (((x.2.2.1).length : Nat) : Int)))) then
        bif (decide ((0 : Int) < (x.2.2.1.getD (x.1.1).toNat 0))) then
          some (.inl (((-1), ()), ()))
        else bif (decide ((x.2.2.1.getD (x.1.1).toNat 0) < 0)) then
          some (.inl ((1, ()), ()))
        else F (((IntKind.wrap .i64 (x.1.1 - 1)), ()), (x.2.1, (x.2.2.1, ())))
      else none
    else F (((IntKind.wrap .i64 (x.1.1 - 1)), ()), (x.2.1, (x.2.2.1, ())))
  else some (.inr ((), ()))
def leatref02_Cmp (N : Nat) (a0 : (List Int)) (a1 : (List Int)) : Option Int :=
  (iter (leatref02_Cmp_L2 N) N (((IntKind.wrap .i64 ((if (((a1).length : Nat) : Int) > (((a0).length : Nat) : Int) then (((a1).length : Nat) : Int) else (((a0).length : Nat) : Int)) - 1)), ()), (a0, (a1, ())))).bind fun r0 =>
  match r0 with
  | .inl r1 =>
    some r1.1.1
  | .inr _ =>
    some 0
def leatref02_Sub_L4 (_N : Nat) (F : ((Int × (Int × Unit)) × ((List Int) × ((List Int) × ((List Int) × Unit)))) → Option (Unit × ((List Int) × Unit))) (x : ((Int × (Int × Unit)) × ((List Int) × ((List Int) × ((List Int) × Unit))))) : Option (Unit × ((List Int) × Unit)) :=
  bif (decide (x.1.2.1 < (((x.2.1).length : Nat) : Int))) then
    bif ((decide ((0 : Int) ≤ x.1.2.1)) && (decide (x.1.2.1 < (((x.2.1).length : Nat) : Int)))) then
      bif (decide (x.1.2.1 < (((x.2.2.1).length : Nat) : Int))) then
        bif ((decide ((0 : Int) ≤ x.1.2.1)) && (decide (x.1.2.1 < (((x.2.2.1).length : Nat) : Int)))) then
          bif (decide ((IntKind.wrap .i64 ((IntKind.wrap .i64 ((x.2.1.getD (x.1.2.1).toNat 0) - x.1.1)) - (x.2.2.1.getD (x.1.2.1).toNat 0))) < 0)) then
            bif (decide ((((x.2.2.2.1).length + (([(IntKind.wrap .i64 ((IntKind.wrap .i64 ((IntKind.wrap .i64 ((x.2.1.getD (x.1.2.1).toNat 0) - x.1.1)) - (x.2.2.1.getD (x.1.2.1).toNat 0))) + 2))] : List Int)).length) * 8) ≤ 140737488355328)) then
              F ((1, ((IntKind.wrap .i64 (x.1.2.1 + 1)), ())), (x.2.1, (x.2.2.1, ((x.2.2.2.1 ++ ([(IntKind.wrap .i64 ((IntKind.wrap .i64 ((IntKind.wrap .i64 ((x.2.1.getD (x.1.2.1).toNat 0) - x.1.1)) - (x.2.2.1.getD (x.1.2.1).toNat 0))) + 2))] : List Int)), ()))))
            else none
          else bif (decide ((((x.2.2.2.1).length + (([(IntKind.wrap .i64 ((IntKind.wrap .i64 ((x.2.1.getD (x.1.2.1).toNat 0) - x.1.1)) - (x.2.2.1.getD (x.1.2.1).toNat 0)))] : List Int)).length) * 8) ≤ 140737488355328)) then
            F ((0, ((IntKind.wrap .i64 (x.1.2.1 + 1)), ())), (x.2.1, (x.2.2.1, ((x.2.2.2.1 ++ ([(IntKind.wrap .i64 ((IntKind.wrap .i64 ((x.2.1.getD (x.1.2.1).toNat 0) - x.1.1)) - (x.2.2.1.getD (x.1.2.1).toNat 0)))] : List Int)), ()))))
          else none
        else none
      else bif (decide ((IntKind.wrap .i64 ((x.2.1.getD (x.1.2.1).toNat 0) - x.1.1)) < 0)) then
        bif (decide ((((x.2.2.2.1).length + (([(IntKind.wrap .i64 ((IntKind.wrap .i64 ((x.2.1.getD (x.1.2.1).toNat 0) - x.1.1)) + 2))] : List Int)).length) * 8) ≤ 140737488355328)) then
          F ((1, ((IntKind.wrap .i64 (x.1.2.1 + 1)), ())), (x.2.1, (x.2.2.1, ((x.2.2.2.1 ++ ([(IntKind.wrap .i64 ((IntKind.wrap .i64 ((x.2.1.getD (x.1.2.1).toNat 0) - x.1.1)) + 2))] : List Int)), ()))))
        else none
      else bif (decide ((((x.2.2.2.1).length + (([(IntKind.wrap .i64 ((x.2.1.getD (x.1.2.1).toNat 0) - x.1.1))] : List Int)).length) * 8) ≤ 140737488355328)) then
        F ((0, ((IntKind.wrap .i64 (x.1.2.1 + 1)), ())), (x.2.1, (x.2.2.1, ((x.2.2.2.1 ++ ([(IntKind.wrap .i64 ((x.2.1.getD (x.1.2.1).toNat 0) - x.1.1))] : List Int)), ()))))
      else none
    else none
  else some ((), (x.2.2.2.1, ()))
def leatref02_Sub (N : Nat) (a0 : (List Int)) (a1 : (List Int)) : Option (List Int) :=
  (iter (leatref02_Sub_L4 N) N ((0, (0, ())), (a0, (a1, (([] : List Int), ()))))).bind fun r0 =>
  some r0.2.1
def leatref02_Div_L4 (N : Nat) (F : ((Int × Unit) × ((List Int) × ((List Int) × ((List Int) × ((List Int) × Unit))))) → Option (Unit × ((List Int) × ((List Int) × Unit)))) (x : ((Int × Unit) × ((List Int) × ((List Int) × ((List Int) × ((List Int) × Unit)))))) : Option (Unit × ((List Int) × ((List Int) × Unit))) :=
  bif (decide ((0 : Int) ≤ x.1.1)) then
    bif ((decide ((0 : Int) ≤ x.1.1)) && (decide (x.1.1 < (((x.2.1).length : Nat) : Int)))) then
      bif (decide ((((([(x.2.1.getD (x.1.1).toNat 0)] : List Int)).length + (x.2.2.2.2.1).length) * 8) ≤ 140737488355328)) then
        (leatref02_Cmp N (([(x.2.1.getD (x.1.1).toNat 0)] : List Int) ++ x.2.2.2.2.1) x.2.2.1).bind fun r0 =>
        bif (decide ((0 : Int) ≤ r0)) then
          (leatref02_Sub N (([(x.2.1.getD (x.1.1).toNat 0)] : List Int) ++ x.2.2.2.2.1) x.2.2.1).bind fun r1 =>
          bif ((decide ((0 : Int) ≤ x.1.1)) && (decide (x.1.1 < (((x.2.2.2.1).length : Nat) : Int)))) then
            F (((IntKind.wrap .i64 (x.1.1 - 1)), ()), (x.2.1, (x.2.2.1, ((x.2.2.2.1.set (x.1.1).toNat 1), (r1, ())))))
          else none
        else F (((IntKind.wrap .i64 (x.1.1 - 1)), ()), (x.2.1, (x.2.2.1, (x.2.2.2.1, ((([(x.2.1.getD (x.1.1).toNat 0)] : List Int) ++ x.2.2.2.2.1), ())))))
      else none
    else none
  else some ((), (x.2.2.2.1, (x.2.2.2.2.1, ())))
def leatref02_Div (N : Nat) (a0 : (List Int)) (a1 : (List Int)) : Option ((List Int) × (List Int)) :=
  bif ((decide ((0 : Int) ≤ (((a0).length : Nat) : Int))) && (((decide ((((a0).length : Nat) : Int) = (((a0).length : Nat) : Int))) && (decide (((((a0).length : Nat) : Int) * 8) ≤ 140737488355328))) && (decide ((((a0).length : Nat) : Int) ≤ 140737488355328)))) then
    (iter (leatref02_Div_L4 N) N (((IntKind.wrap .i64 ((((a0).length : Nat) : Int) - 1)), ()), (a0, (a1, ((List.replicate ((((a0).length : Nat) : Int)).toNat (0 : Int)), (([0] : List Int), ())))))).bind fun r0 =>
    some (r0.2.1, r0.2.2.1)
  else none
def leatref02_Num_L3 (_N : Nat) (F : ((Int × (Int × (Int × Unit))) × ((List Int) × Unit)) → Option ((Int × Unit) × Unit)) (x : ((Int × (Int × (Int × Unit))) × ((List Int) × Unit))) : Option ((Int × Unit) × Unit) :=
  bif (decide ((0 : Int) ≤ x.1.2.2.1)) then
    bif ((decide ((IntKind.wrap .i64 (x.1.1 + x.1.2.2.1)) < (((x.2.1).length : Nat) : Int))) == true) then
      bif ((decide ((0 : Int) ≤ (IntKind.wrap .i64 (x.1.1 + x.1.2.2.1)))) && (decide ((IntKind.wrap .i64 (x.1.1 + x.1.2.2.1)) < (((x.2.1).length : Nat) : Int)))) then
        bif ((x.2.1.getD ((IntKind.wrap .i64 (x.1.1 + x.1.2.2.1))).toNat 0) == 1) then
          F ((x.1.1, ((IntKind.wrap .u64 ((IntKind.wrap .u64 (x.1.2.1 * 2)) + 1)), ((IntKind.wrap .i64 (x.1.2.2.1 - 1)), ()))), (x.2.1, ()))
        else F ((x.1.1, ((IntKind.wrap .u64 (x.1.2.1 * 2)), ((IntKind.wrap .i64 (x.1.2.2.1 - 1)), ()))), (x.2.1, ()))
      else none
    else F ((x.1.1, ((IntKind.wrap .u64 (x.1.2.1 * 2)), ((IntKind.wrap .i64 (x.1.2.2.1 - 1)), ()))), (x.2.1, ()))
  else some ((x.1.2.1, ()), ())
def leatref02_Num (N : Nat) (a0 : (List Int)) (a1 : Int) : Option Int :=
  (iter (leatref02_Num_L3 N) N ((a1, (0, (63, ()))), (a0, ()))).bind fun r0 =>
  some r0.1.1
def leatref02_MulDiv (N : Nat) (a0 : Int) (a1 : Int) (a2 : Int) (a3 : Bool) : Option (Int × Int) :=
  bif ((decide (a0 < 0)) == false) then
    bif ((decide (a1 < 0)) == false) then
      bif (decide (a2 ≤ 0)) then
        some (0, 1)
      else (leatref02_Bits N (IntKind.wrap .u64 a0) 64).bind fun r0 =>
      (leatref02_Bits N (IntKind.wrap .u64 a1) 64).bind fun r1 =>
      (leatref02_Mul N r0 r1).bind fun r2 =>
      (leatref02_Bits N (IntKind.wrap .u64 a2) 64).bind fun r3 =>
      (leatref02_Div N r2 r3).bind fun r4 =>
      bif (a3 == true) then
        (leatref02_Cmp N r4.2 ([0] : List Int)).bind fun r5 =>
        bif (decide ((0 : Int) < r5)) then
          (leatref02_Add N r4.1 ([1] : List Int)).bind fun r6 =>
          (leatref02_Bits N 9223372036854775807 64).bind fun r7 =>
          (leatref02_Cmp N r6 r7).bind fun r8 =>
          bif (decide ((0 : Int) < r8)) then
            some (0, 8)
          else (leatref02_Num N r6 0).bind fun r9 =>
          some ((IntKind.wrap .i64 r9), 0)
        else (leatref02_Bits N 9223372036854775807 64).bind fun r10 =>
        (leatref02_Cmp N r4.1 r10).bind fun r11 =>
        bif (decide ((0 : Int) < r11)) then
          some (0, 8)
        else (leatref02_Num N r4.1 0).bind fun r12 =>
        some ((IntKind.wrap .i64 r12), 0)
      else (leatref02_Bits N 9223372036854775807 64).bind fun r13 =>
      (leatref02_Cmp N r4.1 r13).bind fun r14 =>
      bif (decide ((0 : Int) < r14)) then
        some (0, 8)
      else (leatref02_Num N r4.1 0).bind fun r15 =>
      some ((IntKind.wrap .i64 r15), 0)
    else some (0, 1)
  else some (0, 1)
def leatref04_quo (N : Nat) (a0 : Int) (a1 : Int) (a2 : Int) : Option Int :=
  bif ((decide (a0 < 4398046511104)) == true) then
    bif (decide (a1 ≤ 1048576)) then
      bif (!(decide (a2 = 0))) then
        some (IntKind.wrap .i64 (Int.tdiv (IntKind.wrap .i64 (a0 * a1)) a2))
      else none
    else (leatref02_MulDiv N a0 a1 a2 false).bind fun r0 =>
    some r0.1
  else (leatref02_MulDiv N a0 a1 a2 false).bind fun r1 =>
  some r1.1
def leatref04_Ratio (N : Nat) (a0 : Int) (a1 : Int) : Option Int :=
  bif (decide (a0 ≤ 0)) then
    some 0
  else bif ((decide (a1 ≤ 0)) == false) then
    bif (decide (a1 ≤ a0)) then
      some 1048576
    else (leatref04_quo N a0 1048576 a1).bind fun r0 =>
    some r0
  else some 1048576
def leatref27_Round (N : Nat) (a0 : Int) (a1 : Bool) (a2 : Int) (a3 : Int) : Option Int :=
  bif (decide (a3 < 1)) then
    bif (!a1) then
      (leatref04_Toward N (if 2097152 < (if 0 > a0 then 0 else a0) then 2097152 else (if 0 > a0 then 0 else a0)) 0 6).bind fun r0 =>
      some r0
    else bif (decide (a2 ≤ 1)) then
      (leatref04_Toward N (if 2097152 < (if 0 > a0 then 0 else a0) then 2097152 else (if 0 > a0 then 0 else a0)) 0 3).bind fun r1 =>
      some r1
    else (leatref01_Sub N a2 1).bind fun r2 =>
    (leatref04_Ratio N r2 1).bind fun r3 =>
    some (if 2097152 < (IntKind.wrap .i64 ((if 2097152 < (if 0 > a0 then 0 else a0) then 2097152 else (if 0 > a0 then 0 else a0)) + (IntKind.wrap .i64 (Int.tdiv r3 4)))) then 2097152 else (IntKind.wrap .i64 ((if 2097152 < (if 0 > a0 then 0 else a0) then 2097152 else (if 0 > a0 then 0 else a0)) + (IntKind.wrap .i64 (Int.tdiv r3 4)))))
  else bif (!a1) then
    (leatref04_Toward N (if 2097152 < (if 0 > a0 then 0 else a0) then 2097152 else (if 0 > a0 then 0 else a0)) 0 6).bind fun r4 =>
    some r4
  else bif (decide (a2 ≤ a3)) then
    (leatref04_Toward N (if 2097152 < (if 0 > a0 then 0 else a0) then 2097152 else (if 0 > a0 then 0 else a0)) 0 3).bind fun r5 =>
    some r5
  else (leatref01_Sub N a2 a3).bind fun r6 =>
  (leatref04_Ratio N r6 a3).bind fun r7 =>
  some (if 2097152 < (IntKind.wrap .i64 ((if 2097152 < (if 0 > a0 then 0 else a0) then 2097152 else (if 0 > a0 then 0 else a0)) + (IntKind.wrap .i64 (Int.tdiv r7 4)))) then 2097152 else (IntKind.wrap .i64 ((if 2097152 < (if 0 > a0 then 0 else a0) then 2097152 else (if 0 > a0 then 0 else a0)) + (IntKind.wrap .i64 (Int.tdiv r7 4)))))
def classic_Old (_N : Nat) (a0 : Int) : Option Bool :=
  some (decide ((1048576 : Int) ≤ a0))
def leatlaw27_works (N : Nat) : Option Bool :=
  (classic_Round N 0 true 10000 5000).bind fun r0 =>
  bif ((r0 == 262144) == true) then
    (classic_Old N 1048576).bind fun r1 =>
    some r1
  else some false
def leatlaw27_ClassicRounds (N : Nat) (a0 : Int) (a1 : Bool) (a2 : (Int × Int)) : Option Bool :=
  (classic_Round N a0 a1 a2.1 a2.2).bind fun r0 =>
  (leatref27_Round N a0 a1 a2.1 a2.2).bind fun r1 =>
  bif (((r0 == r1) && true) == true) then
    (classic_Old N a0).bind fun r2 =>
    bif ((r2 == (decide ((1048576 : Int) ≤ a0))) == true) then
      (leatlaw27_works N).bind fun r3 =>
      some r3
    else some false
  else some false
def leatlaw27_ClassicWaits_L4 (N : Nat) (F : ((Int × (Int × (Int × (Int × Unit)))) × ((Int × Unit) × ((List (Bool × Int)) × Unit))) → Option ((Unit × Unit) ⊕ ((Bool × Unit) × Unit))) (x : ((Int × (Int × (Int × (Int × Unit)))) × ((Int × Unit) × ((List (Bool × Int)) × Unit)))) : Option ((Unit × Unit) ⊕ ((Bool × Unit) × Unit)) :=
  bif (decide (x.1.2.2.2.1 < x.1.2.2.1)) then
    bif ((decide ((0 : Int) ≤ x.1.2.2.2.1)) && (decide (x.1.2.2.2.1 < (((x.2.2.1).length : Nat) : Int)))) then
      bif (decide ((60 : Int) ≤ x.1.2.2.2.1)) then
        some (.inl ((), ()))
      else bif ((x.2.2.1.getD (x.1.2.2.2.1).toNat (false, 0)).1 == true) then
        bif (decide ((if 1 > x.1.1 then 1 else x.1.1) < (x.2.2.1.getD (x.1.2.2.2.1).toNat (false, 0)).2)) then
          (classic_Round N x.2.1.1 (x.2.2.1.getD (x.1.2.2.2.1).toNat (false, 0)).1 (x.2.2.1.getD (x.1.2.2.2.1).toNat (false, 0)).2 x.1.1).bind fun r0 =>
          bif ((decide (r0 < 0)) == false) then
            bif ((decide ((2097152 : Int) < r0)) == false) then
              bif ((!(decide ((if 1 > x.1.1 then 1 else x.1.1) < (x.2.2.1.getD (x.1.2.2.2.1).toNat (false, 0)).2))) == true) then
                bif ((decide (x.2.1.1 < r0)) == false) then
                  bif ((decide ((if 1 > x.1.1 then 1 else x.1.1) < (x.2.2.1.getD (x.1.2.2.2.1).toNat (false, 0)).2)) == true) then
                    bif ((decide (r0 < x.2.1.1)) == false) then
                      (classic_Old N r0).bind fun r1 =>
                      bif (r1 == true) then
                        bif (decide ((IntKind.wrap .i64 (x.1.2.1 + 1)) < 4)) then
                          some (.inr ((false, ()), ()))
                        else F ((x.1.1, ((IntKind.wrap .i64 (x.1.2.1 + 1)), (x.1.2.2.1, ((IntKind.wrap .i64 (x.1.2.2.2.1 + 1)), ())))), ((r0, ()), (x.2.2.1, ())))
                      else F ((x.1.1, ((IntKind.wrap .i64 (x.1.2.1 + 1)), (x.1.2.2.1, ((IntKind.wrap .i64 (x.1.2.2.2.1 + 1)), ())))), ((r0, ()), (x.2.2.1, ())))
                    else some (.inr ((false, ()), ()))
                  else (classic_Old N r0).bind fun r2 =>
                  bif (r2 == true) then
                    bif (decide ((IntKind.wrap .i64 (x.1.2.1 + 1)) < 4)) then
                      some (.inr ((false, ()), ()))
                    else F ((x.1.1, ((IntKind.wrap .i64 (x.1.2.1 + 1)), (x.1.2.2.1, ((IntKind.wrap .i64 (x.1.2.2.2.1 + 1)), ())))), ((r0, ()), (x.2.2.1, ())))
                  else F ((x.1.1, ((IntKind.wrap .i64 (x.1.2.1 + 1)), (x.1.2.2.1, ((IntKind.wrap .i64 (x.1.2.2.2.1 + 1)), ())))), ((r0, ()), (x.2.2.1, ())))
                else some (.inr ((false, ()), ()))
              else bif ((decide ((if 1 > x.1.1 then 1 else x.1.1) < (x.2.2.1.getD (x.1.2.2.2.1).toNat (false, 0)).2)) == true) then
                bif ((decide (r0 < x.2.1.1)) == false) then
                  (classic_Old N r0).bind fun r3 =>
                  bif (r3 == true) then
                    bif (decide ((IntKind.wrap .i64 (x.1.2.1 + 1)) < 4)) then
                      some (.inr ((false, ()), ()))
                    else F ((x.1.1, ((IntKind.wrap .i64 (x.1.2.1 + 1)), (x.1.2.2.1, ((IntKind.wrap .i64 (x.1.2.2.2.1 + 1)), ())))), ((r0, ()), (x.2.2.1, ())))
                  else F ((x.1.1, ((IntKind.wrap .i64 (x.1.2.1 + 1)), (x.1.2.2.1, ((IntKind.wrap .i64 (x.1.2.2.2.1 + 1)), ())))), ((r0, ()), (x.2.2.1, ())))
                else some (.inr ((false, ()), ()))
              else (classic_Old N r0).bind fun r4 =>
              bif (r4 == true) then
                bif (decide ((IntKind.wrap .i64 (x.1.2.1 + 1)) < 4)) then
                  some (.inr ((false, ()), ()))
                else F ((x.1.1, ((IntKind.wrap .i64 (x.1.2.1 + 1)), (x.1.2.2.1, ((IntKind.wrap .i64 (x.1.2.2.2.1 + 1)), ())))), ((r0, ()), (x.2.2.1, ())))
              else F ((x.1.1, ((IntKind.wrap .i64 (x.1.2.1 + 1)), (x.1.2.2.1, ((IntKind.wrap .i64 (x.1.2.2.2.1 + 1)), ())))), ((r0, ()), (x.2.2.1, ())))
            else some (.inr ((false, ()), ()))
          else some (.inr ((false, ()), ()))
        else (classic_Round N x.2.1.1 (x.2.2.1.getD (x.1.2.2.2.1).toNat (false, 0)).1 (x.2.2.1.getD (x.1.2.2.2.1).toNat (false, 0)).2 x.1.1).bind fun r5 =>
        bif ((decide (r5 < 0)) == false) then
          bif ((decide ((2097152 : Int) < r5)) == false) then
            bif ((!(decide ((if 1 > x.1.1 then 1 else x.1.1) < (x.2.2.1.getD (x.1.2.2.2.1).toNat (false, 0)).2))) == true) then
              bif ((decide (x.2.1.1 < r5)) == false) then
                bif ((decide ((if 1 > x.1.1 then 1 else x.1.1) < (x.2.2.1.getD (x.1.2.2.2.1).toNat (false, 0)).2)) == true) then
                  bif ((decide (r5 < x.2.1.1)) == false) then
                    (classic_Old N r5).bind fun r6 =>
                    bif (r6 == true) then
                      bif (decide (x.1.2.1 < 4)) then
                        some (.inr ((false, ()), ()))
                      else F ((x.1.1, (x.1.2.1, (x.1.2.2.1, ((IntKind.wrap .i64 (x.1.2.2.2.1 + 1)), ())))), ((r5, ()), (x.2.2.1, ())))
                    else F ((x.1.1, (x.1.2.1, (x.1.2.2.1, ((IntKind.wrap .i64 (x.1.2.2.2.1 + 1)), ())))), ((r5, ()), (x.2.2.1, ())))
                  else some (.inr ((false, ()), ()))
                else (classic_Old N r5).bind fun r7 =>
                bif (r7 == true) then
                  bif (decide (x.1.2.1 < 4)) then
                    some (.inr ((false, ()), ()))
                  else F ((x.1.1, (x.1.2.1, (x.1.2.2.1, ((IntKind.wrap .i64 (x.1.2.2.2.1 + 1)), ())))), ((r5, ()), (x.2.2.1, ())))
                else F ((x.1.1, (x.1.2.1, (x.1.2.2.1, ((IntKind.wrap .i64 (x.1.2.2.2.1 + 1)), ())))), ((r5, ()), (x.2.2.1, ())))
              else some (.inr ((false, ()), ()))
            else bif ((decide ((if 1 > x.1.1 then 1 else x.1.1) < (x.2.2.1.getD (x.1.2.2.2.1).toNat (false, 0)).2)) == true) then
              bif ((decide (r5 < x.2.1.1)) == false) then
                (classic_Old N r5).bind fun r8 =>
                bif (r8 == true) then
                  bif (decide (x.1.2.1 < 4)) then
                    some (.inr ((false, ()), ()))
                  else F ((x.1.1, (x.1.2.1, (x.1.2.2.1, ((IntKind.wrap .i64 (x.1.2.2.2.1 + 1)), ())))), ((r5, ()), (x.2.2.1, ())))
                else F ((x.1.1, (x.1.2.1, (x.1.2.2.1, ((IntKind.wrap .i64 (x.1.2.2.2.1 + 1)), ())))), ((r5, ()), (x.2.2.1, ())))
              else some (.inr ((false, ()), ()))
            else (classic_Old N r5).bind fun r9 =>
            bif (r9 == true) then
              bif (decide (x.1.2.1 < 4)) then
                some (.inr ((false, ()), ()))
              else F ((x.1.1, (x.1.2.1, (x.1.2.2.1, ((IntKind.wrap .i64 (x.1.2.2.2.1 + 1)), ())))), ((r5, ()), (x.2.2.1, ())))
            else F ((x.1.1, (x.1.2.1, (x.1.2.2.1, ((IntKind.wrap .i64 (x.1.2.2.2.1 + 1)), ())))), ((r5, ()), (x.2.2.1, ())))
          else some (.inr ((false, ()), ()))
        else some (.inr ((false, ()), ()))
      else (classic_Round N x.2.1.1 (x.2.2.1.getD (x.1.2.2.2.1).toNat (false, 0)).1 (x.2.2.1.getD (x.1.2.2.2.1).toNat (false, 0)).2 x.1.1).bind fun r10 =>
      bif ((decide (r10 < 0)) == false) then
        bif ((decide ((2097152 : Int) < r10)) == false) then
          bif ((decide (x.2.1.1 < r10)) == false) then
            (classic_Old N r10).bind fun r11 =>
            bif (r11 == true) then
              bif (decide (x.1.2.1 < 4)) then
                some (.inr ((false, ()), ()))
              else F ((x.1.1, (x.1.2.1, (x.1.2.2.1, ((IntKind.wrap .i64 (x.1.2.2.2.1 + 1)), ())))), ((r10, ()), (x.2.2.1, ())))
            else F ((x.1.1, (x.1.2.1, (x.1.2.2.1, ((IntKind.wrap .i64 (x.1.2.2.2.1 + 1)), ())))), ((r10, ()), (x.2.2.1, ())))
          else some (.inr ((false, ()), ()))
        else some (.inr ((false, ()), ()))
      else some (.inr ((false, ()), ()))
    else none
  else some (.inl ((), ()))
def leatlaw27_ClassicWaits (N : Nat) (a0 : (List (Bool × Int))) (a1 : Int) : Option Bool :=
  (iter (leatlaw27_ClassicWaits_L4 N) N ((a1, (0, ((((a0).length : Nat) : Int), (0, ())))), ((0, ()), (a0, ())))).bind fun r0 =>
  match r0 with
  | .inl _ =>
    (leatlaw27_works N).bind fun r3 =>
    some r3
  | .inr r2 =>
    some r2.1.1
end Go.Proofs.Ytfiiifogplhppaa.W
