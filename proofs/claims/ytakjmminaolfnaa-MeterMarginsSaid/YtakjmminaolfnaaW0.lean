/- The functions of the seat, as the evaluator tells them: the texts alone. Printed by genW.py. -/
import Derived.Test.YtakjmminaolfnaaEvT
namespace Go.Proofs.Ytakjmminaolfnaa.W
open Go.Ev Go.RowKit
def meter_Waits_L3_j1 (_N : Nat) (F : ((Int × (Int × (Int × (Int × (Int × (Int × Unit)))))) × ((List (Int × (Int × (Int × (Int × (Int × Int)))))) × Unit)) → Option ((Int × (Int × Unit)) × Unit)) (x : ((Int × (Int × (Int × (Int × (Int × (Int × Unit)))))) × ((List (Int × (Int × (Int × (Int × (Int × Int)))))) × Unit))) : Option ((Int × (Int × Unit)) × Unit) :=
  bif (decide (x.1.2.1 ≤ (x.2.1.getD (x.1.2.2.2.2.2.1 : Int).toNat (0, (0, (0, (0, (0, 0)))))).1)) then
    bif ((x.1.2.2.2.1 == 0) == false) then
      bif (decide (x.1.2.2.1 < (x.2.1.getD (x.1.2.2.2.2.2.1 : Int).toNat (0, (0, (0, (0, (0, 0)))))).2.2.2.2.2)) then
        F ((x.1.1, (x.1.2.1, ((x.2.1.getD (x.1.2.2.2.2.2.1 : Int).toNat (0, (0, (0, (0, (0, 0)))))).2.2.2.2.2, ((IntKind.wrap .i64 (x.1.2.2.2.1 + 1)), (x.1.2.2.2.2.1, ((IntKind.wrap .i64 (x.1.2.2.2.2.2.1 + 1)), ())))))), (x.2.1, ()))
      else
        F ((x.1.1, (x.1.2.1, (x.1.2.2.1, ((IntKind.wrap .i64 (x.1.2.2.2.1 + 1)), (x.1.2.2.2.2.1, ((IntKind.wrap .i64 (x.1.2.2.2.2.2.1 + 1)), ())))))), (x.2.1, ()))
    else
      F ((x.1.1, (x.1.2.1, ((x.2.1.getD (x.1.2.2.2.2.2.1 : Int).toNat (0, (0, (0, (0, (0, 0)))))).2.2.2.2.2, ((IntKind.wrap .i64 (x.1.2.2.2.1 + 1)), (x.1.2.2.2.2.1, ((IntKind.wrap .i64 (x.1.2.2.2.2.2.1 + 1)), ())))))), (x.2.1, ()))
  else
    F ((x.1.1, (x.1.2.1, (x.1.2.2.1, (x.1.2.2.2.1, (x.1.2.2.2.2.1, ((IntKind.wrap .i64 (x.1.2.2.2.2.2.1 + 1)), ())))))), (x.2.1, ()))
def meter_Waits_L3 (N : Nat) (F : ((Int × (Int × (Int × (Int × (Int × (Int × Unit)))))) × ((List (Int × (Int × (Int × (Int × (Int × Int)))))) × Unit)) → Option ((Int × (Int × Unit)) × Unit)) (x : ((Int × (Int × (Int × (Int × (Int × (Int × Unit)))))) × ((List (Int × (Int × (Int × (Int × (Int × Int)))))) × Unit))) : Option ((Int × (Int × Unit)) × Unit) :=
  bif (decide (x.1.2.2.2.2.2.1 < x.1.2.2.2.2.1)) then
    bif ((decide ((0 : Int) ≤ x.1.2.2.2.2.2.1)) && (decide (x.1.2.2.2.2.2.1 < (((x.2.1).length : Nat) : Int)))) then
      bif (((x.2.1.getD (x.1.2.2.2.2.2.1 : Int).toNat (0, (0, (0, (0, (0, 0)))))).2.1 == 3) == true) then
        bif ((decide (x.1.1 < 0)) == false) then
          bif (((x.2.1.getD (x.1.2.2.2.2.2.1 : Int).toNat (0, (0, (0, (0, (0, 0)))))).2.2.2.2.1 == x.1.1) == true) then
            meter_Waits_L3_j1 N F x
          else
            F ((x.1.1, (x.1.2.1, (x.1.2.2.1, (x.1.2.2.2.1, (x.1.2.2.2.2.1, ((IntKind.wrap .i64 (x.1.2.2.2.2.2.1 + 1)), ())))))), (x.2.1, ()))
        else
          meter_Waits_L3_j1 N F x
      else
        F ((x.1.1, (x.1.2.1, (x.1.2.2.1, (x.1.2.2.2.1, (x.1.2.2.2.2.1, ((IntKind.wrap .i64 (x.1.2.2.2.2.2.1 + 1)), ())))))), (x.2.1, ()))
    else
      none
  else
    some ((x.1.2.2.1, (x.1.2.2.2.1, ())), ())

def meter_Waits (N : Nat) (a0 : (List (Int × (Int × (Int × (Int × (Int × Int))))))) (a1 : Int) (a2 : Int) : Option (Int × Int) :=
  (iter (meter_Waits_L3 N) N ((a1, (a2, (0, (0, ((((a0).length : Nat) : Int), (0, ())))))), (a0, ()))).bind fun r0 =>
  some (r0.1.1, r0.1.2.1)
def leatref44_Waits_L3_j1 (_N : Nat) (F : ((Int × (Int × (Int × (Int × (Int × Unit))))) × ((List (Int × (Int × (Int × (Int × (Int × Int)))))) × Unit)) → Option ((Int × (Int × Unit)) × Unit)) (x : ((Int × (Int × (Int × (Int × (Int × Unit))))) × ((List (Int × (Int × (Int × (Int × (Int × Int)))))) × Unit))) : Option ((Int × (Int × Unit)) × Unit) :=
  bif ((decide ((0 : Int) ≤ x.1.2.2.2.2.1)) && (decide (x.1.2.2.2.2.1 < (((x.2.1).length : Nat) : Int)))) then
    F ((x.1.1, (x.1.2.1, ((imx x.1.2.2.1 (x.2.1.getD (x.1.2.2.2.2.1 : Int).toNat (0, (0, (0, (0, (0, 0)))))).2.2.2.2.2), ((IntKind.wrap .i64 (x.1.2.2.2.1 + 1)), ((IntKind.wrap .i64 (x.1.2.2.2.2.1 + 1)), ()))))), (x.2.1, ()))
  else
    none
def leatref44_Waits_L3 (N : Nat) (F : ((Int × (Int × (Int × (Int × (Int × Unit))))) × ((List (Int × (Int × (Int × (Int × (Int × Int)))))) × Unit)) → Option ((Int × (Int × Unit)) × Unit)) (x : ((Int × (Int × (Int × (Int × (Int × Unit))))) × ((List (Int × (Int × (Int × (Int × (Int × Int)))))) × Unit))) : Option ((Int × (Int × Unit)) × Unit) :=
  bif (decide (x.1.2.2.2.2.1 < (((x.2.1).length : Nat) : Int))) then
    bif ((decide ((0 : Int) ≤ x.1.2.2.2.2.1)) && (decide (x.1.2.2.2.2.1 < (((x.2.1).length : Nat) : Int)))) then
      bif (((x.2.1.getD (x.1.2.2.2.2.1 : Int).toNat (0, (0, (0, (0, (0, 0)))))).2.1 == 3) == true) then
        bif ((decide ((0 : Int) ≤ x.1.2.2.2.2.1)) && (decide (x.1.2.2.2.2.1 < (((x.2.1).length : Nat) : Int)))) then
          bif ((decide (x.1.2.1 ≤ (x.2.1.getD (x.1.2.2.2.2.1 : Int).toNat (0, (0, (0, (0, (0, 0)))))).1)) == true) then
            bif ((decide (x.1.1 < 0)) == false) then
              bif ((decide ((0 : Int) ≤ x.1.2.2.2.2.1)) && (decide (x.1.2.2.2.2.1 < (((x.2.1).length : Nat) : Int)))) then
                bif ((x.2.1.getD (x.1.2.2.2.2.1 : Int).toNat (0, (0, (0, (0, (0, 0)))))).2.2.2.2.1 == x.1.1) then
                  leatref44_Waits_L3_j1 N F x
                else
                  F ((x.1.1, (x.1.2.1, (x.1.2.2.1, (x.1.2.2.2.1, ((IntKind.wrap .i64 (x.1.2.2.2.2.1 + 1)), ()))))), (x.2.1, ()))
              else
                none
            else
              leatref44_Waits_L3_j1 N F x
          else
            F ((x.1.1, (x.1.2.1, (x.1.2.2.1, (x.1.2.2.2.1, ((IntKind.wrap .i64 (x.1.2.2.2.2.1 + 1)), ()))))), (x.2.1, ()))
        else
          none
      else
        F ((x.1.1, (x.1.2.1, (x.1.2.2.1, (x.1.2.2.2.1, ((IntKind.wrap .i64 (x.1.2.2.2.2.1 + 1)), ()))))), (x.2.1, ()))
    else
      none
  else
    some ((x.1.2.2.1, (x.1.2.2.2.1, ())), ())

def leatref44_Waits (N : Nat) (a0 : (List (Int × (Int × (Int × (Int × (Int × Int))))))) (a1 : Int) (a2 : Int) : Option (Int × Int) :=
  (iter (leatref44_Waits_L3 N) N ((a1, (a2, ((-9223372036854775808), (0, (0, ()))))), (a0, ()))).bind fun r0 =>
  bif (r0.1.2.1 == 0) then
    some (0, 0)
  else
    some (r0.1.1, r0.1.2.1)
def sat_Clamp (_N : Nat) (a0 : Int) (a1 : Int) (a2 : Int) : Option Int :=
  some (if (if a2 < a0 then a2 else a0) > a1 then (if a2 < a0 then a2 else a0) else a1)

def meter_size (N : Nat) (a0 : (List Int)) (a1 : Int) : Option Int :=
  bif ((decide ((0 : Int) ≤ a1)) && (decide (a1 < (((a0).length : Nat) : Int)))) then
    (sat_Clamp N (a0.getD (a1 : Int).toNat 0) 1 65536).bind fun r0 =>
    some r0
  else
    none
def meter_Margin_R5_j4 (_N : Nat) (F : (Unit × (Unit × ((Int × Unit) × ((Int × Unit) × ((Int × Unit) × (Unit × (Unit × ((Int × Unit) × ((List Int) × ((List Bool) × ((List (Int × (Int × (Int × (Int × (Int × Int)))))) × Unit))))))))))) → Option (Unit × (Unit × ((Int × Unit) × ((Int × Unit) × ((Int × Unit) × (Unit × (Unit × ((Int × Unit) × ((List Int) × ((List Bool) × ((List (Int × (Int × (Int × (Int × (Int × Int)))))) × Unit)))))))))))) (p300 : Int) (p301 : Int) (x : (Unit × (Unit × ((Int × Unit) × ((Int × Unit) × ((Int × Unit) × (Unit × (Unit × ((Int × Unit) × ((List Int) × ((List Bool) × ((List (Int × (Int × (Int × (Int × (Int × Int)))))) × Unit)))))))))))) (p400 : Int) : Option (Unit × (Unit × ((Int × Unit) × ((Int × Unit) × ((Int × Unit) × (Unit × (Unit × ((Int × Unit) × ((List Int) × ((List Bool) × ((List (Int × (Int × (Int × (Int × (Int × Int)))))) × Unit))))))))))) :=
  bif (decide (p400 ≤ 0)) then
    F ((), ((), ((p400, ()), ((0, ()), ((p300, ()), ((), ((), ((x.2.2.2.2.2.2.2.1.1, ()), (x.2.2.2.2.2.2.2.2.1, (x.2.2.2.2.2.2.2.2.2.1, (x.2.2.2.2.2.2.2.2.2.2.1, ())))))))))))
  else
    F ((), ((), ((p400, ()), ((p301, ()), ((p300, ()), ((), ((), ((x.2.2.2.2.2.2.2.1.1, ()), (x.2.2.2.2.2.2.2.2.1, (x.2.2.2.2.2.2.2.2.2.1, (x.2.2.2.2.2.2.2.2.2.2.1, ())))))))))))
def meter_Margin_R5_j3 (N : Nat) (F : (Unit × (Unit × ((Int × Unit) × ((Int × Unit) × ((Int × Unit) × (Unit × (Unit × ((Int × Unit) × ((List Int) × ((List Bool) × ((List (Int × (Int × (Int × (Int × (Int × Int)))))) × Unit))))))))))) → Option (Unit × (Unit × ((Int × Unit) × ((Int × Unit) × ((Int × Unit) × (Unit × (Unit × ((Int × Unit) × ((List Int) × ((List Bool) × ((List (Int × (Int × (Int × (Int × (Int × Int)))))) × Unit)))))))))))) (p100 : Bool) (x : (Unit × (Unit × ((Int × Unit) × ((Int × Unit) × ((Int × Unit) × (Unit × (Unit × ((Int × Unit) × ((List Int) × ((List Bool) × ((List (Int × (Int × (Int × (Int × (Int × Int)))))) × Unit)))))))))))) (p300 : Int) (p301 : Int) : Option (Unit × (Unit × ((Int × Unit) × ((Int × Unit) × ((Int × Unit) × (Unit × (Unit × ((Int × Unit) × ((List Int) × ((List Bool) × ((List (Int × (Int × (Int × (Int × (Int × Int)))))) × Unit))))))))))) :=
  bif (! p100) then
    meter_Margin_R5_j4 N F p300 p301 x (IntKind.wrap .i64 (x.2.2.1.1 - 1))
  else
    meter_Margin_R5_j4 N F p300 p301 x x.2.2.1.1
def meter_Margin_R5_j2 (N : Nat) (F : (Unit × (Unit × ((Int × Unit) × ((Int × Unit) × ((Int × Unit) × (Unit × (Unit × ((Int × Unit) × ((List Int) × ((List Bool) × ((List (Int × (Int × (Int × (Int × (Int × Int)))))) × Unit))))))))))) → Option (Unit × (Unit × ((Int × Unit) × ((Int × Unit) × ((Int × Unit) × (Unit × (Unit × ((Int × Unit) × ((List Int) × ((List Bool) × ((List (Int × (Int × (Int × (Int × (Int × Int)))))) × Unit)))))))))))) (p100 : Bool) (x : (Unit × (Unit × ((Int × Unit) × ((Int × Unit) × ((Int × Unit) × (Unit × (Unit × ((Int × Unit) × ((List Int) × ((List Bool) × ((List (Int × (Int × (Int × (Int × (Int × Int)))))) × Unit)))))))))))) (y : (Int × (Int × (Int × (Int × (Int × Int)))))) : Option (Unit × (Unit × ((Int × Unit) × ((Int × Unit) × ((Int × Unit) × (Unit × (Unit × ((Int × Unit) × ((List Int) × ((List Bool) × ((List (Int × (Int × (Int × (Int × (Int × Int)))))) × Unit))))))))))) :=
  bif ((y.2.1 == 3) == true) then
    bif (decide ((0 : Int) < x.2.2.1.1)) then
      (meter_size N x.2.2.2.2.2.2.2.2.1 y.2.2.1).bind fun r200 =>
      bif p100 then
        (meter_size N x.2.2.2.2.2.2.2.2.1 y.2.2.1).bind fun r201 =>
        meter_Margin_R5_j3 N F p100 x (imn x.2.2.2.2.1.1 (IntKind.wrap .i64 ((imn x.2.2.2.1.1 0) + (IntKind.wrap .i64 (0 - r201))))) (IntKind.wrap .i64 ((imn x.2.2.2.1.1 0) + (IntKind.wrap .i64 (0 - r201))))
      else
        meter_Margin_R5_j3 N F p100 x (imn x.2.2.2.2.1.1 (IntKind.wrap .i64 ((imn x.2.2.2.1.1 0) + (IntKind.wrap .i64 (15 * r200))))) (IntKind.wrap .i64 ((imn x.2.2.2.1.1 0) + (IntKind.wrap .i64 (15 * r200))))
    else
      meter_Margin_R5_j3 N F p100 x x.2.2.2.2.1.1 x.2.2.2.1.1
  else
    meter_Margin_R5_j3 N F p100 x x.2.2.2.2.1.1 x.2.2.2.1.1
def meter_Margin_R5_j1 (N : Nat) (F : (Unit × (Unit × ((Int × Unit) × ((Int × Unit) × ((Int × Unit) × (Unit × (Unit × ((Int × Unit) × ((List Int) × ((List Bool) × ((List (Int × (Int × (Int × (Int × (Int × Int)))))) × Unit))))))))))) → Option (Unit × (Unit × ((Int × Unit) × ((Int × Unit) × ((Int × Unit) × (Unit × (Unit × ((Int × Unit) × ((List Int) × ((List Bool) × ((List (Int × (Int × (Int × (Int × (Int × Int)))))) × Unit)))))))))))) (x : (Unit × (Unit × ((Int × Unit) × ((Int × Unit) × ((Int × Unit) × (Unit × (Unit × ((Int × Unit) × ((List Int) × ((List Bool) × ((List (Int × (Int × (Int × (Int × (Int × Int)))))) × Unit)))))))))))) (y : (Int × (Int × (Int × (Int × (Int × Int)))))) (p100 : Bool) : Option (Unit × (Unit × ((Int × Unit) × ((Int × Unit) × ((Int × Unit) × (Unit × (Unit × ((Int × Unit) × ((List Int) × ((List Bool) × ((List (Int × (Int × (Int × (Int × (Int × Int)))))) × Unit))))))))))) :=
  bif (y.2.1 == 1) then
    bif ((decide ((0 : Int) ≤ y.2.2.1)) && (decide (y.2.2.1 < (((x.2.2.2.2.2.2.2.2.2.1).length : Nat) : Int)))) then
      bif ((bits .and .i64 y.2.2.2.2.1 1) == 0) then
        F ((), ((), (((IntKind.wrap .i64 (x.2.2.1.1 + 1)), ()), ((x.2.2.2.1.1, ()), ((x.2.2.2.2.1.1, ()), ((), ((), ((x.2.2.2.2.2.2.2.1.1, ()), (x.2.2.2.2.2.2.2.2.1, ((x.2.2.2.2.2.2.2.2.2.1.set (y.2.2.1 : Int).toNat ((bits .and .i64 y.2.2.2.2.1 1) == 1)), (x.2.2.2.2.2.2.2.2.2.2.1, ())))))))))))
      else
        F ((), ((), ((x.2.2.1.1, ()), ((x.2.2.2.1.1, ()), ((x.2.2.2.2.1.1, ()), ((), ((), ((x.2.2.2.2.2.2.2.1.1, ()), (x.2.2.2.2.2.2.2.2.1, ((x.2.2.2.2.2.2.2.2.2.1.set (y.2.2.1 : Int).toNat ((bits .and .i64 y.2.2.2.2.1 1) == 1)), (x.2.2.2.2.2.2.2.2.2.2.1, ())))))))))))
    else
      none
  else
    bif ((! (y.2.1 == 3)) == true) then
      bif ((! (y.2.1 == 2)) == false) then
        bif (y.2.2.2.2.2 == 1) then
          F ((), ((), ((x.2.2.1.1, ()), ((x.2.2.2.1.1, ()), ((x.2.2.2.2.1.1, ()), ((), ((), ((x.2.2.2.2.2.2.2.1.1, ()), (x.2.2.2.2.2.2.2.2.1, (x.2.2.2.2.2.2.2.2.2.1, (x.2.2.2.2.2.2.2.2.2.2.1, ())))))))))))
        else
          meter_Margin_R5_j2 N F p100 x y
      else
        F ((), ((), ((x.2.2.1.1, ()), ((x.2.2.2.1.1, ()), ((x.2.2.2.2.1.1, ()), ((), ((), ((x.2.2.2.2.2.2.2.1.1, ()), (x.2.2.2.2.2.2.2.2.1, (x.2.2.2.2.2.2.2.2.2.1, (x.2.2.2.2.2.2.2.2.2.2.1, ())))))))))))
    else
      meter_Margin_R5_j2 N F p100 x y
def meter_Margin_R5 (N : Nat) (y : (Int × (Int × (Int × (Int × (Int × Int)))))) (F : (Unit × (Unit × ((Int × Unit) × ((Int × Unit) × ((Int × Unit) × (Unit × (Unit × ((Int × Unit) × ((List Int) × ((List Bool) × ((List (Int × (Int × (Int × (Int × (Int × Int)))))) × Unit))))))))))) → Option (Unit × (Unit × ((Int × Unit) × ((Int × Unit) × ((Int × Unit) × (Unit × (Unit × ((Int × Unit) × ((List Int) × ((List Bool) × ((List (Int × (Int × (Int × (Int × (Int × Int)))))) × Unit)))))))))))) (x : (Unit × (Unit × ((Int × Unit) × ((Int × Unit) × ((Int × Unit) × (Unit × (Unit × ((Int × Unit) × ((List Int) × ((List Bool) × ((List (Int × (Int × (Int × (Int × (Int × Int)))))) × Unit)))))))))))) : Option (Unit × (Unit × ((Int × Unit) × ((Int × Unit) × ((Int × Unit) × (Unit × (Unit × ((Int × Unit) × ((List Int) × ((List Bool) × ((List (Int × (Int × (Int × (Int × (Int × Int)))))) × Unit))))))))))) :=
  bif (y.2.2.2.2.1 == 3) then
    bif ((decide ((0 : Int) ≤ y.2.2.1)) && (decide (y.2.2.1 < (((x.2.2.2.2.2.2.2.2.2.1).length : Nat) : Int)))) then
      meter_Margin_R5_j1 N F x y (x.2.2.2.2.2.2.2.2.2.1.getD (y.2.2.1 : Int).toNat false)
    else
      none
  else
    meter_Margin_R5_j1 N F x y ((bits .and .i64 y.2.2.2.2.1 1) == 1)

def meter_Margin (N : Nat) (a0 : (List (Int × (Int × (Int × (Int × (Int × Int))))))) (a1 : (List Int)) : Option Int :=
  bif ((decide ((0 : Int) ≤ (((a1).length : Nat) : Int))) && (((decide ((((a1).length : Nat) : Int) = (((a1).length : Nat) : Int))) && (decide (((((a1).length : Nat) : Int) * 1) ≤ 140737488355328))) && (decide ((((a1).length : Nat) : Int) ≤ 140737488355328)))) then
    (bif (decide ((a0).length ≤ 1000000000)) then some (metOf a0 (((a1).length : Nat) : Int)) else none).bind fun r0 =>
    (itR (meter_Margin_R5 N) r0 ((), ((), ((0, ()), ((0, ()), ((0, ()), ((), ((), (((((a1).length : Nat) : Int), ()), (a1, ((List.replicate ((((a1).length : Nat) : Int) : Int).toNat (false : Bool)), (a0, ())))))))))))).bind fun r1 =>
    some r1.2.2.2.2.1.1
  else
    none

def leatref44_Of_L3 (_N : Nat) (F : ((Int × (Int × Unit)) × ((List (Int × (Int × (Int × (Int × (Int × Int)))))) × ((List (Int × (Int × (Int × (Int × (Int × Int)))))) × Unit))) → Option (Unit × ((List (Int × (Int × (Int × (Int × (Int × Int)))))) × Unit))) (x : ((Int × (Int × Unit)) × ((List (Int × (Int × (Int × (Int × (Int × Int)))))) × ((List (Int × (Int × (Int × (Int × (Int × Int)))))) × Unit)))) : Option (Unit × ((List (Int × (Int × (Int × (Int × (Int × Int)))))) × Unit)) :=
  bif (decide (x.1.2.1 < (((x.2.1).length : Nat) : Int))) then
    bif ((decide ((0 : Int) ≤ x.1.2.1)) && (decide (x.1.2.1 < (((x.2.1).length : Nat) : Int)))) then
      bif ((! ((x.2.1.getD (x.1.2.1 : Int).toNat (0, (0, (0, (0, (0, 0)))))).2.1 == 8)) == true) then
        bif ((decide ((0 : Int) ≤ x.1.2.1)) && (decide (x.1.2.1 < (((x.2.1).length : Nat) : Int)))) then
          bif ((decide ((0 : Int) ≤ (x.2.1.getD (x.1.2.1 : Int).toNat (0, (0, (0, (0, (0, 0)))))).2.2.1)) == true) then
            bif ((decide ((0 : Int) ≤ x.1.2.1)) && (decide (x.1.2.1 < (((x.2.1).length : Nat) : Int)))) then
              bif (decide ((x.2.1.getD (x.1.2.1 : Int).toNat (0, (0, (0, (0, (0, 0)))))).2.2.1 < x.1.1)) then
                bif ((decide ((0 : Int) ≤ x.1.2.1)) && (decide (x.1.2.1 < (((x.2.1).length : Nat) : Int)))) then
                  bif (decide ((((x.2.2.1).length + (([(x.2.1.getD (x.1.2.1 : Int).toNat (0, (0, (0, (0, (0, 0))))))] : List (Int × (Int × (Int × (Int × (Int × Int))))))).length) * 48) ≤ 140737488355328)) then
                    F ((x.1.1, ((IntKind.wrap .i64 (x.1.2.1 + 1)), ())), (x.2.1, ((x.2.2.1 ++ ([(x.2.1.getD (x.1.2.1 : Int).toNat (0, (0, (0, (0, (0, 0))))))] : List (Int × (Int × (Int × (Int × (Int × Int))))))), ())))
                  else
                    none
                else
                  none
              else
                F ((x.1.1, ((IntKind.wrap .i64 (x.1.2.1 + 1)), ())), (x.2.1, (x.2.2.1, ())))
            else
              none
          else
            F ((x.1.1, ((IntKind.wrap .i64 (x.1.2.1 + 1)), ())), (x.2.1, (x.2.2.1, ())))
        else
          none
      else
        F ((x.1.1, ((IntKind.wrap .i64 (x.1.2.1 + 1)), ())), (x.2.1, (x.2.2.1, ())))
    else
      none
  else
    some ((), (x.2.2.1, ()))

def leatref44_Of (N : Nat) (a0 : (List (Int × (Int × (Int × (Int × (Int × Int))))))) (a1 : Int) : Option (List (Int × (Int × (Int × (Int × (Int × Int)))))) :=
  (iter (leatref44_Of_L3 N) N ((a1, (0, ())), (a0, (([] : List (Int × (Int × (Int × (Int × (Int × Int)))))), ())))).bind fun r0 =>
  some r0.2.1

def leatref44_odd (_N : Nat) (a0 : Int) : Option Bool :=
  some (! ((Int.tmod a0 2) == 0))

def leatref44_isLow_L5 (N : Nat) (F : ((Int × (Bool × (Int × Unit))) × ((List (Int × (Int × (Int × (Int × (Int × Int)))))) × Unit)) → Option ((Bool × Unit) × Unit)) (x : ((Int × (Bool × (Int × Unit))) × ((List (Int × (Int × (Int × (Int × (Int × Int)))))) × Unit))) : Option ((Bool × Unit) × Unit) :=
  bif (decide (x.1.2.2.1 < x.1.1)) then
    bif ((decide ((0 : Int) ≤ x.1.2.2.1)) && (decide (x.1.2.2.1 < (((x.2.1).length : Nat) : Int)))) then
      bif (((x.2.1.getD (x.1.2.2.1 : Int).toNat (0, (0, (0, (0, (0, 0)))))).2.1 == 1) == true) then
        bif ((decide ((0 : Int) ≤ x.1.2.2.1)) && (decide (x.1.2.2.1 < (((x.2.1).length : Nat) : Int)))) then
          bif ((decide ((0 : Int) ≤ x.1.1)) && (decide (x.1.1 < (((x.2.1).length : Nat) : Int)))) then
            bif ((x.2.1.getD (x.1.2.2.1 : Int).toNat (0, (0, (0, (0, (0, 0)))))).2.2.1 == (x.2.1.getD (x.1.1 : Int).toNat (0, (0, (0, (0, (0, 0)))))).2.2.1) then
              bif ((decide ((0 : Int) ≤ x.1.2.2.1)) && (decide (x.1.2.2.1 < (((x.2.1).length : Nat) : Int)))) then
                (leatref44_odd N (x.2.1.getD (x.1.2.2.1 : Int).toNat (0, (0, (0, (0, (0, 0)))))).2.2.2.2.1).bind fun r0 =>
                F ((x.1.1, (r0, ((IntKind.wrap .i64 (x.1.2.2.1 + 1)), ()))), (x.2.1, ()))
              else
                none
            else
              F ((x.1.1, (x.1.2.1, ((IntKind.wrap .i64 (x.1.2.2.1 + 1)), ()))), (x.2.1, ()))
          else
            none
        else
          none
      else
        F ((x.1.1, (x.1.2.1, ((IntKind.wrap .i64 (x.1.2.2.1 + 1)), ()))), (x.2.1, ()))
    else
      none
  else
    some ((x.1.2.1, ()), ())

def leatref44_isLow (N : Nat) (a0 : (List (Int × (Int × (Int × (Int × (Int × Int))))))) (a1 : Int) : Option Bool :=
  bif ((decide ((0 : Int) ≤ a1)) && (decide (a1 < (((a0).length : Nat) : Int)))) then
    bif (! ((a0.getD (a1 : Int).toNat (0, (0, (0, (0, (0, 0)))))).2.2.2.2.1 == 3)) then
      bif ((decide ((0 : Int) ≤ a1)) && (decide (a1 < (((a0).length : Nat) : Int)))) then
        (leatref44_odd N (a0.getD (a1 : Int).toNat (0, (0, (0, (0, (0, 0)))))).2.2.2.2.1).bind fun r0 =>
        some r0
      else
        none
    else
      (iter (leatref44_isLow_L5 N) N ((a1, (false, (0, ()))), (a0, ()))).bind fun r1 =>
      some r1.1.1
  else
    none

def leatref44_Size (_N : Nat) (a0 : (List Int)) (a1 : Int) : Option Int :=
  bif ((decide ((0 : Int) ≤ a1)) && (decide (a1 < (((a0).length : Nat) : Int)))) then
    some (imn (imx (a0.getD (a1 : Int).toNat 0) 1) 65536)
  else
    none
def leatref44_Rows_L6_j1 (_N : Nat) (F : ((Int × (Int × Unit)) × ((List Int) × ((List (Int × (Int × (Int × (Int × (Int × Int)))))) × ((List (List Int)) × ((List Int) × Unit))))) → Option (Unit × ((List (List Int)) × ((List Int) × Unit)))) (x : ((Int × (Int × Unit)) × ((List Int) × ((List (Int × (Int × (Int × (Int × (Int × Int)))))) × ((List (List Int)) × ((List Int) × Unit)))))) (p100 : Int) (p101 : (List Int)) : Option (Unit × ((List (List Int)) × ((List Int) × Unit))) :=
  bif (decide (p100 ≤ 0)) then
    bif (decide ((((x.2.2.2.1).length + (([p101] : List (List Int))).length) * 24) ≤ 140737488355328)) then
      F ((p100, ((IntKind.wrap .i64 (x.1.2.1 + 1)), ())), (x.2.1, (x.2.2.1, ((x.2.2.2.1 ++ ([p101] : List (List Int))), (([] : List Int), ())))))
    else
      none
  else
    F ((p100, ((IntKind.wrap .i64 (x.1.2.1 + 1)), ())), (x.2.1, (x.2.2.1, (x.2.2.2.1, (p101, ())))))
def leatref44_Rows_L6 (N : Nat) (F : ((Int × (Int × Unit)) × ((List Int) × ((List (Int × (Int × (Int × (Int × (Int × Int)))))) × ((List (List Int)) × ((List Int) × Unit))))) → Option (Unit × ((List (List Int)) × ((List Int) × Unit)))) (x : ((Int × (Int × Unit)) × ((List Int) × ((List (Int × (Int × (Int × (Int × (Int × Int)))))) × ((List (List Int)) × ((List Int) × Unit)))))) : Option (Unit × ((List (List Int)) × ((List Int) × Unit))) :=
  bif (decide (x.1.2.1 < (((x.2.2.1).length : Nat) : Int))) then
    bif ((decide ((0 : Int) ≤ x.1.2.1)) && (decide (x.1.2.1 < (((x.2.2.1).length : Nat) : Int)))) then
      bif (((x.2.2.1.getD (x.1.2.1 : Int).toNat (0, (0, (0, (0, (0, 0)))))).2.1 == 1) == true) then
        (leatref44_odd N (x.2.2.1.getD (x.1.2.1 : Int).toNat (0, (0, (0, (0, (0, 0)))))).2.2.2.2.1).bind fun r0 =>
        bif (!r0) then
          bif ((! ((x.2.2.1.getD (x.1.2.1 : Int).toNat (0, (0, (0, (0, (0, 0)))))).2.1 == 3)) == true) then
            bif ((! ((x.2.2.1.getD (x.1.2.1 : Int).toNat (0, (0, (0, (0, (0, 0)))))).2.1 == 2)) == false) then
              bif ((x.2.2.1.getD (x.1.2.1 : Int).toNat (0, (0, (0, (0, (0, 0)))))).2.2.2.2.2 == 1) then
                F (((IntKind.wrap .i64 (x.1.1 + 1)), ((IntKind.wrap .i64 (x.1.2.1 + 1)), ())), (x.2.1, (x.2.2.1, (x.2.2.2.1, (x.2.2.2.2.1, ())))))
              else
                (leatref44_isLow N x.2.2.1 x.1.2.1).bind fun r1 =>
                bif (((x.2.2.1.getD (x.1.2.1 : Int).toNat (0, (0, (0, (0, (0, 0)))))).2.1 == 3) == true) then
                  bif (decide ((0 : Int) < (IntKind.wrap .i64 (x.1.1 + 1)))) then
                    bif r1 then
                      (leatref44_Size N x.2.1 (x.2.2.1.getD (x.1.2.1 : Int).toNat (0, (0, (0, (0, (0, 0)))))).2.2.1).bind fun r2 =>
                      bif (decide ((((x.2.2.2.2.1).length + (([(IntKind.wrap .i64 (0 - r2))] : List Int)).length) * 8) ≤ 140737488355328)) then
                        bif (!r1) then
                          leatref44_Rows_L6_j1 N F x (IntKind.wrap .i64 ((IntKind.wrap .i64 (x.1.1 + 1)) - 1)) (x.2.2.2.2.1 ++ ([(IntKind.wrap .i64 (0 - r2))] : List Int))
                        else
                          leatref44_Rows_L6_j1 N F x (IntKind.wrap .i64 (x.1.1 + 1)) (x.2.2.2.2.1 ++ ([(IntKind.wrap .i64 (0 - r2))] : List Int))
                      else
                        none
                    else
                      (leatref44_Size N x.2.1 (x.2.2.1.getD (x.1.2.1 : Int).toNat (0, (0, (0, (0, (0, 0)))))).2.2.1).bind fun r3 =>
                      bif (decide ((((x.2.2.2.2.1).length + (([(IntKind.wrap .i64 (15 * r3))] : List Int)).length) * 8) ≤ 140737488355328)) then
                        bif (!r1) then
                          leatref44_Rows_L6_j1 N F x (IntKind.wrap .i64 ((IntKind.wrap .i64 (x.1.1 + 1)) - 1)) (x.2.2.2.2.1 ++ ([(IntKind.wrap .i64 (15 * r3))] : List Int))
                        else
                          leatref44_Rows_L6_j1 N F x (IntKind.wrap .i64 (x.1.1 + 1)) (x.2.2.2.2.1 ++ ([(IntKind.wrap .i64 (15 * r3))] : List Int))
                      else
                        none
                  else
                    bif (!r1) then
                      leatref44_Rows_L6_j1 N F x (IntKind.wrap .i64 ((IntKind.wrap .i64 (x.1.1 + 1)) - 1)) x.2.2.2.2.1
                    else
                      leatref44_Rows_L6_j1 N F x (IntKind.wrap .i64 (x.1.1 + 1)) x.2.2.2.2.1
                else
                  bif (!r1) then
                    leatref44_Rows_L6_j1 N F x (IntKind.wrap .i64 ((IntKind.wrap .i64 (x.1.1 + 1)) - 1)) x.2.2.2.2.1
                  else
                    leatref44_Rows_L6_j1 N F x (IntKind.wrap .i64 (x.1.1 + 1)) x.2.2.2.2.1
            else
              F (((IntKind.wrap .i64 (x.1.1 + 1)), ((IntKind.wrap .i64 (x.1.2.1 + 1)), ())), (x.2.1, (x.2.2.1, (x.2.2.2.1, (x.2.2.2.2.1, ())))))
          else
            (leatref44_isLow N x.2.2.1 x.1.2.1).bind fun r4 =>
            bif (((x.2.2.1.getD (x.1.2.1 : Int).toNat (0, (0, (0, (0, (0, 0)))))).2.1 == 3) == true) then
              bif (decide ((0 : Int) < (IntKind.wrap .i64 (x.1.1 + 1)))) then
                bif r4 then
                  (leatref44_Size N x.2.1 (x.2.2.1.getD (x.1.2.1 : Int).toNat (0, (0, (0, (0, (0, 0)))))).2.2.1).bind fun r5 =>
                  bif (decide ((((x.2.2.2.2.1).length + (([(IntKind.wrap .i64 (0 - r5))] : List Int)).length) * 8) ≤ 140737488355328)) then
                    bif (!r4) then
                      leatref44_Rows_L6_j1 N F x (IntKind.wrap .i64 ((IntKind.wrap .i64 (x.1.1 + 1)) - 1)) (x.2.2.2.2.1 ++ ([(IntKind.wrap .i64 (0 - r5))] : List Int))
                    else
                      leatref44_Rows_L6_j1 N F x (IntKind.wrap .i64 (x.1.1 + 1)) (x.2.2.2.2.1 ++ ([(IntKind.wrap .i64 (0 - r5))] : List Int))
                  else
                    none
                else
                  (leatref44_Size N x.2.1 (x.2.2.1.getD (x.1.2.1 : Int).toNat (0, (0, (0, (0, (0, 0)))))).2.2.1).bind fun r6 =>
                  bif (decide ((((x.2.2.2.2.1).length + (([(IntKind.wrap .i64 (15 * r6))] : List Int)).length) * 8) ≤ 140737488355328)) then
                    bif (!r4) then
                      leatref44_Rows_L6_j1 N F x (IntKind.wrap .i64 ((IntKind.wrap .i64 (x.1.1 + 1)) - 1)) (x.2.2.2.2.1 ++ ([(IntKind.wrap .i64 (15 * r6))] : List Int))
                    else
                      leatref44_Rows_L6_j1 N F x (IntKind.wrap .i64 (x.1.1 + 1)) (x.2.2.2.2.1 ++ ([(IntKind.wrap .i64 (15 * r6))] : List Int))
                  else
                    none
              else
                bif (!r4) then
                  leatref44_Rows_L6_j1 N F x (IntKind.wrap .i64 ((IntKind.wrap .i64 (x.1.1 + 1)) - 1)) x.2.2.2.2.1
                else
                  leatref44_Rows_L6_j1 N F x (IntKind.wrap .i64 (x.1.1 + 1)) x.2.2.2.2.1
            else
              bif (!r4) then
                leatref44_Rows_L6_j1 N F x (IntKind.wrap .i64 ((IntKind.wrap .i64 (x.1.1 + 1)) - 1)) x.2.2.2.2.1
              else
                leatref44_Rows_L6_j1 N F x (IntKind.wrap .i64 (x.1.1 + 1)) x.2.2.2.2.1
        else
          bif ((! ((x.2.2.1.getD (x.1.2.1 : Int).toNat (0, (0, (0, (0, (0, 0)))))).2.1 == 3)) == true) then
            bif ((! ((x.2.2.1.getD (x.1.2.1 : Int).toNat (0, (0, (0, (0, (0, 0)))))).2.1 == 2)) == false) then
              bif ((x.2.2.1.getD (x.1.2.1 : Int).toNat (0, (0, (0, (0, (0, 0)))))).2.2.2.2.2 == 1) then
                F ((x.1.1, ((IntKind.wrap .i64 (x.1.2.1 + 1)), ())), (x.2.1, (x.2.2.1, (x.2.2.2.1, (x.2.2.2.2.1, ())))))
              else
                (leatref44_isLow N x.2.2.1 x.1.2.1).bind fun r7 =>
                bif (((x.2.2.1.getD (x.1.2.1 : Int).toNat (0, (0, (0, (0, (0, 0)))))).2.1 == 3) == true) then
                  bif (decide ((0 : Int) < x.1.1)) then
                    bif r7 then
                      (leatref44_Size N x.2.1 (x.2.2.1.getD (x.1.2.1 : Int).toNat (0, (0, (0, (0, (0, 0)))))).2.2.1).bind fun r8 =>
                      bif (decide ((((x.2.2.2.2.1).length + (([(IntKind.wrap .i64 (0 - r8))] : List Int)).length) * 8) ≤ 140737488355328)) then
                        bif (!r7) then
                          leatref44_Rows_L6_j1 N F x (IntKind.wrap .i64 (x.1.1 - 1)) (x.2.2.2.2.1 ++ ([(IntKind.wrap .i64 (0 - r8))] : List Int))
                        else
                          leatref44_Rows_L6_j1 N F x x.1.1 (x.2.2.2.2.1 ++ ([(IntKind.wrap .i64 (0 - r8))] : List Int))
                      else
                        none
                    else
                      (leatref44_Size N x.2.1 (x.2.2.1.getD (x.1.2.1 : Int).toNat (0, (0, (0, (0, (0, 0)))))).2.2.1).bind fun r9 =>
                      bif (decide ((((x.2.2.2.2.1).length + (([(IntKind.wrap .i64 (15 * r9))] : List Int)).length) * 8) ≤ 140737488355328)) then
                        bif (!r7) then
                          leatref44_Rows_L6_j1 N F x (IntKind.wrap .i64 (x.1.1 - 1)) (x.2.2.2.2.1 ++ ([(IntKind.wrap .i64 (15 * r9))] : List Int))
                        else
                          leatref44_Rows_L6_j1 N F x x.1.1 (x.2.2.2.2.1 ++ ([(IntKind.wrap .i64 (15 * r9))] : List Int))
                      else
                        none
                  else
                    bif (!r7) then
                      leatref44_Rows_L6_j1 N F x (IntKind.wrap .i64 (x.1.1 - 1)) x.2.2.2.2.1
                    else
                      leatref44_Rows_L6_j1 N F x x.1.1 x.2.2.2.2.1
                else
                  bif (!r7) then
                    leatref44_Rows_L6_j1 N F x (IntKind.wrap .i64 (x.1.1 - 1)) x.2.2.2.2.1
                  else
                    leatref44_Rows_L6_j1 N F x x.1.1 x.2.2.2.2.1
            else
              F ((x.1.1, ((IntKind.wrap .i64 (x.1.2.1 + 1)), ())), (x.2.1, (x.2.2.1, (x.2.2.2.1, (x.2.2.2.2.1, ())))))
          else
            (leatref44_isLow N x.2.2.1 x.1.2.1).bind fun r10 =>
            bif (((x.2.2.1.getD (x.1.2.1 : Int).toNat (0, (0, (0, (0, (0, 0)))))).2.1 == 3) == true) then
              bif (decide ((0 : Int) < x.1.1)) then
                bif r10 then
                  (leatref44_Size N x.2.1 (x.2.2.1.getD (x.1.2.1 : Int).toNat (0, (0, (0, (0, (0, 0)))))).2.2.1).bind fun r11 =>
                  bif (decide ((((x.2.2.2.2.1).length + (([(IntKind.wrap .i64 (0 - r11))] : List Int)).length) * 8) ≤ 140737488355328)) then
                    bif (!r10) then
                      leatref44_Rows_L6_j1 N F x (IntKind.wrap .i64 (x.1.1 - 1)) (x.2.2.2.2.1 ++ ([(IntKind.wrap .i64 (0 - r11))] : List Int))
                    else
                      leatref44_Rows_L6_j1 N F x x.1.1 (x.2.2.2.2.1 ++ ([(IntKind.wrap .i64 (0 - r11))] : List Int))
                  else
                    none
                else
                  (leatref44_Size N x.2.1 (x.2.2.1.getD (x.1.2.1 : Int).toNat (0, (0, (0, (0, (0, 0)))))).2.2.1).bind fun r12 =>
                  bif (decide ((((x.2.2.2.2.1).length + (([(IntKind.wrap .i64 (15 * r12))] : List Int)).length) * 8) ≤ 140737488355328)) then
                    bif (!r10) then
                      leatref44_Rows_L6_j1 N F x (IntKind.wrap .i64 (x.1.1 - 1)) (x.2.2.2.2.1 ++ ([(IntKind.wrap .i64 (15 * r12))] : List Int))
                    else
                      leatref44_Rows_L6_j1 N F x x.1.1 (x.2.2.2.2.1 ++ ([(IntKind.wrap .i64 (15 * r12))] : List Int))
                  else
                    none
              else
                bif (!r10) then
                  leatref44_Rows_L6_j1 N F x (IntKind.wrap .i64 (x.1.1 - 1)) x.2.2.2.2.1
                else
                  leatref44_Rows_L6_j1 N F x x.1.1 x.2.2.2.2.1
            else
              bif (!r10) then
                leatref44_Rows_L6_j1 N F x (IntKind.wrap .i64 (x.1.1 - 1)) x.2.2.2.2.1
              else
                leatref44_Rows_L6_j1 N F x x.1.1 x.2.2.2.2.1
      else
        bif ((! ((x.2.2.1.getD (x.1.2.1 : Int).toNat (0, (0, (0, (0, (0, 0)))))).2.1 == 3)) == true) then
          bif ((! ((x.2.2.1.getD (x.1.2.1 : Int).toNat (0, (0, (0, (0, (0, 0)))))).2.1 == 2)) == false) then
            bif ((x.2.2.1.getD (x.1.2.1 : Int).toNat (0, (0, (0, (0, (0, 0)))))).2.2.2.2.2 == 1) then
              F ((x.1.1, ((IntKind.wrap .i64 (x.1.2.1 + 1)), ())), (x.2.1, (x.2.2.1, (x.2.2.2.1, (x.2.2.2.2.1, ())))))
            else
              (leatref44_isLow N x.2.2.1 x.1.2.1).bind fun r13 =>
              bif (((x.2.2.1.getD (x.1.2.1 : Int).toNat (0, (0, (0, (0, (0, 0)))))).2.1 == 3) == true) then
                bif (decide ((0 : Int) < x.1.1)) then
                  bif r13 then
                    (leatref44_Size N x.2.1 (x.2.2.1.getD (x.1.2.1 : Int).toNat (0, (0, (0, (0, (0, 0)))))).2.2.1).bind fun r14 =>
                    bif (decide ((((x.2.2.2.2.1).length + (([(IntKind.wrap .i64 (0 - r14))] : List Int)).length) * 8) ≤ 140737488355328)) then
                      bif (!r13) then
                        leatref44_Rows_L6_j1 N F x (IntKind.wrap .i64 (x.1.1 - 1)) (x.2.2.2.2.1 ++ ([(IntKind.wrap .i64 (0 - r14))] : List Int))
                      else
                        leatref44_Rows_L6_j1 N F x x.1.1 (x.2.2.2.2.1 ++ ([(IntKind.wrap .i64 (0 - r14))] : List Int))
                    else
                      none
                  else
                    (leatref44_Size N x.2.1 (x.2.2.1.getD (x.1.2.1 : Int).toNat (0, (0, (0, (0, (0, 0)))))).2.2.1).bind fun r15 =>
                    bif (decide ((((x.2.2.2.2.1).length + (([(IntKind.wrap .i64 (15 * r15))] : List Int)).length) * 8) ≤ 140737488355328)) then
                      bif (!r13) then
                        leatref44_Rows_L6_j1 N F x (IntKind.wrap .i64 (x.1.1 - 1)) (x.2.2.2.2.1 ++ ([(IntKind.wrap .i64 (15 * r15))] : List Int))
                      else
                        leatref44_Rows_L6_j1 N F x x.1.1 (x.2.2.2.2.1 ++ ([(IntKind.wrap .i64 (15 * r15))] : List Int))
                    else
                      none
                else
                  bif (!r13) then
                    leatref44_Rows_L6_j1 N F x (IntKind.wrap .i64 (x.1.1 - 1)) x.2.2.2.2.1
                  else
                    leatref44_Rows_L6_j1 N F x x.1.1 x.2.2.2.2.1
              else
                bif (!r13) then
                  leatref44_Rows_L6_j1 N F x (IntKind.wrap .i64 (x.1.1 - 1)) x.2.2.2.2.1
                else
                  leatref44_Rows_L6_j1 N F x x.1.1 x.2.2.2.2.1
          else
            F ((x.1.1, ((IntKind.wrap .i64 (x.1.2.1 + 1)), ())), (x.2.1, (x.2.2.1, (x.2.2.2.1, (x.2.2.2.2.1, ())))))
        else
          (leatref44_isLow N x.2.2.1 x.1.2.1).bind fun r16 =>
          bif (((x.2.2.1.getD (x.1.2.1 : Int).toNat (0, (0, (0, (0, (0, 0)))))).2.1 == 3) == true) then
            bif (decide ((0 : Int) < x.1.1)) then
              bif r16 then
                (leatref44_Size N x.2.1 (x.2.2.1.getD (x.1.2.1 : Int).toNat (0, (0, (0, (0, (0, 0)))))).2.2.1).bind fun r17 =>
                bif (decide ((((x.2.2.2.2.1).length + (([(IntKind.wrap .i64 (0 - r17))] : List Int)).length) * 8) ≤ 140737488355328)) then
                  bif (!r16) then
                    leatref44_Rows_L6_j1 N F x (IntKind.wrap .i64 (x.1.1 - 1)) (x.2.2.2.2.1 ++ ([(IntKind.wrap .i64 (0 - r17))] : List Int))
                  else
                    leatref44_Rows_L6_j1 N F x x.1.1 (x.2.2.2.2.1 ++ ([(IntKind.wrap .i64 (0 - r17))] : List Int))
                else
                  none
              else
                (leatref44_Size N x.2.1 (x.2.2.1.getD (x.1.2.1 : Int).toNat (0, (0, (0, (0, (0, 0)))))).2.2.1).bind fun r18 =>
                bif (decide ((((x.2.2.2.2.1).length + (([(IntKind.wrap .i64 (15 * r18))] : List Int)).length) * 8) ≤ 140737488355328)) then
                  bif (!r16) then
                    leatref44_Rows_L6_j1 N F x (IntKind.wrap .i64 (x.1.1 - 1)) (x.2.2.2.2.1 ++ ([(IntKind.wrap .i64 (15 * r18))] : List Int))
                  else
                    leatref44_Rows_L6_j1 N F x x.1.1 (x.2.2.2.2.1 ++ ([(IntKind.wrap .i64 (15 * r18))] : List Int))
                else
                  none
            else
              bif (!r16) then
                leatref44_Rows_L6_j1 N F x (IntKind.wrap .i64 (x.1.1 - 1)) x.2.2.2.2.1
              else
                leatref44_Rows_L6_j1 N F x x.1.1 x.2.2.2.2.1
          else
            bif (!r16) then
              leatref44_Rows_L6_j1 N F x (IntKind.wrap .i64 (x.1.1 - 1)) x.2.2.2.2.1
            else
              leatref44_Rows_L6_j1 N F x x.1.1 x.2.2.2.2.1
    else
      none
  else
    some ((), (x.2.2.2.1, (x.2.2.2.2.1, ())))

def leatref44_Rows (N : Nat) (x : (Unit × ((List (Int × (Int × (Int × (Int × (Int × Int)))))) × ((List Int) × Unit)))) : Option (Unit × ((List (List Int)) × Unit)) :=
  (leatref44_Of N x.2.1 (((x.2.2.1).length : Nat) : Int)).bind fun r0 =>
  (iter (leatref44_Rows_L6 N) N ((0, (0, ())), (x.2.2.1, (r0, (([] : List (List Int)), (([] : List Int), ())))))).bind fun r1 =>
  bif (decide ((((r1.2.1).length + (([r1.2.2.1] : List (List Int))).length) * 24) ≤ 140737488355328)) then
    some ((), ((r1.2.1 ++ ([r1.2.2.1] : List (List Int))), ()))
  else
    none

def leatref44_Margin_L11 (_N : Nat) (F : ((Int × (Int × (Int × (Int × (Int × Unit))))) × ((List (List Int)) × Unit)) → Option ((Int × (Int × (Int × Unit))) × ((List (List Int)) × Unit))) (x : ((Int × (Int × (Int × (Int × (Int × Unit))))) × ((List (List Int)) × Unit))) : Option ((Int × (Int × (Int × Unit))) × ((List (List Int)) × Unit)) :=
  bif ((decide ((0 : Int) ≤ x.1.2.1)) && (decide (x.1.2.1 < (((x.2.1).length : Nat) : Int)))) then
    bif (decide (x.1.2.2.2.2.1 < ((((x.2.1.getD (x.1.2.1 : Int).toNat ([] : List Int))).length : Nat) : Int))) then
      bif ((decide ((0 : Int) ≤ x.1.2.1)) && (decide (x.1.2.1 < (((x.2.1).length : Nat) : Int)))) then
        bif ((decide ((0 : Int) ≤ x.1.2.2.2.2.1)) && (decide (x.1.2.2.2.2.1 < ((((x.2.1.getD (x.1.2.1 : Int).toNat ([] : List Int))).length : Nat) : Int)))) then
          F (((imn x.1.1 (IntKind.wrap .i64 (x.1.2.2.2.1 + ((x.2.1.getD (x.1.2.1 : Int).toNat ([] : List Int)).getD (x.1.2.2.2.2.1 : Int).toNat 0)))), (x.1.2.1, (x.1.2.2.1, ((IntKind.wrap .i64 (x.1.2.2.2.1 + ((x.2.1.getD (x.1.2.1 : Int).toNat ([] : List Int)).getD (x.1.2.2.2.2.1 : Int).toNat 0))), ((IntKind.wrap .i64 (x.1.2.2.2.2.1 + 1)), ()))))), (x.2.1, ()))
        else
          none
      else
        none
    else
      some ((x.1.1, (x.1.2.1, (x.1.2.2.1, ()))), (x.2.1, ()))
  else
    none

def leatref44_Margin_L7 (N : Nat) (F : ((Int × (Int × (Int × Unit))) × ((List (List Int)) × Unit)) → Option ((Int × (Int × Unit)) × ((List (List Int)) × Unit))) (x : ((Int × (Int × (Int × Unit))) × ((List (List Int)) × Unit))) : Option ((Int × (Int × Unit)) × ((List (List Int)) × Unit)) :=
  bif ((decide ((0 : Int) ≤ x.1.2.1)) && (decide (x.1.2.1 < (((x.2.1).length : Nat) : Int)))) then
    bif (decide (x.1.2.2.1 < ((((x.2.1.getD (x.1.2.1 : Int).toNat ([] : List Int))).length : Nat) : Int))) then
      (iter (leatref44_Margin_L11 N) N ((x.1.1, (x.1.2.1, (x.1.2.2.1, (0, (x.1.2.2.1, ()))))), (x.2.1, ()))).bind fun r0 =>
      F ((r0.1.1, (r0.1.2.1, ((IntKind.wrap .i64 (r0.1.2.2.1 + 1)), ()))), (r0.2.1, ()))
    else
      some ((x.1.1, (x.1.2.1, ())), (x.2.1, ()))
  else
    none

def leatref44_Margin_L4 (N : Nat) (F : ((Int × (Int × Unit)) × ((List (List Int)) × Unit)) → Option ((Int × Unit) × Unit)) (x : ((Int × (Int × Unit)) × ((List (List Int)) × Unit))) : Option ((Int × Unit) × Unit) :=
  bif (decide (x.1.2.1 < (((x.2.1).length : Nat) : Int))) then
    (iter (leatref44_Margin_L7 N) N ((x.1.1, (x.1.2.1, (0, ()))), (x.2.1, ()))).bind fun r0 =>
    F ((r0.1.1, ((IntKind.wrap .i64 (r0.1.2.1 + 1)), ())), (r0.2.1, ()))
  else
    some ((x.1.1, ()), ())

def leatref44_Margin (N : Nat) (a0 : (List (Int × (Int × (Int × (Int × (Int × Int))))))) (a1 : (List Int)) : Option Int :=
  (leatref44_Rows N ((), (a0, (a1, ())))).bind fun r0 =>
  (iter (leatref44_Margin_L4 N) N ((0, (0, ())), (r0.2.1, ()))).bind fun r1 =>
  some r1.1.1
def sat_Div (_N : Nat) (a0 : Int) (a1 : Int) : Option Int :=
  bif (a1 == 0) then
    some 0
  else bif ((a0 == (-9223372036854775808)) == true) then
    bif (a1 == (-1)) then
      some 9223372036854775807
    else bif (!(decide (a1 = 0))) then
      bif (!(decide (a1 = 0))) then
        bif ((!((Int.tmod a0 a1) == 0)) == true) then
          bif (!((decide (a0 < 0)) == (decide (a1 < 0)))) then
            some (IntKind.wrap .i64 ((IntKind.wrap .i64 (Int.tdiv a0 a1)) - 1))
          else some (IntKind.wrap .i64 (Int.tdiv a0 a1))
        else some (IntKind.wrap .i64 (Int.tdiv a0 a1))
      else none
    else none
  else bif (!(decide (a1 = 0))) then
    bif (!(decide (a1 = 0))) then
      bif ((!((Int.tmod a0 a1) == 0)) == true) then
        bif (!((decide (a0 < 0)) == (decide (a1 < 0)))) then
          some (IntKind.wrap .i64 ((IntKind.wrap .i64 (Int.tdiv a0 a1)) - 1))
        else some (IntKind.wrap .i64 (Int.tdiv a0 a1))
      else some (IntKind.wrap .i64 (Int.tdiv a0 a1))
    else none
  else none
def sat_end (_N : Nat) (a0 : Bool) : Option Int :=
  bif a0 then
    some (-9223372036854775808)
  else some 9223372036854775807
def sat_Add (N : Nat) (a0 : Int) (a1 : Int) : Option Int :=
  bif (decide ((bits .and .i64 (bits .xor .i64 a0 (IntKind.wrap .i64 (a0 + a1))) (bits .xor .i64 a1 (IntKind.wrap .i64 (a0 + a1)))) < 0)) then
    (sat_end N (decide (a0 < 0))).bind fun r0 =>
    some r0
  else some (IntKind.wrap .i64 (a0 + a1))

def meter_Idle_R5 (N : Nat) (y : (Int × (Int × (Int × (Int × (Int × Int)))))) (F : (Unit × (Unit × ((Int × Unit) × ((Int × Unit) × ((Int × Unit) × ((Int × Unit) × (Unit × ((Int × Unit) × ((List Int) × ((List (Int × (Int × (Int × (Int × (Int × Int)))))) × Unit)))))))))) → Option (Unit × (Unit × ((Int × Unit) × ((Int × Unit) × ((Int × Unit) × ((Int × Unit) × (Unit × ((Int × Unit) × ((List Int) × ((List (Int × (Int × (Int × (Int × (Int × Int)))))) × Unit))))))))))) (x : (Unit × (Unit × ((Int × Unit) × ((Int × Unit) × ((Int × Unit) × ((Int × Unit) × (Unit × ((Int × Unit) × ((List Int) × ((List (Int × (Int × (Int × (Int × (Int × Int)))))) × Unit))))))))))) : Option (Unit × (Unit × ((Int × Unit) × ((Int × Unit) × ((Int × Unit) × ((Int × Unit) × (Unit × ((Int × Unit) × ((List Int) × ((List (Int × (Int × (Int × (Int × (Int × Int)))))) × Unit)))))))))) :=
  bif (! (y.2.1 == 3)) then
    F ((), ((), ((x.2.2.1.1, ()), ((x.2.2.2.1.1, ()), ((x.2.2.2.2.1.1, ()), ((x.2.2.2.2.2.1.1, ()), ((), ((x.2.2.2.2.2.2.2.1.1, ()), (x.2.2.2.2.2.2.2.2.1, (x.2.2.2.2.2.2.2.2.2.1, ()))))))))))
  else
    (meter_size N x.2.2.2.2.2.2.2.2.1 y.2.2.1).bind fun r0 =>
    (sat_Div N (IntKind.wrap .i64 ((IntKind.wrap .i64 (0 - r0)) * 1000000)) x.2.2.1.1).bind fun r1 =>
    (sat_Add N (imx y.1 0) (IntKind.wrap .i64 (0 - r1))).bind fun r2 =>
    bif (decide ((imn (imx y.1 x.2.2.2.2.1.1) x.2.2.2.1.1) < (imn r2 x.2.2.2.1.1))) then
      F ((), ((), ((x.2.2.1.1, ()), ((x.2.2.2.1.1, ()), (((imn r2 x.2.2.2.1.1), ()), (((IntKind.wrap .i64 (x.2.2.2.2.2.1.1 + (IntKind.wrap .i64 ((imn r2 x.2.2.2.1.1) - (imn (imx y.1 x.2.2.2.2.1.1) x.2.2.2.1.1))))), ()), ((), ((x.2.2.2.2.2.2.2.1.1, ()), (x.2.2.2.2.2.2.2.2.1, (x.2.2.2.2.2.2.2.2.2.1, ()))))))))))
    else
      F ((), ((), ((x.2.2.1.1, ()), ((x.2.2.2.1.1, ()), ((x.2.2.2.2.1.1, ()), ((x.2.2.2.2.2.1.1, ()), ((), ((x.2.2.2.2.2.2.2.1.1, ()), (x.2.2.2.2.2.2.2.2.1, (x.2.2.2.2.2.2.2.2.2.1, ()))))))))))

def meter_Idle (N : Nat) (a0 : (List (Int × (Int × (Int × (Int × (Int × Int))))))) (a1 : (List Int)) (a2 : Int) (a3 : Int) : Option Int :=
  (sat_Clamp N a2 1 1099511627776).bind fun r0 =>
  (sat_Clamp N a3 0 1125899906842624).bind fun r1 =>
  (bif (decide ((a0).length ≤ 1000000000)) then some (metOf a0 (((a1).length : Nat) : Int)) else none).bind fun r2 =>
  (itR (meter_Idle_R5 N) r2 ((), ((), ((r0, ()), ((r1, ()), ((0, ()), ((0, ()), ((), (((((a1).length : Nat) : Int), ()), (a1, (a0, ()))))))))))).bind fun r3 =>
  some (IntKind.wrap .i64 (r3.2.2.2.1.1 - r3.2.2.2.2.2.1.1))

def leatlaw44_works (N : Nat) : Option Bool :=
  (meter_Idle N ([(0, (3, (0, (0, (0, 0)))))] : List (Int × (Int × (Int × (Int × (Int × Int)))))) ([1000] : List Int) 1000000 5000).bind fun r0 =>
  some (r0 == 4000)

def leatlaw44_MeterMargins (N : Nat) (a0 : (List (Int × (Int × (Int × (Int × (Int × Int))))))) (a1 : (List Int)) (a2 : (Int × Int)) : Option Bool :=
  bif ((decide ((0 : Int) ≤ (imn (((a0).length : Nat) : Int) 80))) && (decide ((imn (((a0).length : Nat) : Int) 80) ≤ (((a0).length : Nat) : Int)))) then
    bif ((decide ((0 : Int) ≤ (imn (((a1).length : Nat) : Int) 6))) && (decide ((imn (((a1).length : Nat) : Int) 6) ≤ (((a1).length : Nat) : Int)))) then
      (meter_Waits N (cutL a0 0 (imn (((a0).length : Nat) : Int) 80)) a2.1 a2.2).bind fun r0 =>
      (leatref44_Waits N (cutL a0 0 (imn (((a0).length : Nat) : Int) 80)) a2.1 a2.2).bind fun r1 =>
      (meter_Margin N (cutL a0 0 (imn (((a0).length : Nat) : Int) 80)) (cutL a1 0 (imn (((a1).length : Nat) : Int) 6))).bind fun r2 =>
      (leatref44_Margin N (cutL a0 0 (imn (((a0).length : Nat) : Int) 80)) (cutL a1 0 (imn (((a1).length : Nat) : Int) 6))).bind fun r3 =>
      bif ((r2 == r3) == true) then
        bif ((r0.1 == r1.1) == true) then
          bif ((r0.2 == r1.2) == true) then
            (leatlaw44_works N).bind fun r4 =>
            some r4
          else
            some false
        else
          some false
      else
        some false
    else
      none
  else
    none
end Go.Proofs.Ytakjmminaolfnaa.W
